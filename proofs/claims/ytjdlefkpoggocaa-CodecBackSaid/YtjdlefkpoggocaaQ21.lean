/- Contracts of sums, differences and order of the package wide. -/
import Derived.Test.YtjdlefkpoggocaaQ20
import Derived.Test.YtjdlefkpoggocaaSx22
namespace Go.Proofs.Ytjdlefkpoggocaa
open Go Go.Sx Go.Wide
set_option linter.unusedVariables false
set_option linter.unusedSimpArgs false
set_option maxRecDepth 100000
set_option maxHeartbeats 4000000

theorem of_spec (n : Int) : SFun Try.prog 29 [u64 n] (wide n 0 0 0) := by
  refine SFun.inl [] SOK.nil tok mixed [] IOK.nil true [] [] Try.call29 Try.func29 rfl (by rfl) ?_
  refine Eq.mp (α := (And (M.agg [SV.ints IntKind.u64 (4 : Nat) (List.set (List.replicate (4 : Nat) (0 : Int)) ((0 : Nat) * (1 : Nat)) n)] = M.agg [SV.ints IntKind.u64 (4 : Nat) [n, (0 : Int), (0 : Int), (0 : Int)]]) ((true : Bool) = true))) (by kernel_rfl) ?_
  repeat' first | exact trivial | refine And.intro ?_ ?_ | with_reducible refine bif_dt (by assumption) ?_ | with_reducible refine bif_df (by assumption) ?_ | with_reducible refine bif_dec (fun _ => ?_) (fun _ => ?_) | with_reducible refine bif_not ?_ | with_reducible refine bif_and ?_ | with_reducible refine bif_or ?_ | with_reducible refine bif_t (by assumption) ?_ | with_reducible refine bif_f (by assumption) ?_ | with_reducible refine bif_t (beq_self_eq_true _) ?_ | with_reducible refine bif_b (fun _ => ?_) (fun _ => ?_) | with_reducible refine ⟨_, Eq.refl (List.map _ _), ?_⟩ | (with_reducible refine Exists.intro (by omega) ?_) | rfl | (intro h0; omega) | omega
def ofT : List M → (M → Prop) → Prop
  | [.one (.v (.int .u64 n))], K => K (wide n 0 0 0)
  | _, _ => False
theorem of_ok : POK Try.prog 29 ofT := by
  intro ms K h
  unfold ofT at h ⊢
  split at h
  · exact ⟨_, h, (of_spec _), rfl, fun _ hk => hk⟩
  · exact h.elim


def low (a0 a1 a2 a3 : Int) : Int × Bool := bif [a0, a1, a2, a3] == [a0, 0, 0, 0] then (a0, true) else (0, false)
end Go.Proofs.Ytjdlefkpoggocaa
