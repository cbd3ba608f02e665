/- A word turned to the right, by the program and by the document. -/
import Derived.Test.YtblapbjafbmndaaDoorTab3
import Derived.Test.YtblapbjafbmndaaDoorDD
import Derived.Test.YtblapbjafbmndaaDoorSx24
namespace Go.Proofs.YtblapbjafbmndaaDoor
open Go Go.Sx Go.Sha
set_option linter.unusedVariables false
set_option linter.unusedSimpArgs false
set_option maxRecDepth 100000
set_option maxHeartbeats 4000000

abbrev u64 (x : Int) : M := .one (.v (.int .u64 x))
abbrev u32 (x : Int) : M := .one (.v (.int .u32 x))
abbrev int (x : Int) : M := .one (.v (.int .i64 x))
abbrev bool (b : Bool) : M := .one (.v (.bool b))
abbrev str (s : ByteArray) : M := .one (.v (.string s))
abbrev eB : Int → List SV := (encInt .u8).enc
abbrev byV (x : Value) (b : List Int) : M := .one (.view x 1 (encInt .u8).enc b)
abbrev h32 (l : List Int) : M := .agg [.ints .u8 32 l]

theorem wrap64 {x : Int} (h1 : -9223372036854775808 ≤ x) (h2 : x < 9223372036854775808) : IntKind.i64.wrap x = x := by
  simp [IntKind.wrap, IntKind.bits, IntKind.signed]
  omega
theorem wrapU64 (x : Int) : IntKind.u64.wrap x = x % 18446744073709551616 := by
  simp [IntKind.wrap, IntKind.bits, IntKind.signed]

theorem turn_spec {x n : Int} (h1 : 0 ≤ n) (h2 : n ≤ 32) : SFun Tryd.prog 101 [u32 x, int n] (u32 (rot x n)) := by
  refine SFun.inl [] SOK.nil tok mixed [] IOK.nil true [] [] Tryd.call101 Tryd.func101 rfl (by rfl) ?_
  refine Eq.mp (α := (And ((0 : Int) ≤ n) (And ((0 : Int) ≤ IntKind.wrap IntKind.i64 ((32 : Int) - n)) (And (M.one (SV.v (Value.int IntKind.u32 (Sx.bits BinOp.or IntKind.u32 (shr IntKind.u32 x n) (shl IntKind.u32 x (IntKind.wrap IntKind.i64 ((32 : Int) - n)))))) = M.one (SV.v (Value.int IntKind.u32 (rot x n)))) ((true : Bool) = true))))) (by kernel_rfl) ?_
  rw [wrap64 (x := 32 - n) (by omega) (by omega)]
  repeat' first | exact trivial | refine And.intro ?_ ?_ | with_reducible refine bif_dt (by assumption) ?_ | with_reducible refine bif_df (by assumption) ?_ | with_reducible refine bif_dec (fun _ => ?_) (fun _ => ?_) | with_reducible refine bif_not ?_ | with_reducible refine bif_and ?_ | with_reducible refine bif_or ?_ | with_reducible refine bif_t (by assumption) ?_ | with_reducible refine bif_f (by assumption) ?_ | with_reducible refine bif_t (beq_self_eq_true _) ?_ | with_reducible refine bif_b (fun _ => ?_) (fun _ => ?_) | with_reducible refine ⟨_, Eq.refl (List.map _ _), ?_⟩ | (with_reducible refine Exists.intro (by omega) ?_) | rfl | (intro h0; omega) | omega
def turnT : List M → (M → Prop) → Prop
  | [.one (.v (.int .u32 x)), .one (.v (.int .i64 n))], K => (0 ≤ n ∧ n ≤ 32) ∧ K (u32 (rot x n))
  | _, _ => False
theorem turn_ok : POK Tryd.prog 101 turnT := by
  intro ms K h
  unfold turnT at h ⊢
  split at h
  · exact ⟨_, h.2, (turn_spec h.1.1 h.1.2), rfl, fun _ hk => ⟨h.1, hk⟩⟩
  · exact h.elim

end Go.Proofs.YtblapbjafbmndaaDoor
