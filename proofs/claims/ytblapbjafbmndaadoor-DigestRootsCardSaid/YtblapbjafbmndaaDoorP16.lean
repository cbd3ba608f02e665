/- The law DigestRoots. -/
import Derived.Test.YtblapbjafbmndaaDoorP15
import Derived.Test.YtblapbjafbmndaaDoorSx24
namespace Go.Proofs.YtblapbjafbmndaaDoor
open Go Go.Sx Go.Sha
set_option linter.unusedVariables false
set_option linter.unusedSimpArgs false
set_option maxRecDepth 100000
set_option maxHeartbeats 4000000

def rtab2T : List M → (M → Prop) → Prop
  | [], K => K (.tup [.agg [.ints .u32 8 firstL], .agg [.ints .u32 64 roundsL]])
  | _, _ => False
theorem rtab2_ok : POK Tryd.prog 66 rtab2T := by
  intro ms K h
  unfold rtab2T at h ⊢
  split at h
  · exact ⟨_, h, (rtable2_spec), rfl, fun _ hk => hk⟩
  · exact h.elim

theorem stays_spec (x : Value) {b : List Int} (hb : By b) (hl : b.length ≤ 140737488351232) : SFun Tryd.prog 20 [byV x b] (h32 (shaF b)) := by
  rw [shaF_eq]
  refine SFun.inl [(65, rsumT), (66, rtab2T)] (SOK.cons rsum_ok (SOK.cons rtab2_ok SOK.nil)) tok mixed [] IOK.nil true [] [] Tryd.call20 Tryd.func20 rfl (by rfl) ?_
  refine Eq.mp (α := (∃ b_1 : List Int, (And (List.map (Enc.enc (encInt IntKind.u8)) b = List.map eB b_1) (And (And (∀ x_1 : Int, (∀ a : x_1 ∈ b_1, (And ((0 : Int) ≤ x_1) (x_1 < (256 : Int))))) (And (List.length b_1 ≤ (140737488351232 : Nat)) (And ((8 : Nat) = (8 : Nat)) (∀ x_1 : Int, (∀ a : x_1 ∈ firstL, (And ((0 : Int) ≤ x_1) (x_1 < (4294967296 : Int)))))))) (And (M.agg [SV.ints IntKind.u8 (32 : Nat) (sumF roundsL firstL b_1)] = M.agg [SV.ints IntKind.u8 (32 : Nat) (sumF roundsL firstL b)]) ((true : Bool) = true)))))) (by kernel_rfl) ?_
  refine ⟨b, rfl, ⟨hb, hl, rfl, firstW⟩, ?_⟩
  repeat' first | exact trivial | refine And.intro ?_ ?_ | with_reducible refine bif_dt (by assumption) ?_ | with_reducible refine bif_df (by assumption) ?_ | with_reducible refine bif_dec (fun _ => ?_) (fun _ => ?_) | with_reducible refine bif_not ?_ | with_reducible refine bif_and ?_ | with_reducible refine bif_or ?_ | with_reducible refine bif_t (by assumption) ?_ | with_reducible refine bif_f (by assumption) ?_ | with_reducible refine bif_t (beq_self_eq_true _) ?_ | with_reducible refine bif_b (fun _ => ?_) (fun _ => ?_) | with_reducible refine ⟨_, Eq.refl (List.map _ _), ?_⟩ | (with_reducible refine Exists.intro (by omega) ?_) | rfl | (intro h0; omega) | omega
def staysT : List M → (M → Prop) → Prop
  | [.one (.view x0 es0 en0 l0)], K => bif Nat.beq es0 1 then ∃ b : List (Int), l0.map en0 = b.map eB ∧ ((By b ∧ b.length ≤ 140737488351232) ∧ K (h32 (shaF b))) else False
  | _, _ => False
theorem stays_ok : POK Tryd.prog 20 staysT := by
  intro ms K h
  unfold staysT at h ⊢
  split at h
  · obtain ⟨hb0, b, he0, h0⟩ := cond_false_elim (b := Nat.beq _ _) h
    have hs0 := Nat.eq_of_beq_eq_true hb0
    subst hs0
    exact ⟨_, h0.2, (stays_spec _ h0.1.1 h0.1.2).seen (.cons (.view he0) .nil), rfl, fun _ hk => by show cond _ _ _; refine (show cond true _ _ from ⟨_, he0, ?_⟩); exact ⟨h0.1, hk⟩⟩
  · exact h.elim

theorem roots_spec (x : Value) {b : List Int} (hb : By b) (hl : b.length ≤ 140737488351232) : SFun Tryd.prog 4 [byV x b] (bool true) := by
  refine SFun.inl [(17, sumT), (20, staysT), (15, knowsT)] (SOK.cons sum_ok (SOK.cons stays_ok (SOK.cons knows_ok SOK.nil))) tok mixed [] IOK.nil true [] [] Tryd.call4 Tryd.func4 rfl (by rfl) ?_
  refine Eq.mp (α := (@Bool.rec (fun _ => Prop) (And ((0 : Nat) = (0 : Nat)) (And ((0 : Nat) = (0 : Nat)) (∃ ys : List Int, (And (List.map (Enc.enc (encInt IntKind.u8)) ys = List.map (Enc.enc (encInt IntKind.u8)) b) (And (((0 : Nat) + List.length ys) * (1 : Nat) ≤ (150000000000000 : Nat)) (∀ cap2 : Nat, (∀ a : (0 : Nat) + List.length ys ≤ cap2, (And ((0 : Nat) + List.length ([] ++ ys) ≤ List.length ([] ++ ys)) (And (List.length ([] ++ ys) ≤ cap2) (And (∀ y : Int, ((true : Bool) = true)) (∀ x_1 : Value, (∃ b_1 : List Int, (And (List.map (Enc.enc (encInt IntKind.u8)) (List.take (List.length ([] ++ ys)) (List.drop (0 : Nat) ([] ++ ys))) = List.map eB b_1) (And (And (∀ x_2 : Int, (∀ a_1 : x_2 ∈ b_1, (And ((0 : Int) ≤ x_2) (x_2 < (256 : Int))))) (List.length b_1 ≤ (140737488351232 : Nat))) (∃ b_2 : List Int, (And (List.map (Enc.enc (encInt IntKind.u8)) b = List.map eB b_2) (And (And (∀ x_2 : Int, (∀ a_1 : x_2 ∈ b_2, (And ((0 : Int) ≤ x_2) (x_2 < (256 : Int))))) (List.length b_2 ≤ (140737488351232 : Nat))) (@Bool.rec (fun _ => Prop) (And (M.one (SV.v (Value.bool false)) = M.one (SV.v (Value.bool true))) ((true : Bool) = true)) (And (M.one (SV.v (Value.bool true)) = M.one (SV.v (Value.bool true))) ((true : Bool) = true)) (shaF b_1 == shaF b_2))))))))))))))))))) (And (M.one (SV.v (Value.bool true)) = M.one (SV.v (Value.bool true))) ((true : Bool) = true)) (decide ((200 : Int) < (↑(List.length b) : Int))))) (by kernel_rfl) ?_
  refine bif_dec (fun h => ?_) (fun h => ?_)
  · exact ⟨rfl, rfl⟩
  refine ⟨rfl, rfl, b, rfl, by omega, fun c2 k2 => ⟨by omega, by simpa using k2, fun _ => rfl, fun x1 => ⟨b, ?_, ⟨hb, hl⟩, b, rfl, ⟨hb, hl⟩, ?_⟩⟩⟩
  · rw [List.nil_append, List.drop_zero, List.take_length]
  · refine bif_t (beq_self_eq_true _) ?_
    exact ⟨rfl, rfl⟩
end Go.Proofs.YtblapbjafbmndaaDoor
