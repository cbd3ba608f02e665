/- Digests of pairs. -/
import Derived.Test.YtblapbjafbmndaaDoorP9
import Derived.Test.YtblapbjafbmndaaDoorSx24
namespace Go.Proofs.YtblapbjafbmndaaDoor
open Go Go.Sx Go.Sha
set_option linter.unusedVariables false
set_option linter.unusedSimpArgs false
set_option maxRecDepth 100000
set_option maxHeartbeats 4000000

/-- The frame of a pair. -/
def pairF (a b : List Int) : List Int := [4, 112, 97, 105, 114] ++ (blb a ++ blb b)
theorem pairF_By {a b : List Int} (ha : By a) (hb : By b) : By (pairF a b) := By.app (by unfold By; decide) ((blb_By ha).app (blb_By hb))
theorem pairF_length {a b : List Int} (ha : a.length = 32) (hb : b.length = 32) : (pairF a b).length = 85 := by
  simp [pairF, blb_length, ha, hb]
theorem blb32 {a : List Int} (ha : a.length = 32) : blb a = [0, 0, 0, 0, 0, 0, 0, 32] ++ a := by
  unfold blb
  rw [ha]
  rfl
theorem pair_lay {a b : List Int} (ha : a.length = 32) (hb : b.length = 32) :
    lay (lay (lay ((((List.replicate 85 (0 : Int)).set (Int.toNat 0) 4).set (Int.toNat 12) 32).set (Int.toNat 52) 32) 1 84 (sl { data := #[112, 97, 105, 114] })) 13 72 a) 53 32 b = pairF a b := by
  have e1 : lay ((((List.replicate 85 (0 : Int)).set (Int.toNat 0) 4).set (Int.toNat 12) 32).set (Int.toNat 52) 32) 1 84 (sl { data := #[112, 97, 105, 114] }) =
    [4, 112, 97, 105, 114, 0, 0, 0, 0, 0, 0, 0, 32] ++ (List.replicate 39 0 ++ (32 :: List.replicate 32 0)) := by decide +kernel
  rw [e1]
  generalize hX : [4, 112, 97, 105, 114, 0, 0, 0, 0, 0, 0, 0, (32 : Int)] ++ (List.replicate 39 0 ++ (32 :: List.replicate 32 0)) = X
  have t13 : X.take 13 = [4, 112, 97, 105, 114, 0, 0, 0, 0, 0, 0, 0, 32] := by rw [← hX]; decide
  have d45 : X.drop 45 = [0, 0, 0, 0, 0, 0, 0, 32] ++ List.replicate 32 0 := by rw [← hX]; decide
  have e2 : lay X 13 72 a = [4, 112, 97, 105, 114, 0, 0, 0, 0, 0, 0, 0, 32] ++ (a ++ ([0, 0, 0, 0, 0, 0, 0, 32] ++ List.replicate 32 0)) := by
    unfold lay
    rw [t13, List.take_of_length_le (by omega), ha, show 13 + min 32 72 = 45 from rfl, d45]
  rw [e2]
  unfold lay pairF
  rw [blb32 ha, blb32 hb, List.take_of_length_le (show b.length ≤ 32 by omega), hb]
  have hl : ([4, 112, 97, 105, 114, 0, 0, 0, 0, 0, 0, 0, (32 : Int)] ++ (a ++ ([0, 0, 0, 0, 0, 0, 0, 32] ++ List.replicate 32 0))).length = 85 := by simp [ha]
  rw [List.drop_of_length_le (by rw [hl]; decide), List.append_nil, List.take_append, List.take_of_length_le (by decide), List.take_append, List.take_of_length_le (by simp [ha])]
  simp [ha]

theorem pair_spec {a b : List Int} (ha : a.length = 32) (hb : b.length = 32) (hA : By a) (hB : By b) : SFun Tryd.prog 26 [h32 a, h32 b] (h32 (shaF (pairF a b))) := by
  refine SFun.inm [(17, sumT)] (SOK.cons sum_ok SOK.nil) [] MSOK.nil tok mixed [] IOK.nil true [] [] Tryd.call26 Tryd.func26 rfl (by rfl) ?_
  refine Eq.mp (α := (And ((0 : Int) ≤ (0 : Int)) (And (Int.toNat (0 : Int) < (85 : Nat)) (And (Int.toNat (0 : Int) < (85 : Nat)) (And ((0 : Int) ≤ (12 : Int)) (And (Int.toNat (12 : Int) < (85 : Nat)) (And (Int.toNat (12 : Int) < (85 : Nat)) (And ((0 : Int) ≤ (52 : Int)) (And (Int.toNat (52 : Int) < (85 : Nat)) (And (Int.toNat (52 : Int) < (85 : Nat)) (And ((0 : Int) ≤ (1 : Int)) (And (Int.toNat (1 : Int) ≤ (85 : Nat)) (And ((85 : Nat) ≤ (85 : Nat)) (And ((85 : Nat) ≤ (85 : Nat)) (And ((if (85 : Nat) = Int.toNat (1 : Int) then (0 : Nat) else Int.toNat (1 : Int)) + ((85 : Nat) - Int.toNat (1 : Int)) ≤ (85 : Nat)) (And ((0 : Int) ≤ (13 : Int)) (And (Int.toNat (13 : Int) ≤ (85 : Nat)) (And ((85 : Nat) ≤ (85 : Nat)) (And ((85 : Nat) ≤ (85 : Nat)) (And ((0 : Nat) ≤ (32 : Nat)) (And ((32 : Nat) ≤ (32 : Nat)) (And ((32 : Nat) ≤ (32 : Nat)) (And ((if (32 : Nat) = (0 : Nat) then (0 : Nat) else (0 : Nat)) + ((32 : Nat) - (0 : Nat)) ≤ (32 : Nat)) (And ((if (85 : Nat) = Int.toNat (13 : Int) then (0 : Nat) else Int.toNat (13 : Int)) + ((85 : Nat) - Int.toNat (13 : Int)) ≤ (85 : Nat)) (And ((0 : Int) ≤ (53 : Int)) (And (Int.toNat (53 : Int) ≤ (85 : Nat)) (And ((85 : Nat) ≤ (85 : Nat)) (And ((85 : Nat) ≤ (85 : Nat)) (And ((0 : Nat) ≤ (32 : Nat)) (And ((32 : Nat) ≤ (32 : Nat)) (And ((32 : Nat) ≤ (32 : Nat)) (And ((if (32 : Nat) = (0 : Nat) then (0 : Nat) else (0 : Nat)) + ((32 : Nat) - (0 : Nat)) ≤ (32 : Nat)) (And ((if (85 : Nat) = Int.toNat (53 : Int) then (0 : Nat) else Int.toNat (53 : Int)) + ((85 : Nat) - Int.toNat (53 : Int)) ≤ (85 : Nat)) (And ((0 : Nat) ≤ (85 : Nat)) (And ((85 : Nat) ≤ (85 : Nat)) (And ((85 : Nat) ≤ (85 : Nat)) (And ((if (85 : Nat) = (0 : Nat) then (0 : Nat) else (0 : Nat)) + ((85 : Nat) - (0 : Nat)) ≤ (85 : Nat)) (And ((85 : Nat) - (0 : Nat) ≤ (85 : Nat) - (0 : Nat)) (∀ x : Value, (∃ b_1 : List Int, (And (List.map (fun b => [SV.v (Value.int IntKind.u8 b)]) (List.take ((85 : Nat) - (0 : Nat)) (List.drop (if (85 : Nat) = (0 : Nat) then (0 : Nat) else (0 : Nat)) (lay (lay (lay (List.set (List.set (List.set (List.replicate (85 : Nat) (0 : Int)) (Int.toNat (0 : Int)) (4 : Int)) (Int.toNat (12 : Int)) (32 : Int)) (Int.toNat (52 : Int)) (32 : Int)) (if (85 : Nat) = Int.toNat (1 : Int) then (0 : Nat) else Int.toNat (1 : Int)) ((85 : Nat) - Int.toNat (1 : Int)) (sl { data := #[(112 : UInt8), (97 : UInt8), (105 : UInt8), (114 : UInt8)] })) (if (85 : Nat) = Int.toNat (13 : Int) then (0 : Nat) else Int.toNat (13 : Int)) ((85 : Nat) - Int.toNat (13 : Int)) (List.take ((32 : Nat) - (0 : Nat)) (List.drop (if (32 : Nat) = (0 : Nat) then (0 : Nat) else (0 : Nat)) a))) (if (85 : Nat) = Int.toNat (53 : Int) then (0 : Nat) else Int.toNat (53 : Int)) ((85 : Nat) - Int.toNat (53 : Int)) (List.take ((32 : Nat) - (0 : Nat)) (List.drop (if (32 : Nat) = (0 : Nat) then (0 : Nat) else (0 : Nat)) b))))) = List.map eB b_1) (And (And (∀ x_1 : Int, (∀ a_1 : x_1 ∈ b_1, (And ((0 : Int) ≤ x_1) (x_1 < (256 : Int))))) (List.length b_1 ≤ (140737488351232 : Nat))) (And (M.agg [SV.ints IntKind.u8 (32 : Nat) (shaF b_1)] = M.agg [SV.ints IntKind.u8 (32 : Nat) (shaF (pairF a b))]) ((true : Bool) = true)))))))))))))))))))))))))))))))))))))))))))) (by kernel_rfl) ?_
  have c : ∀ k, k ≠ 85 → (if (85 : Nat) = k then 0 else k) = k := fun k h => by rw [if_neg (fun e => h e.symm)]
  have n1 : Int.toNat 1 = 1 := rfl
  have n13 : Int.toNat 13 = 13 := rfl
  have n53 : Int.toNat 53 = 53 := rfl
  have ta : List.take (32 - 0) (List.drop (if (32 : Nat) = 0 then 0 else 0) a) = a := by
    show List.take 32 (List.drop 0 a) = a
    rw [List.drop_zero, List.take_of_length_le (by omega)]
  have tb : List.take (32 - 0) (List.drop (if (32 : Nat) = 0 then 0 else 0) b) = b := by
    show List.take 32 (List.drop 0 b) = b
    rw [List.drop_zero, List.take_of_length_le (by omega)]
  simp only [ta, tb, n1, n13, n53, c 1 (by decide), c 13 (by decide), c 53 (by decide), show (if (85 : Nat) = 0 then 0 else 0) = 0 from rfl, List.drop_zero, show 85 - 1 = 84 from rfl, show 85 - 13 = 72 from rfl, show 85 - 53 = 32 from rfl, show 85 - 0 = 85 from rfl, pair_lay ha hb]
  rw [List.take_of_length_le (by rw [pairF_length ha hb]; exact Nat.le_refl _)]
  repeat (with_reducible refine And.intro (by first | exact trivial | omega | decide) ?_)
  intro x
  refine ⟨_, rfl, ⟨pairF_By hA hB, by rw [pairF_length ha hb]; decide⟩, ?_⟩
  repeat' first | exact trivial | refine And.intro ?_ ?_ | with_reducible refine bif_dt (by assumption) ?_ | with_reducible refine bif_df (by assumption) ?_ | with_reducible refine bif_dec (fun _ => ?_) (fun _ => ?_) | with_reducible refine bif_not ?_ | with_reducible refine bif_and ?_ | with_reducible refine bif_or ?_ | with_reducible refine bif_t (by assumption) ?_ | with_reducible refine bif_f (by assumption) ?_ | with_reducible refine bif_t (beq_self_eq_true _) ?_ | with_reducible refine bif_b (fun _ => ?_) (fun _ => ?_) | with_reducible refine ⟨_, Eq.refl (List.map _ _), ?_⟩ | (with_reducible refine Exists.intro (by omega) ?_) | rfl | (intro h0; omega) | omega
def pairT : List M → (M → Prop) → Prop
  | [.agg [.ints .u8 32 a], .agg [.ints .u8 32 b]], K => (a.length = 32 ∧ b.length = 32 ∧ By a ∧ By b) ∧ K (h32 (shaF (pairF a b)))
  | _, _ => False
theorem pair_ok : POK Tryd.prog 26 pairT := by
  intro ms K h
  unfold pairT at h ⊢
  split at h
  · exact ⟨_, h.2, (pair_spec h.1.1 h.1.2.1 h.1.2.2.1 h.1.2.2.2), rfl, fun _ hk => ⟨h.1, hk⟩⟩
  · exact h.elim

end Go.Proofs.YtblapbjafbmndaaDoor
