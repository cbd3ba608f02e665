/- The law DigestTexts. -/
import Derived.Test.YtblapbjafbmndaaDoorP12
import Derived.Test.YtblapbjafbmndaaDoorSx24
namespace Go.Proofs.YtblapbjafbmndaaDoor
open Go Go.Sx Go.Sha
set_option linter.unusedVariables false
set_option linter.unusedSimpArgs false
set_option maxRecDepth 100000
set_option maxHeartbeats 4000000

theorem texts_spec (t : ByteArray) {a : List Int} (ha : a.length = 32) (hA : By a) (ht : t.size ≤ 9223372036854775807) :
    SFun Tryd.prog 7 [h32 a, str t] (bool true) := by
  refine SFun.inm [(31, numT), (30, printT), (32, rprintT), (28, hparseT), (29, hrparseT), (15, knowsT)] (SOK.cons num_ok (SOK.cons print_ok (SOK.cons rprint_ok (SOK.cons hparse_ok (SOK.cons hrparse_ok (SOK.cons knows_ok SOK.nil)))))) [] MSOK.nil tok mixed [] IOK.nil true [] [] Tryd.call7 Tryd.func7 rfl (by rfl) ?_
  refine Eq.mp (α := (And (ByteArray.size t ≤ (9223372036854775807 : Nat)) (And (ByteArray.size t ≤ (9223372036854775807 : Nat)) (And (And (List.length a = (32 : Nat)) (∀ x : Int, (∀ a_1 : x ∈ a, (And ((0 : Int) ≤ x) (x < (256 : Int)))))) (And (ByteArray.size (strOfNums (printF a)) ≤ (9223372036854775807 : Nat)) (@Bool.rec (fun _ => Prop) (And (M.one (SV.v (Value.bool false)) = M.one (SV.v (Value.bool true))) ((true : Bool) = true)) (@Bool.rec (fun _ => Prop) (And (M.one (SV.v (Value.bool false)) = M.one (SV.v (Value.bool true))) ((true : Bool) = true)) (And (And (List.length a = (32 : Nat)) (∀ x : Int, (∀ a_1 : x ∈ a, (And ((0 : Int) ≤ x) (x < (256 : Int)))))) (And (And (List.length a = (32 : Nat)) (∀ x : Int, (∀ a_1 : x ∈ a, (And ((0 : Int) ≤ x) (x < (256 : Int)))))) (@Bool.rec (fun _ => Prop) (And (M.one (SV.v (Value.bool false)) = M.one (SV.v (Value.bool true))) ((true : Bool) = true)) (@Bool.rec (fun _ => Prop) (And (M.one (SV.v (Value.bool false)) = M.one (SV.v (Value.bool true))) ((true : Bool) = true)) (@Bool.rec (fun _ => Prop) (And (M.one (SV.v (Value.bool false)) = M.one (SV.v (Value.bool true))) ((true : Bool) = true)) (@Bool.rec (fun _ => Prop) (And (And (List.length (Prod.fst (parseF (sl t))) = (32 : Nat)) (∀ x : Int, (∀ a_1 : x ∈ Prod.fst (parseF (sl t)), (And ((0 : Int) ≤ x) (x < (256 : Int)))))) (@Bool.rec (fun _ => Prop) (And (M.one (SV.v (Value.bool false)) = M.one (SV.v (Value.bool true))) ((true : Bool) = true)) (And (M.one (SV.v (Value.bool true)) = M.one (SV.v (Value.bool true))) ((true : Bool) = true)) (ByteArray.toList (strOfNums (printF (Prod.fst (parseF (sl t))))) == ByteArray.toList t))) (And (M.one (SV.v (Value.bool true)) = M.one (SV.v (Value.bool true))) ((true : Bool) = true)) (Prod.snd (parseF (sl t)) != (0 : Int))) (Prod.fst (parseF (sl (strOfNums (printF a)))) == a)) (Prod.snd (parseF (sl (strOfNums (printF a)))) == (0 : Int))) (ByteArray.toList (strOfNums (printF a)) == ByteArray.toList (strOfNums (printF a)))))) (Prod.snd (parseF (sl t)) == Prod.snd (parseF (sl t)))) (Prod.fst (parseF (sl t)) == Prod.fst (parseF (sl t))))))))) (by kernel_rfl) ?_
  have hp := sl_strOf (printF_By hA)
  have hsz : (strOfNums (printF a)).size ≤ 9223372036854775807 := by rw [← sl_length, hp, printF_length, ha]; decide
  have hq := parseF_By (l := sl t)
  rw [hp, parse_print hA ha]
  refine ⟨ht, ht, ⟨ha, hA⟩, hsz, ?_⟩
  refine bif_t (beq_self_eq_true _) ?_
  refine bif_t (beq_self_eq_true _) ?_
  refine ⟨⟨ha, hA⟩, ⟨ha, hA⟩, ?_⟩
  refine bif_t (beq_self_eq_true _) ?_
  refine bif_t (beq_self_eq_true _) ?_
  refine bif_b (fun h => ?_) (fun h => ?_)
  · exact ⟨rfl, rfl⟩
  · refine ⟨⟨hq.2, hq.1⟩, ?_⟩
    have h0 : (parseF (sl t)).2 = 0 := by simpa using h
    refine bif_t ?_ ⟨rfl, rfl⟩
    rw [print_parse h0, strOf_sl]
    exact beq_self_eq_true _
end Go.Proofs.YtblapbjafbmndaaDoor
