/- Frames; texts and their bytes. -/
import Derived.Test.YtblapbjafbmndaaDoorD2
import Derived.Laws.Strings
namespace Go.Sha
open Go Go.Sx
set_option linter.unusedSimpArgs false
set_option linter.unusedVariables false

theorem sl_inj {s t : ByteArray} (h : sl s = sl t) : s.data.toList = t.data.toList := by
  unfold sl at h
  exact (List.map_inj_right (f := fun b : UInt8 => (b.toNat : Int)) (fun x y hxy => UInt8.toNat_inj.1 (Int.ofNat.inj hxy))).1 h
theorem beq_sl (s t : ByteArray) : (s.toList == t.toList) = decide (sl s = sl t) := by
  rw [ByteArray.toList_eq, ByteArray.toList_eq]
  by_cases h : sl s = sl t
  · rw [decide_eq_true h, sl_inj h, beq_self_eq_true]
  · rw [decide_eq_false h, beq_eq_false_iff_ne]
    intro h2
    apply h
    unfold sl
    rw [h2]
theorem sl_extract (s : ByteArray) (n : Nat) : sl (s.extract 0 n) = (sl s).take n := by
  unfold sl
  simp [ByteArray.data_extract, List.extract_eq_take_drop, List.map_take]
theorem flat_take {α : Type} (f : α → List Int) (l : List α) {i : Nat} (h : i < l.length) : (l.take i).flatMap f ++ f l[i] = (l.take (i + 1)).flatMap f := by
  rw [List.take_add_one, List.getElem?_eq_getElem h, List.flatMap_append]
  simp
theorem flat_mono {α : Type} (f : α → List Int) (l : List α) (i : Nat) : ((l.take i).flatMap f).length ≤ (l.flatMap f).length := by
  have : l.flatMap f = (l.take i).flatMap f ++ (l.drop i).flatMap f := by rw [← List.flatMap_append, List.take_append_drop]
  rw [this, List.length_append]
  omega
/-- A part with its length ahead of it. -/
def blb (a : List Int) : List Int := be8 (a.length : Int) ++ a
theorem blb_length (a : List Int) : (blb a).length = 8 + a.length := by unfold blb; rw [List.length_append]; rfl
/-- A frame: a tag of at most 255 bytes, and parts. -/
def frameF (t : List Int) (l : List (List Int)) : List Int := ((min t.length 255 : Nat) : Int) :: (t.take 255 ++ l.flatMap blb)
theorem frameF_length (t : List Int) (l : List (List Int)) : (frameF t l).length = 1 + min 255 t.length + (l.flatMap blb).length := by
  simp [frameF]
  omega
end Go.Sha
