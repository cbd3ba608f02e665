/- Frames; texts and their bytes. -/
import Derived.Test.YtblapbjafbmndaaDoorD2
import Derived.Laws.Strings
namespace Go.Sha
open Go Go.Sx
set_option linter.unusedSimpArgs false
set_option linter.unusedVariables false

theorem sl_inj {s t : ByteArray} (h : sl s = sl t) : s.data.toList = t.data.toList := by
  unfold sl at h
  exact (List.map_inj_right (f := fun b : UInt8 => (b.toNat : Int)) (fun x y hxy => UInt8.toNat_inj.1 (Int.ofNat.inj hxy))).1 h
theorem sl_ext {s t : ByteArray} (h : sl s = sl t) : s = t := by
  cases s with
  | mk a =>
    cases t with
    | mk b => rw [show a = b from Array.ext' (sl_inj h)]
theorem beq_sl (s t : ByteArray) : (s.toList == t.toList) = decide (sl s = sl t) := by
  rw [ByteArray.toList_eq, ByteArray.toList_eq]
  by_cases h : sl s = sl t
  · rw [decide_eq_true h, sl_inj h, beq_self_eq_true]
  · rw [decide_eq_false h, beq_eq_false_iff_ne]
    intro h2
    apply h
    unfold sl
    rw [h2]
theorem sl_strOf {l : List Int} (h : By l) : sl (strOfNums l) = l := by
  unfold sl strOfNums
  simp only [List.map_map]
  refine (List.map_congr_left (g := id) fun x hx => ?_).trans (List.map_id l)
  obtain ⟨h1, h2⟩ := h x hx
  simp only [Function.comp, id]
  have : (UInt8.ofNat x.toNat).toNat = x.toNat := by
    rw [UInt8.toNat_ofNat']
    omega
  rw [this]
  omega
theorem sl_By (s : ByteArray) : By (sl s) := by
  intro y hy
  unfold sl at hy
  obtain ⟨b, _, rfl⟩ := List.mem_map.1 hy
  have := b.toNat_lt
  omega
theorem sl_extract (s : ByteArray) (n : Nat) : sl (s.extract 0 n) = (sl s).take n := by
  unfold sl
  simp [ByteArray.data_extract, List.extract_eq_take_drop, List.map_take]
theorem strOf_sl (s : ByteArray) : strOfNums (sl s) = s := sl_ext (sl_strOf (sl_By s))

theorem flat_take {α : Type} (f : α → List Int) (l : List α) {i : Nat} (h : i < l.length) : (l.take i).flatMap f ++ f l[i] = (l.take (i + 1)).flatMap f := by
  rw [List.take_add_one, List.getElem?_eq_getElem h, List.flatMap_append]
  simp
theorem flat_mono {α : Type} (f : α → List Int) (l : List α) (i : Nat) : ((l.take i).flatMap f).length ≤ (l.flatMap f).length := by
  have : l.flatMap f = (l.take i).flatMap f ++ (l.drop i).flatMap f := by rw [← List.flatMap_append, List.take_append_drop]
  rw [this, List.length_append]
  omega
theorem flat_mul {α : Type} {f : α → List Int} {k : Nat} : ∀ {l : List α}, (∀ y ∈ l, (f y).length = k) → (l.flatMap f).length = k * l.length
  | [], _ => rfl
  | y :: r, h => by
    rw [List.flatMap_cons, List.length_append, flat_mul fun z hz => h z (by simp [hz]), h y (by simp), List.length_cons, Nat.mul_add]
    omega
theorem flat_By {α : Type} {f : α → List Int} {l : List α} (h : ∀ y ∈ l, By (f y)) : By (l.flatMap f) := fun x hx => by
  obtain ⟨y, hy, hx⟩ := List.mem_flatMap.1 hx
  exact h y hy x hx

/-- A part with its length ahead of it. -/
def blb (a : List Int) : List Int := be8 (a.length : Int) ++ a
theorem blb_length (a : List Int) : (blb a).length = 8 + a.length := by unfold blb; rw [List.length_append]; rfl
/-- A frame: a tag of at most 255 bytes, and parts. -/
def frameF (t : List Int) (l : List (List Int)) : List Int := ((min t.length 255 : Nat) : Int) :: (t.take 255 ++ l.flatMap blb)
theorem frameF_length (t : List Int) (l : List (List Int)) : (frameF t l).length = 1 + min 255 t.length + (l.flatMap blb).length := by
  simp [frameF]
  omega
end Go.Sha
