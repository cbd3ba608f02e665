/- Frames; texts and their bytes. -/
import Derived.Test.YtblapbjafbmndaaDoorD2
import Derived.Laws.Strings
namespace Go.Sha
open Go Go.Sx
set_option linter.unusedSimpArgs false
set_option linter.unusedVariables false

theorem sl_inj {s t : ByteArray} (h : sl s = sl t) : s.data.toList = t.data.toList := by
  unfold sl at h
  exact (List.map_inj_right (f := fun b : UInt8 => (b.toNat : Int)) (fun x y hxy => UInt8.toNat_inj.1 (Int.ofNat.inj hxy))).1 h
theorem beq_sl (s t : ByteArray) : (s.toList == t.toList) = decide (sl s = sl t) := by
  rw [ByteArray.toList_eq, ByteArray.toList_eq]
  by_cases h : sl s = sl t
  · rw [decide_eq_true h, sl_inj h, beq_self_eq_true]
  · rw [decide_eq_false h, beq_eq_false_iff_ne]
    intro h2
    apply h
    unfold sl
    rw [h2]
theorem sl_strOf {l : List Int} (h : By l) : sl (strOfNums l) = l := by
  unfold sl strOfNums
  simp only [List.map_map]
  refine (List.map_congr_left (g := id) fun x hx => ?_).trans (List.map_id l)
  obtain ⟨h1, h2⟩ := h x hx
  simp only [Function.comp, id]
  have : (UInt8.ofNat x.toNat).toNat = x.toNat := by
    rw [UInt8.toNat_ofNat']
    omega
  rw [this]
  omega
theorem sl_By (s : ByteArray) : By (sl s) := by
  intro y hy
  unfold sl at hy
  obtain ⟨b, _, rfl⟩ := List.mem_map.1 hy
  have := b.toNat_lt
  omega
theorem strOf_beq {p q : List Int} (hp : By p) (hq : By q) : ((strOfNums p).toList == (strOfNums q).toList) = decide (p = q) := by
  rw [beq_sl, sl_strOf hp, sl_strOf hq]
theorem sl_extract (s : ByteArray) (n : Nat) : sl (s.extract 0 n) = (sl s).take n := by
  unfold sl
  simp [ByteArray.data_extract, List.extract_eq_take_drop, List.map_take]
theorem flat_take {α : Type} (f : α → List Int) (l : List α) {i : Nat} (h : i < l.length) : (l.take i).flatMap f ++ f l[i] = (l.take (i + 1)).flatMap f := by
  rw [List.take_add_one, List.getElem?_eq_getElem h, List.flatMap_append]
  simp
theorem flat_mono {α : Type} (f : α → List Int) (l : List α) (i : Nat) : ((l.take i).flatMap f).length ≤ (l.flatMap f).length := by
  have : l.flatMap f = (l.take i).flatMap f ++ (l.drop i).flatMap f := by rw [← List.flatMap_append, List.take_append_drop]
  rw [this, List.length_append]
  omega
theorem flat_By {α : Type} {f : α → List Int} {l : List α} (h : ∀ y ∈ l, By (f y)) : By (l.flatMap f) := fun x hx => by
  obtain ⟨y, hy, hx⟩ := List.mem_flatMap.1 hx
  exact h y hy x hx

/-- A part with its length ahead of it. -/
def blb (a : List Int) : List Int := be8 (a.length : Int) ++ a
theorem blb_length (a : List Int) : (blb a).length = 8 + a.length := by unfold blb; rw [List.length_append]; rfl
theorem blb_By {a : List Int} (ha : By a) : By (blb a) := (be8_By _).app ha
theorem be8_inj {n m : Nat} (hn : n < 18446744073709551616) (hm : m < 18446744073709551616) (h : be8 (n : Int) = be8 (m : Int)) : n = m := by
  unfold be8 at h
  simp only [List.cons.injEq, and_true] at h
  omega
theorem blb_inj {a b c d : List Int} (ha : a.length < 18446744073709551616) (hc : c.length < 18446744073709551616) (h : blb a ++ b = blb c ++ d) : a = c ∧ b = d := by
  unfold blb at h
  rw [List.append_assoc, List.append_assoc] at h
  obtain ⟨h1, h2⟩ := List.append_inj h rfl
  exact List.append_inj h2 (be8_inj ha hc h1)

/-- A frame: a tag of at most 255 bytes, and parts. -/
def frameF (t : List Int) (l : List (List Int)) : List Int := ((min t.length 255 : Nat) : Int) :: (t.take 255 ++ l.flatMap blb)
theorem frameF_By {t : List Int} {l : List (List Int)} (ht : By t) (hl : ∀ a ∈ l, By a) : By (frameF t l) := fun x hx => by
  rcases List.mem_cons.1 hx with rfl | hx
  · omega
  · exact ((ht.take _).app (flat_By fun a ha => blb_By (hl a ha))) x hx
theorem frameF_length (t : List Int) (l : List (List Int)) : (frameF t l).length = 1 + min 255 t.length + (l.flatMap blb).length := by
  simp [frameF]
  omega
end Go.Sha
