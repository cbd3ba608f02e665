/- Plain laws of numbers as text. -/
import Derived.Test.YtjdlefkpoggocaaW6
import Derived.Laws.Strings
namespace Go.Wide
open Go Go.Sx
set_option linter.unusedSimpArgs false
set_option linter.unusedVariables false

def isD (c : Int) : Bool := decide (48 ≤ c) && decide (c ≤ 57)
def parseF : Nat → List Int → Nat × Int
  | v, [] => (v, 0)
  | v, c :: r => bif decide (v * 10 + (c - 48).toNat < T256) then parseF (v * 10 + (c - 48).toNat) r else (0, 30)
/-- A text as a number. -/
def parseR (l : List Int) : Nat × Int := bif decide (l.length = 0) || decide (80 < l.length) || (decide (1 < l.length) && decide (l.getD 0 0 = 48)) || !(l.all isD) then (0, 21) else parseF 0 l

theorem parseR_bad0 {l : List Int} (h : l.length = 0) : parseR l = (0, 21) := by unfold parseR; rw [decide_eq_true h]; rfl
theorem parseR_bad80 {l : List Int} (h : 80 < l.length) : parseR l = (0, 21) := by unfold parseR; rw [decide_eq_true h]; simp
theorem parseR_badz {l : List Int} (h : 1 < l.length) (h0 : l.getD 0 0 = 48) : parseR l = (0, 21) := by unfold parseR; rw [decide_eq_true h, decide_eq_true h0]; simp
theorem parseR_badd {l : List Int} {k : Nat} (h : k < l.length) (h0 : isD (l.getD k 0) = false) : parseR l = (0, 21) := by
  have : l.all isD = false := by
    rw [List.all_eq_false]
    refine ⟨l[k], List.getElem_mem h, ?_⟩
    rw [getD_at h] at h0
    simp [h0]
  unfold parseR
  rw [this]
  simp
theorem parseR_ok {l : List Int} (h0 : ¬ l.length = 0) (h80 : ¬ 80 < l.length) (hz : ¬ (1 < l.length ∧ l.getD 0 0 = 48)) (hd : ∀ k, k < l.length → isD (l.getD k 0) = true) : parseR l = parseF 0 l := by
  have : l.all isD = true := by
    rw [List.all_eq_true]
    intro x hx
    obtain ⟨k, hk, rfl⟩ := List.getElem_of_mem hx
    have := hd k hk
    rwa [getD_at hk] at this
  unfold parseR
  rw [this, decide_eq_false h0, decide_eq_false h80]
  have : (decide (1 < l.length) && decide (l.getD 0 0 = 48)) = false := by
    simp only [Bool.and_eq_false_iff, decide_eq_false_iff_not]
    by_cases h : 1 < l.length
    · exact .inr fun h2 => hz ⟨h, h2⟩
    · exact .inl h
  rw [this]
  rfl
theorem isD_iff {c : Int} : isD c = true ↔ 48 ≤ c ∧ c ≤ 57 := by simp [isD]
theorem isD_not {c : Int} (h : c < 48 ∨ 57 < c) : isD c = false := by
  cases hc : isD c with
  | false => rfl
  | true => have := isD_iff.1 hc; omega
theorem parseF_at {l : List Int} {v i : Nat} (hi : i < l.length) : parseF v (l.drop i) = bif decide (v * 10 + (l[i] - 48).toNat < T256) then parseF (v * 10 + (l[i] - 48).toNat) (l.drop (i + 1)) else (0, 30) := by
  rw [List.drop_eq_getElem_cons hi, parseF]
theorem parseF_end {l : List Int} {v i : Nat} (hi : ¬ i < l.length) : parseF v (l.drop i) = (v, 0) := by
  rw [List.drop_eq_nil_of_le (by omega)]; rfl
theorem sl_inj {s t : ByteArray} (h : sl s = sl t) : s.data.toList = t.data.toList := by
  unfold sl at h
  exact (List.map_inj_right (f := fun b : UInt8 => (b.toNat : Int)) (fun x y hxy => UInt8.toNat_inj.1 (Int.ofNat.inj hxy))).1 h
theorem beq_sl (s t : ByteArray) : (s.toList == t.toList) = decide (sl s = sl t) := by
  rw [ByteArray.toList_eq, ByteArray.toList_eq]
  by_cases h : sl s = sl t
  · rw [decide_eq_true h, sl_inj h, beq_self_eq_true]
  · rw [decide_eq_false h, beq_eq_false_iff_ne]
    intro h2
    apply h
    unfold sl
    rw [h2]
theorem sl_strOf {l : List Int} (h : Dig 256 l) : sl (strOfNums l) = l := by
  unfold sl strOfNums
  simp only [List.map_map]
  refine (List.map_congr_left (g := id) fun x hx => ?_).trans (List.map_id l)
  obtain ⟨h1, h2⟩ := h x hx
  simp only [Function.comp, id]
  have : (UInt8.ofNat x.toNat).toNat = x.toNat := by
    rw [UInt8.toNat_ofNat']
    omega
  rw [this]
  omega
theorem sl_byte (s : ByteArray) : ∀ y ∈ sl s, 0 ≤ y ∧ y ≤ 255 := by
  intro y hy
  unfold sl at hy
  obtain ⟨b, _, rfl⟩ := List.mem_map.1 hy
  have := b.toNat_lt
  omega
end Go.Wide
