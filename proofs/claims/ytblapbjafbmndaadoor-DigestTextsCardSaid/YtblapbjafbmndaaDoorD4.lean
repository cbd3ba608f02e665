/- Digests as text. -/
import Derived.Test.YtblapbjafbmndaaDoorD3
namespace Go.Sha
open Go Go.Sx
set_option linter.unusedSimpArgs false
set_option linter.unusedVariables false

/-- A digit's letter; a letter's digit. -/
def hexd (c : Int) : Int := if c < 10 then 48 + c else 87 + c
def isHex (c : Int) : Bool := (decide (48 ≤ c) && decide (c ≤ 57)) || (decide (97 ≤ c) && decide (c ≤ 102))
def hval (c : Int) : Int := if c ≤ 57 then c - 48 else c - 87
theorem isHex_iff {c : Int} : isHex c = true ↔ (48 ≤ c ∧ c ≤ 57) ∨ (97 ≤ c ∧ c ≤ 102) := by simp [isHex]
theorem hval_lt {c : Int} (h : isHex c = true) : 0 ≤ hval c ∧ hval c < 16 := by
  have := isHex_iff.1 h
  unfold hval
  split <;> omega
theorem hexd_hval {c : Int} (h : isHex c = true) : hexd (hval c) = c := by
  have := isHex_iff.1 h
  unfold hval hexd
  split <;> split <;> omega
theorem hval_hexd {c : Int} (h : 0 ≤ c ∧ c < 16) : hval (hexd c) = c := by
  unfold hval hexd
  split <;> split <;> omega
theorem isHex_hexd {c : Int} (h : 0 ≤ c ∧ c < 16) : isHex (hexd c) = true := by
  rw [isHex_iff]
  unfold hexd
  split <;> omega
theorem hexd_By {c : Int} (h : 0 ≤ c ∧ c < 16) : 0 ≤ hexd c ∧ hexd c < 256 := by
  unfold hexd
  split <;> omega

def hex2 (x : Int) : List Int := [hexd (x / 16), hexd (x % 16)]
def printF (h : List Int) : List Int := h.flatMap hex2
theorem printF_By {h : List Int} (hh : By h) : By (printF h) := flat_By fun y hy => by
  have := hh y hy
  intro x hx
  simp only [hex2, List.mem_cons, List.not_mem_nil, or_false] at hx
  rcases hx with rfl | rfl <;> exact hexd_By (by omega)
theorem printF_length (h : List Int) : (printF h).length = 2 * h.length := flat_mul fun _ _ => rfl

/-- The bytes, as far as letters are read. -/
def cF (l : List Int) (i : Nat) : List Int := (List.range 32).map fun j => if 2 * j + 1 < i then 16 * hval (l.getD (2 * j) 0) + hval (l.getD (2 * j + 1) 0) else if 2 * j < i then hval (l.getD (2 * j) 0) else 0
theorem cF_length (l : List Int) (i : Nat) : (cF l i).length = 32 := by simp [cF]
theorem cF_0 (l : List Int) : cF l 0 = List.replicate 32 0 := by
  simp [cF]
  rfl
theorem cF_getD (l : List Int) (i j : Nat) (h : j < 32) : (cF l i).getD j 0 = if 2 * j + 1 < i then 16 * hval (l.getD (2 * j) 0) + hval (l.getD (2 * j + 1) 0) else if 2 * j < i then hval (l.getD (2 * j) 0) else 0 := by
  unfold cF
  rw [List.getD_eq_getElem?_getD, List.getElem?_map, List.getElem?_range h]
  rfl
theorem cF_step (l : List Int) (i : Nat) (hi : i < 64) (hv : 0 ≤ hval (l.getD i 0) ∧ hval (l.getD i 0) < 16) (hp : ∀ j, j < i → 0 ≤ hval (l.getD j 0) ∧ hval (l.getD j 0) < 16) :
    cF l (i + 1) = (cF l i).set (i / 2) ((cF l i).getD (i / 2) 0 * 16 % 256 + hval (l.getD i 0)) := by
  apply List.ext_getElem?
  intro j
  by_cases hj : j < 32
  · rw [List.getElem?_set]
    have e : ∀ k, (cF l k)[j]? = some ((cF l k).getD j 0) := fun k => by
      rw [List.getD_eq_getElem?_getD, List.getElem?_eq_getElem (by rw [cF_length]; exact hj)]
      rfl
    rw [e, e, cF_length]
    by_cases hij : i / 2 = j
    · rw [if_pos hij, if_pos (by omega), cF_getD _ _ _ hj, hij, cF_getD _ _ _ hj]
      congr 1
      by_cases hm : i % 2 = 0
      · have : i = 2 * j := by omega
        subst this
        rw [if_neg (by omega), if_pos (by omega), if_neg (by omega), if_neg (by omega)]
        omega
      · have : i = 2 * j + 1 := by omega
        subst this
        rw [if_pos (by omega), if_neg (by omega), if_pos (by omega)]
        have := hp (2 * j) (by omega)
        omega
    · rw [if_neg hij, cF_getD _ _ _ hj, cF_getD _ _ _ hj]
      congr 1
      by_cases h1 : 2 * j + 1 < i
      · rw [if_pos h1, if_pos (by omega)]
      · rw [if_neg h1, if_neg (by omega)]
        by_cases h2 : 2 * j < i
        · rw [if_pos h2, if_pos (by omega)]
        · rw [if_neg h2, if_neg (by omega)]
  · rw [List.getElem?_eq_none (by rw [cF_length]; omega), List.getElem?_eq_none (by rw [List.length_set, cF_length]; omega)]

/-- A text as a digest. -/
def parseF (l : List Int) : List Int × Int := bif decide (l.length = 64) && l.all isHex then (cF l 64, 0) else (List.replicate 32 0, 21)

theorem pair_of (f : Int → Int) (g : Int → Int) : ∀ (h : List Int) (j : Nat), j < h.length → (h.flatMap fun x => [f x, g x]).getD (2 * j) 0 = f (h.getD j 0) ∧ (h.flatMap fun x => [f x, g x]).getD (2 * j + 1) 0 = g (h.getD j 0)
  | [], j, hj => by simp at hj
  | x :: r, 0, _ => ⟨rfl, rfl⟩
  | x :: r, j + 1, hj => by
    have := pair_of f g r j (by simpa using hj)
    rw [List.flatMap_cons]
    exact this
theorem of_pairs : ∀ (n : Nat) (l : List Int), l.length = 2 * n → l = (List.range n).flatMap fun j => [l.getD (2 * j) 0, l.getD (2 * j + 1) 0]
  | 0, l, h => by
    have : l = [] := List.eq_nil_of_length_eq_zero (by omega)
    subst this
    rfl
  | n + 1, [], h => by simp at h
  | n + 1, [a], h => by simp at h; omega
  | n + 1, a :: b :: r, h => by
    have := of_pairs n r (by simp at h; omega)
    rw [List.range_succ_eq_map, List.flatMap_cons, List.flatMap_map]
    show a :: b :: r = a :: b :: _
    congr 2

theorem parse_print {h : List Int} (hh : By h) (hl : h.length = 32) : parseF (printF h) = (h, 0) := by
  have hx : (printF h).all isHex = true := by
    rw [List.all_eq_true]
    intro y hy
    obtain ⟨x, h1, h2⟩ := List.mem_flatMap.1 hy
    have := hh x h1
    simp only [hex2, List.mem_cons, List.not_mem_nil, or_false] at h2
    rcases h2 with rfl | rfl <;> exact isHex_hexd (by omega)
  unfold parseF
  rw [hx, decide_eq_true (by rw [printF_length, hl])]
  show (cF (printF h) 64, (0 : Int)) = (h, 0)
  congr 1
  apply List.ext_getElem?
  intro j
  by_cases hj : j < 32
  · obtain ⟨h1, h2⟩ := pair_of (fun x => hexd (x / 16)) (fun x => hexd (x % 16)) h j (by omega)
    have e1 : (printF h).getD (2 * j) 0 = hexd (h.getD j 0 / 16) := h1
    have e2 : (printF h).getD (2 * j + 1) 0 = hexd (h.getD j 0 % 16) := h2
    have hb := hh.getD j
    unfold cF
    rw [List.getElem?_map, List.getElem?_range hj, List.getElem?_eq_getElem (by omega)]
    simp only [Option.map_some, Option.some.injEq]
    rw [if_pos (by omega), e1, e2, hval_hexd (by omega), hval_hexd (by omega)]
    have : h[j] = h.getD j 0 := by rw [List.getD_eq_getElem?_getD, List.getElem?_eq_getElem (by omega)]; rfl
    rw [this]
    omega
  · rw [List.getElem?_eq_none (by rw [cF_length]; omega), List.getElem?_eq_none (by omega)]

theorem print_parse {l : List Int} (h : (parseF l).2 = 0) : printF (parseF l).1 = l := by
  unfold parseF at h ⊢
  cases hb : decide (l.length = 64) && l.all isHex with
  | false => rw [hb] at h; exact absurd (show (21 : Int) = 0 from h) (by decide)
  | true =>
    simp only [Bool.and_eq_true, decide_eq_true_eq] at hb
    simp only [cond_true]
    conv => rhs; rw [of_pairs 32 l (by omega)]
    unfold printF cF
    rw [List.flatMap_map]
    rw [List.flatMap_def, List.flatMap_def]
    congr 1
    refine List.map_congr_left fun j hj => ?_
    have hj' := List.mem_range.1 hj
    have g : ∀ k, k < 64 → isHex (l.getD k 0) = true := fun k hk => by
      rw [List.getD_eq_getElem?_getD, List.getElem?_eq_getElem (by omega)]
      exact List.all_eq_true.1 hb.2 _ (List.getElem_mem _)
    have h1 := hval_lt (g (2 * j) (by omega))
    have h2 := hval_lt (g (2 * j + 1) (by omega))
    simp only [hex2]
    rw [if_pos (by omega), show (16 * hval (l.getD (2 * j) 0) + hval (l.getD (2 * j + 1) 0)) / 16 = hval (l.getD (2 * j) 0) by omega,
      show (16 * hval (l.getD (2 * j) 0) + hval (l.getD (2 * j + 1) 0)) % 16 = hval (l.getD (2 * j + 1) 0) by omega, hexd_hval (g _ (by omega)), hexd_hval (g _ (by omega))]
theorem parseF_By {l : List Int} : By (parseF l).1 ∧ (parseF l).1.length = 32 := by
  unfold parseF
  cases hb : decide (l.length = 64) && l.all isHex with
  | false => exact ⟨By.rep _, rfl⟩
  | true =>
    simp only [Bool.and_eq_true, decide_eq_true_eq] at hb
    refine ⟨fun x hx => ?_, cF_length _ _⟩
    obtain ⟨j, hj, rfl⟩ := List.mem_map.1 hx
    have hj' := List.mem_range.1 hj
    have g : ∀ k, k < 64 → isHex (l.getD k 0) = true := fun k hk => by
      rw [List.getD_eq_getElem?_getD, List.getElem?_eq_getElem (by omega)]
      exact List.all_eq_true.1 hb.2 _ (List.getElem_mem _)
    have h1 := hval_lt (g (2 * j) (by omega))
    have h2 := hval_lt (g (2 * j + 1) (by omega))
    rw [if_pos (by omega)]
    omega
theorem parse_bad {l : List Int} (h : ¬ l.length = 64) : parseF l = (List.replicate 32 0, 21) := by
  unfold parseF
  rw [decide_eq_false h]
  rfl
theorem parse_badc {l : List Int} {i : Nat} (hi : i < l.length) (h : isHex (l.getD i 0) = false) : parseF l = (List.replicate 32 0, 21) := by
  have : l.all isHex = false := by
    rw [List.all_eq_false]
    refine ⟨l[i], List.getElem_mem hi, ?_⟩
    rw [List.getD_eq_getElem?_getD, List.getElem?_eq_getElem hi] at h
    simp only [Option.getD_some] at h
    simp [h]
  unfold parseF
  rw [this]
  simp
theorem parse_ok {l : List Int} (hl : l.length = 64) (h : ∀ i, i < 64 → isHex (l.getD i 0) = true) : parseF l = (cF l 64, 0) := by
  have : l.all isHex = true := by
    rw [List.all_eq_true]
    intro x hx
    obtain ⟨i, hi, rfl⟩ := List.getElem_of_mem hx
    have := h i (by omega)
    rwa [List.getD_eq_getElem?_getD, List.getElem?_eq_getElem hi] at this
  unfold parseF
  rw [this, decide_eq_true hl]
  rfl
end Go.Sha
