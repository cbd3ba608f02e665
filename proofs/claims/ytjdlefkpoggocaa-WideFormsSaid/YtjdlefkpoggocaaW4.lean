/- Plain laws of the product digit by digit. -/
import Derived.Test.YtjdlefkpoggocaaW3
namespace Go.Wide
open Go Go.Sx
set_option linter.unusedSimpArgs false
set_option linter.unusedVariables false

def RO (a b : List Int) (i : Nat) (l : List Int) : Prop := i ≤ 8 ∧ l.length = 16 ∧ Dig N32 l ∧ num N32 l = num N32 (a.take i) * num N32 b ∧ ∀ j, i + 8 ≤ j → l.getD j 0 = 0
def RI (a b : List Int) (i k : Nat) (l : List Int) (c : Nat) : Prop := i < 8 ∧ k ≤ 8 ∧ l.length = 16 ∧ Dig N32 l ∧ c < N32 ∧ num N32 l + c * (N32 ^ i * N32 ^ k) = num N32 (a.take i) * num N32 b + (a.getD i 0).toNat * num N32 (b.take k) * N32 ^ i ∧ ∀ j, i + 8 ≤ j → l.getD j 0 = 0

theorem RO.start {a b : List Int} : RO a b 0 (List.replicate 16 0) :=
  ⟨by omega, rfl, Dig.rep 16 (by decide), by rw [num_rep]; simp [num], fun j _ => by
    rw [List.getD_eq_getElem?_getD, List.getElem?_replicate]
    split <;> rfl⟩
theorem RI.start {a b : List Int} {i : Nat} {l : List Int} (h : RO a b i l) (hi : i < 8) : RI a b i 0 l 0 := by
  obtain ⟨h1, h2, h3, h4, h5⟩ := h
  exact ⟨hi, by omega, h2, h3, by decide, by simp [num, h4], h5⟩

theorem rstep {m nl P c o r q x y wi wk bk W : Nat} (h6 : nl + c * (wi * wk) = P + x * bk * wi) (hs : m + o * (wi * wk) = nl + r * (wi * wk)) (hd : r + q * W = c + o + x * y) :
    m + q * (wi * (wk * W)) = P + x * (bk + y * wk) * wi := by grind
theorem rend {nl c x B wi W4 A : Nat} (h : nl + c * (wi * W4) = A * B + x * B * wi) : nl + c * (wi * W4) = (A + x * wi) * B := by grind

theorem rbound {W c o x y : Nat} (hc : c < W) (ho : o < W) (hx : x < W) (hy : y < W) : c + o + x * y < W * W := by
  have h1 : x * y ≤ (W - 1) * (W - 1) := Nat.mul_le_mul (by omega) (by omega)
  obtain ⟨v, rfl⟩ : ∃ v, W = v + 1 := ⟨W - 1, by omega⟩
  simp only [Nat.add_sub_cancel] at h1
  rw [Nat.add_mul, Nat.mul_add]
  omega

theorem RI.step {a b : List Int} (ha : a.length = 8) (hda : Dig N32 a) (hb : b.length = 8) (hdb : Dig N32 b) {i k : Nat} {l : List Int} {c : Nat} (h : RI a b i k l c) (hk : k < 8) :
    ∃ x y o : Nat, a.getD i 0 = (x : Int) ∧ b.getD k 0 = (y : Int) ∧ l.getD (i + k) 0 = (o : Int) ∧ x < N32 ∧ y < N32 ∧ o < N32 ∧ c < N32 ∧
      RI a b i (k + 1) (l.set (i + k) (((c + o + x * y) % N32 : Nat) : Int)) ((c + o + x * y) / N32) := by
  obtain ⟨h1, h2, h3, h4, h5, h6, h7⟩ := h
  obtain ⟨x, hx, hx'⟩ := dig_nat (by decide) hda i
  obtain ⟨y, hy, hy'⟩ := dig_nat (by decide) hdb k
  obtain ⟨o, ho, ho'⟩ := dig_nat (by decide) h4 (i + k)
  have hbd := rbound h5 ho' hx' hy'
  have hn := num_set (W := N32) (l := l) (i := i + k) (((c + o + x * y) % N32 : Nat) : Int) (by omega)
  have hbk := num_take (W := N32) (l := b) (i := k) (by omega)
  rw [hx, Int.toNat_natCast] at h6
  rw [hy, Int.toNat_natCast] at hbk
  rw [ho, Int.toNat_natCast, Int.toNat_natCast, Nat.pow_add] at hn
  have hd : (c + o + x * y) % N32 + (c + o + x * y) / N32 * N32 = c + o + x * y := Nat.mod_add_div' _ _
  refine ⟨x, y, o, hx, hy, ho, hx', hy', ho', h5, h1, hk, by simp [h3], h4.set (Int.natCast_nonneg _) (Int.ofNat_lt.2 (Nat.mod_lt _ (by decide))), Nat.div_lt_of_lt_mul hbd, ?_, fun j hj => ?_⟩
  · rw [hbk, hx, Int.toNat_natCast, Nat.pow_succ]
    exact rstep h6 hn hd
  · rw [List.getD_eq_getElem?_getD, List.getElem?_set_ne (by omega), ← List.getD_eq_getElem?_getD]
    exact h7 j hj

theorem RI.end {a b : List Int} (ha : a.length = 8) (hb : b.length = 8) {i k : Nat} {l : List Int} {c : Nat} (h : RI a b i k l c) (hk : ¬ k < 8) : RO a b (i + 1) (l.set (i + 8) (c : Int)) := by
  obtain ⟨h1, h2, h3, h4, h5, h6, h7⟩ := h
  have : k = 8 := by omega
  subst this
  have hn := num_set (W := N32) (l := l) (i := i + 8) (c : Int) (by omega)
  have hz := h7 (i + 8) (Nat.le_refl _)
  rw [hz] at hn
  rw [List.take_of_length_le (l := b) (by omega)] at h6
  have hbk := num_take (W := N32) (l := a) (i := i) (by omega)
  refine ⟨by omega, by simp [h3], h4.set (Int.natCast_nonneg _) (Int.ofNat_lt.2 h5), ?_, fun j hj => ?_⟩
  · rw [hbk]
    rw [Nat.pow_add] at hn
    simp only [Int.toNat_zero, Nat.zero_mul, Nat.add_zero, Int.toNat_natCast] at hn
    rw [hn]
    exact rend h6
  · rw [List.getD_eq_getElem?_getD, List.getElem?_set_ne (by omega), ← List.getD_eq_getElem?_getD]
    exact h7 j (by omega)

theorem getD_at {l : List Int} {i : Nat} (h : i < l.length) : l.getD i 0 = l[i] := by rw [List.getD_eq_getElem?_getD, List.getElem?_eq_getElem h]; rfl

/-- The low half, as far as it is copied; nothing stands in the high one so far. -/
def PI (l : List Int) (i : Nat) (low : List Int) : Prop := i ≤ 8 ∧ low.length = 8 ∧ (∀ j, j < i → low.getD j 0 = l.getD j 0) ∧ ∀ j, j < i → l.getD (j + 8) 0 = 0
theorem PI.start (l : List Int) : PI l 0 (List.replicate 8 0) := ⟨by omega, rfl, fun _ h => absurd h (Nat.not_lt_zero _), fun _ h => absurd h (Nat.not_lt_zero _)⟩
theorem PI.step {l low : List Int} {i : Nat} (h : PI l i low) (hi : i < 8) (hz : l.getD (i + 8) 0 = 0) : PI l (i + 1) (low.set i (l.getD i 0)) := by
  obtain ⟨h1, h2, h3, h4⟩ := h
  refine ⟨by omega, by simp [h2], fun j hj => ?_, fun j hj => ?_⟩
  · rw [List.getD_eq_getElem?_getD, List.getElem?_set]
    by_cases he : i = j
    · subst he
      rw [if_pos rfl, if_pos (by omega)]
      rfl
    · rw [if_neg he, ← List.getD_eq_getElem?_getD]
      exact h3 j (by omega)
  · by_cases he : j = i
    · subst he; exact hz
    · exact h4 j (by omega)
theorem PI.end {l low : List Int} {i : Nat} (hl : l.length = 16) (h : PI l i low) (hi : ¬ i < 8) : low = l.take 8 ∧ l.drop 8 = List.replicate 8 0 := by
  obtain ⟨h1, h2, h3, h4⟩ := h
  have : i = 8 := by omega
  subst this
  constructor
  · refine List.ext_getElem (by simp [h2, hl]) fun j hj hj' => ?_
    have := h3 j (by omega)
    rw [getD_at (by omega), getD_at (by omega)] at this
    simpa using this
  · refine List.ext_getElem (by simp [hl]) fun j hj hj' => ?_
    have := h4 j (by simp at hj'; omega)
    simp only [List.length_drop, hl] at hj
    rw [getD_at (by omega)] at this
    simp only [List.getElem_drop, List.getElem_replicate]
    rw [← this]
    congr 1
    omega

theorem RO.all {a b : List Int} (ha : a.length = 8) {i : Nat} {l : List Int} (h : RO a b i l) (hi : ¬ i < 8) : l.length = 16 ∧ Dig N32 l ∧ num N32 (l.take 8) + T256 * num N32 (l.drop 8) = num N32 a * num N32 b := by
  obtain ⟨h1, h2, h3, h4, h5⟩ := h
  have : i = 8 := by omega
  subst this
  rw [List.take_of_length_le (by omega)] at h4
  refine ⟨h2, h3, ?_⟩
  have := num_append N32 (l.take 8) (l.drop 8)
  rw [List.take_append_drop, List.length_take, h2] at this
  rw [← h4, this]
  rfl

theorem high_pos {l : List Int} {j : Nat} (hd : Dig N32 l) (h : l.getD (j + 8) 0 ≠ 0) : 0 < num N32 (l.drop 8) := by
  have hlt : j + 8 < l.length := by
    rcases Nat.lt_or_ge (j + 8) l.length with h1 | h1
    · exact h1
    · rw [List.getD_eq_getElem?_getD, List.getElem?_eq_none h1] at h
      exact absurd rfl h
  have hd8 : Dig N32 (l.drop 8) := fun x hx => hd x (List.mem_of_mem_drop hx)
  refine Nat.pos_of_ne_zero fun h0 => h ?_
  have := num_inj (W := N32) (by decide) hd8 (Dig.rep (l.drop 8).length (by decide)) (by simp) (by rw [h0, num_rep])
  have h2 : (l.drop 8)[j]? = some 0 := by
    rw [this, List.getElem?_replicate, if_pos (by simp; omega)]
  rw [List.getElem?_drop, Nat.add_comm 8 j] at h2
  rw [List.getD_eq_getElem?_getD, h2]
  rfl
end Go.Wide
