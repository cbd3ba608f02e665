/- Plain laws of the sums and differences digit by digit. -/
import Derived.Test.YtjdlefkpoggocaaW2
namespace Go.Wide
open Go Go.Sx
set_option linter.unusedSimpArgs false
set_option linter.unusedVariables false

abbrev N32 : Nat := 4294967296

theorem dig_nat {W : Nat} (hW : 0 < W) {l : List Int} (h : Dig W l) (i : Nat) : ∃ o : Nat, l.getD i 0 = (o : Int) ∧ o < W := by
  have := h.getD hW i
  exact ⟨(l.getD i 0).toNat, by omega, by omega⟩

def AI (x : Nat) (Y : List Int) (i : Nat) (l : List Int) (c : Nat) : Prop := i ≤ 8 ∧ l.length = 8 ∧ Dig N32 l ∧ c ≤ 1 ∧ num N32 l + c * N32 ^ i = x + num N32 (Y.take i)
def SI (x : Nat) (Y : List Int) (i : Nat) (l : List Int) (c : Nat) : Prop := i ≤ 8 ∧ l.length = 8 ∧ Dig N32 l ∧ c ≤ 1 ∧ num N32 l + num N32 (Y.take i) = x + c * N32 ^ i

theorem AI.start {X Y : List Int} (hl : X.length = 8) (hd : Dig N32 X) : AI (num N32 X) Y 0 X 0 := ⟨by omega, hl, hd, by omega, by simp [num]⟩
theorem SI.start {X Y : List Int} (hl : X.length = 8) (hd : Dig N32 X) : SI (num N32 X) Y 0 X 0 := ⟨by omega, hl, hd, by omega, by simp [num]⟩

theorem AI.step {x : Nat} {Y : List Int} (hY : Y.length = 8) (hdY : Dig N32 Y) {i : Nat} {l : List Int} {c : Nat} (h : AI x Y i l c) (hi : i < 8) :
    ∃ o y : Nat, l.getD i 0 = (o : Int) ∧ Y.getD i 0 = (y : Int) ∧ o < N32 ∧ y < N32 ∧ c ≤ 1 ∧ AI x Y (i + 1) (l.set i (((c + o + y) % N32 : Nat) : Int)) ((c + o + y) / N32) := by
  obtain ⟨h1, h2, h3, h4, h5⟩ := h
  obtain ⟨o, ho, ho'⟩ := dig_nat (by decide) h3 i
  obtain ⟨y, hy, hy'⟩ := dig_nat (by decide) hdY i
  refine ⟨o, y, ho, hy, ho', hy', h4, by omega, by simp [h2], h3.set (Int.natCast_nonneg _) (Int.ofNat_lt.2 (Nat.mod_lt _ (by decide))), ?_, ?_⟩
  · have : (c + o + y) / N32 < 2 := by simp only [N32] at *; omega
    omega
  · have hs := num_set (W := N32) (l := l) (i := i) (((c + o + y) % N32 : Nat) : Int) (by omega)
    have ht := num_take (W := N32) (l := Y) (i := i) (by omega)
    rw [ho] at hs
    rw [hy] at ht
    rw [ht, Nat.pow_succ]
    simp only [Int.toNat_natCast] at *
    have hd : (c + o + y) % N32 + (c + o + y) / N32 * N32 = c + o + y := Nat.mod_add_div' _ _
    generalize (c + o + y) % N32 = v at *
    generalize (c + o + y) / N32 = q at *
    generalize N32 ^ i = w at *
    generalize num N32 (l.set i (v : Int)) = m at *
    generalize num N32 l = nl at *
    generalize num N32 (Y.take i) = t at *
    have : v * w + q * (w * N32) = (c + o + y) * w := by rw [← hd, Nat.add_mul, Nat.mul_assoc, Nat.mul_comm N32 w]
    rw [Nat.add_mul, Nat.add_mul] at this
    omega

theorem sub_dig {W o y c : Nat} (ho : o < W) (hy : y < W) (hc : c ≤ 1) : (o + W - y - c) / W ≤ 1 ∧ (o + W - y - c) % W + y + c = o + W * (1 - (o + W - y - c) / W) := by
  generalize hd : o + W - y - c = d
  by_cases h : d < W
  · rw [Nat.div_eq_of_lt h, Nat.mod_eq_of_lt h]
    omega
  · have h1 : d / W = 1 := Nat.div_eq_of_lt_le (by omega) (by omega)
    have h2 : d % W = d - W := by rw [Nat.mod_eq_sub_mod (by omega), Nat.mod_eq_of_lt (by omega)]
    rw [h1, h2]
    omega

theorem SI.step {x : Nat} {Y : List Int} (hY : Y.length = 8) (hdY : Dig N32 Y) {i : Nat} {l : List Int} {c : Nat} (h : SI x Y i l c) (hi : i < 8) :
    ∃ o y : Nat, l.getD i 0 = (o : Int) ∧ Y.getD i 0 = (y : Int) ∧ o < N32 ∧ y < N32 ∧ c ≤ 1 ∧ (o + N32 - y - c) / N32 ≤ 1 ∧ SI x Y (i + 1) (l.set i (((o + N32 - y - c) % N32 : Nat) : Int)) (1 - (o + N32 - y - c) / N32) := by
  obtain ⟨h1, h2, h3, h4, h5⟩ := h
  obtain ⟨o, ho, ho'⟩ := dig_nat (by decide) h3 i
  obtain ⟨y, hy, hy'⟩ := dig_nat (by decide) hdY i
  obtain ⟨d1, d2⟩ := sub_dig ho' hy' h4
  refine ⟨o, y, ho, hy, ho', hy', h4, d1, hi, by simp [h2], h3.set (Int.natCast_nonneg _) (Int.ofNat_lt.2 (Nat.mod_lt _ (by decide))), Nat.sub_le _ _, ?_⟩
  have hs := num_set (W := N32) (l := l) (i := i) (((o + N32 - y - c) % N32 : Nat) : Int) (by omega)
  have ht := num_take (W := N32) (l := Y) (i := i) (by omega)
  rw [ho, Int.toNat_natCast, Int.toNat_natCast] at hs
  rw [hy, Int.toNat_natCast] at ht
  rw [ht, Nat.pow_succ]
  generalize (o + N32 - y - c) % N32 = v at *
  generalize 1 - (o + N32 - y - c) / N32 = q at *
  generalize num N32 (l.set i (v : Int)) = m at *
  generalize num N32 l = nl at *
  generalize num N32 (Y.take i) = t at *
  generalize N32 ^ i = w at *
  have : (v + y + c) * w = (o + N32 * q) * w := by rw [d2]
  generalize N32 = W at *
  clear ho' hy' h3 hdY d1 d2 ho hy
  rw [Nat.add_mul, Nat.add_mul, Nat.add_mul, Nat.mul_assoc, Nat.mul_left_comm W q w, Nat.mul_comm W w] at this
  omega

theorem AI.end {x : Nat} {Y : List Int} (hY : Y.length = 8) {i : Nat} {l : List Int} {c : Nat} (h : AI x Y i l c) (hi : ¬ i < 8) : num N32 l + c * T256 = x + num N32 Y := by
  obtain ⟨h1, h2, h3, h4, h5⟩ := h
  have : i = 8 := by omega
  subst this
  rw [List.take_of_length_le (by omega)] at h5
  exact h5
theorem SI.end {x : Nat} {Y : List Int} (hY : Y.length = 8) {i : Nat} {l : List Int} {c : Nat} (h : SI x Y i l c) (hi : ¬ i < 8) : num N32 l + num N32 Y = x + c * T256 := by
  obtain ⟨h1, h2, h3, h4, h5⟩ := h
  have : i = 8 := by omega
  subst this
  rw [List.take_of_length_le (by omega)] at h5
  exact h5
end Go.Wide
