/- Plain laws of the division bit by bit. -/
import Derived.Test.YtjdlefkpoggocaaW1
namespace Go.Wide
open Go Go.Sx
set_option linter.unusedSimpArgs false
set_option linter.unusedVariables false

/-- Quotient and rest behind i rounds. -/
def DI (x y i q r : Nat) : Prop := i ≤ 256 ∧ 0 < y ∧ q = x / 2 ^ (256 - i) / y * 2 ^ (256 - i) ∧ r = x / 2 ^ (256 - i) % y

theorem DI.start {x y : Nat} (hx : x < T256) (hy : 0 < y) : DI x y 0 0 0 := by
  have : x / 2 ^ (256 - 0) = 0 := Nat.div_eq_of_lt hx
  exact ⟨by omega, hy, by rw [this]; simp, by rw [this]; simp⟩

theorem DI.end {x y i q r : Nat} (h : DI x y i q r) (hi : ¬ i < 256) : q = x / y ∧ r = x % y := by
  obtain ⟨h1, h2, h3, h4⟩ := h
  have : i = 256 := by omega
  subst this
  simp at h3 h4
  exact ⟨h3, h4⟩

theorem DI.lt {x y i q r : Nat} (hx : x < T256) (h : DI x y i q r) : q < T256 := by
  obtain ⟨h1, h2, h3, h4⟩ := h
  have k1 : x / 2 ^ (256 - i) / y * 2 ^ (256 - i) ≤ x / 2 ^ (256 - i) * 2 ^ (256 - i) := Nat.mul_le_mul_right _ (Nat.div_le_self _ _)
  have k2 := Nat.div_mul_le_self x (2 ^ (256 - i))
  omega

theorem bit_of (x n : Nat) : x / N64 ^ (n / 64) % N64 / 2 ^ (n % 64) % 2 = x / 2 ^ n % 2 := by
  have hW : N64 = 2 ^ (n % 64) * 2 ^ (64 - n % 64) := by rw [← Nat.pow_add, show n % 64 + (64 - n % 64) = 64 by omega]
  have hWj : N64 ^ (n / 64) = 2 ^ (64 * (n / 64)) := by rw [Nat.pow_mul]
  rw [hWj]
  generalize hz : x / 2 ^ (64 * (n / 64)) = z
  have : z % N64 / 2 ^ (n % 64) = z / 2 ^ (n % 64) % 2 ^ (64 - n % 64) := by rw [hW, Nat.mod_mul_right_div_self]
  have h2 : 2 ∣ 2 ^ (64 - n % 64) := by rw [show 64 - n % 64 = (63 - n % 64) + 1 by omega, Nat.pow_succ]; exact Nat.dvd_mul_left _ _
  rw [this, Nat.mod_mod_of_dvd _ h2, ← hz, Nat.div_div_eq_div_mul, ← Nat.pow_add, show 64 * (n / 64) + n % 64 = n by omega]

theorem DI.step {x y i q r : Nat} (hx : x < T256) (h : DI x y i q r) (hi : i < 256) (b : Nat) (hb : b = x / 2 ^ (255 - i) % 2) :
    q % 2 ^ (255 - i + 1) = 0 ∧ 2 * r + b < 2 * y ∧ (2 * r + b < y → DI x y (i + 1) q (2 * r + b)) ∧ (y ≤ 2 * r + b → DI x y (i + 1) (q + 2 ^ (255 - i)) (2 * r + b - y) ∧ q + 2 ^ (255 - i) < T256) := by
  obtain ⟨h1, h2, h3, h4⟩ := h
  have e1 : 256 - i = 255 - i + 1 := by omega
  have e2 : 256 - (i + 1) = 255 - i := by omega
  rw [e1, Nat.pow_succ, ← Nat.div_div_eq_div_mul] at h3 h4
  unfold DI
  rw [e2, Nat.pow_succ]
  have hle : x / 2 ^ (255 - i) * 2 ^ (255 - i) ≤ x := Nat.div_mul_le_self _ _
  have hp : 0 < 2 ^ (255 - i) := Nat.two_pow_pos _
  generalize x / 2 ^ (255 - i) = t at *
  generalize 2 ^ (255 - i) = p at *
  have hr : r < y := by rw [h4]; exact Nat.mod_lt _ h2
  have hs : t = y * (2 * (t / 2 / y)) + (2 * r + b) := by
    have k1 := Nat.div_add_mod (t / 2) y
    have k2 := Nat.div_add_mod t 2
    rw [← h4] at k1
    rw [← hb] at k2
    rw [Nat.mul_left_comm]
    omega
  refine ⟨by rw [h3]; exact Nat.mul_mod_left _ _, by omega, fun hlt => ?_, fun hge => ?_⟩
  · have hd : t / y = 2 * (t / 2 / y) := by
      conv => lhs; rw [hs]
      rw [Nat.mul_add_div h2, Nat.div_eq_of_lt hlt, Nat.add_zero]
    have hm : t % y = 2 * r + b := by
      conv => lhs; rw [hs]
      rw [Nat.mul_add_mod, Nat.mod_eq_of_lt hlt]
    exact ⟨by omega, h2, by rw [hd, h3, Nat.mul_comm p 2, ← Nat.mul_assoc, Nat.mul_comm 2 (t / 2 / y)], hm.symm⟩
  · have hs' : t = y * (2 * (t / 2 / y) + 1) + (2 * r + b - y) := by rw [Nat.mul_add]; omega
    have hlt : 2 * r + b - y < y := by omega
    have hd : t / y = 2 * (t / 2 / y) + 1 := by
      conv => lhs; rw [hs']
      rw [Nat.mul_add_div h2, Nat.div_eq_of_lt hlt, Nat.add_zero]
    have hm : t % y = 2 * r + b - y := by
      conv => lhs; rw [hs']
      rw [Nat.mul_add_mod, Nat.mod_eq_of_lt hlt]
    have hq : q + p = t / y * p := by rw [hd, h3, Nat.mul_comm p 2, ← Nat.mul_assoc, Nat.mul_comm 2 (t / 2 / y), Nat.add_mul, Nat.one_mul]
    refine ⟨⟨by omega, h2, hq, hm.symm⟩, ?_⟩
    rw [hq]
    have : t / y * p ≤ t * p := Nat.mul_le_mul_right _ (Nat.div_le_self _ _)
    omega

/-- A bit put where there is none. -/
theorem set_bit {q n : Nat} (hq : q % 2 ^ (n + 1) = 0) (hn : n < 256) (hl : q < T256) (hlt : q + 2 ^ n < T256) :
    (limbs N64 4 q).getD (n / 64) 0 = ((q / N64 ^ (n / 64) % N64 : Nat) : Int) ∧ ∃ d, q / N64 ^ (n / 64) % N64 = d * 2 ^ (n % 64 + 1) ∧ d * 2 ^ (n % 64 + 1) + 2 ^ (n % 64) < N64 ∧
    (L q).set (n / 64) ((d * 2 ^ (n % 64 + 1) + 2 ^ (n % 64) : Nat) : Int) = L (q + 2 ^ n) := by
  have hg := limbs_getD (W := N64) (k := 4) (j := n / 64) q (by omega)
  refine ⟨hg, ?_⟩
  have hWj : N64 ^ (n / 64) = 2 ^ (64 * (n / 64)) := by rw [Nat.pow_mul]
  have hpn : 2 ^ n = 2 ^ (n % 64) * N64 ^ (n / 64) := by rw [hWj, ← Nat.pow_add, show n % 64 + 64 * (n / 64) = n by omega]
  have hpn1 : 2 ^ (n + 1) = 2 ^ (n % 64 + 1) * N64 ^ (n / 64) := by rw [hWj, ← Nat.pow_add, show n % 64 + 1 + 64 * (n / 64) = n + 1 by omega]
  have hW : N64 = 2 ^ (n % 64 + 1) * 2 ^ (63 - n % 64) := by rw [← Nat.pow_add, show n % 64 + 1 + (63 - n % 64) = 64 by omega]
  have hc : q = q / 2 ^ (n + 1) * 2 ^ (n + 1) := by have := Nat.div_add_mod q (2 ^ (n + 1)); rw [hq, Nat.add_zero, Nat.mul_comm] at this; exact this.symm
  have hz : q / N64 ^ (n / 64) = 2 ^ (n % 64 + 1) * (q / 2 ^ (n + 1)) := by
    conv => lhs; rw [hc, hpn1, ← Nat.mul_assoc]
    rw [Nat.mul_div_cancel _ (Nat.pos_of_ne_zero (by rw [hWj]; exact Nat.ne_of_gt (Nat.two_pow_pos _))), ← hpn1, Nat.mul_comm]
  have hd : q / N64 ^ (n / 64) % N64 = (q / 2 ^ (n + 1) % 2 ^ (63 - n % 64)) * 2 ^ (n % 64 + 1) := by
    rw [hz]
    conv => lhs; rw [hW]
    rw [Nat.mul_mod_mul_left, Nat.mul_comm]
  have hlt' : (q / 2 ^ (n + 1) % 2 ^ (63 - n % 64)) * 2 ^ (n % 64 + 1) + 2 ^ (n % 64) < N64 := by
    have h1 : q / 2 ^ (n + 1) % 2 ^ (63 - n % 64) < 2 ^ (63 - n % 64) := Nat.mod_lt _ (Nat.two_pow_pos _)
    have h2 : (q / 2 ^ (n + 1) % 2 ^ (63 - n % 64) + 1) * 2 ^ (n % 64 + 1) ≤ 2 ^ (63 - n % 64) * 2 ^ (n % 64 + 1) := Nat.mul_le_mul_right _ h1
    rw [Nat.mul_comm (2 ^ (63 - n % 64)), ← hW, Nat.add_mul, Nat.one_mul, Nat.pow_succ 2 (n % 64)] at h2
    have := Nat.two_pow_pos (n % 64)
    rw [Nat.pow_succ 2 (n % 64)]
    omega
  refine ⟨_, hd, hlt', ?_⟩
  refine L_eq ⟨by simp [limbs_length], (limbs_dig N64 (by decide) 4 q).set (Int.natCast_nonneg _) (Int.ofNat_lt.2 hlt')⟩ ?_
  have hs := num_set (W := N64) (l := limbs N64 4 q) (i := n / 64) (((q / 2 ^ (n + 1) % 2 ^ (63 - n % 64)) * 2 ^ (n % 64 + 1) + 2 ^ (n % 64) : Nat) : Int) (by simp [limbs_length]; omega)
  rw [hg, hd, num_limbs (by decide) 4 q hl] at hs
  simp only [Int.toNat_natCast] at hs
  rw [hpn]
  generalize N64 ^ (n / 64) = w at *
  rw [Nat.add_mul] at hs
  show num N64 ((limbs N64 4 q).set _ _) = _
  omega
end Go.Wide
