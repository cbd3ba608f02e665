/- Plain laws of bytes: a number as 32 bytes, the highest first, and back. -/
import Derived.Test.YtjdlefkpoggocaaW5
namespace Go.Wide
open Go Go.Sx
set_option linter.unusedSimpArgs false
set_option linter.unusedVariables false

/-- A number as bytes, the highest first. -/
def by32 (x : Nat) : List Int := (limbs 256 32 x).reverse

theorem by32_length (x : Nat) : (by32 x).length = 32 := by simp [by32, limbs_length]
theorem by32_dig (x : Nat) : Dig 256 (by32 x) := fun y hy => limbs_dig 256 (by decide) 32 x y (by simpa [by32] using hy)

theorem by32_getD {x k : Nat} (hk : k < 32) : (by32 x).getD k 0 = ((x / 256 ^ (31 - k) % 256 : Nat) : Int) := by
  have : by32 x = (limbs 256 32 x).reverse := rfl
  rw [this, List.getD_eq_getElem?_getD, List.getElem?_reverse (by rw [limbs_length]; exact hk), limbs_length, ← List.getD_eq_getElem?_getD, show 32 - 1 - k = 31 - k by omega]
  exact limbs_getD x (by omega)

theorem p64 (n : Nat) : N64 ^ n = 256 ^ (8 * n) := by rw [show N64 = 256 ^ 8 by decide, ← Nat.pow_mul]
theorem p2 (n : Nat) : 2 ^ (8 * n) = 256 ^ n := by rw [Nat.pow_mul]

theorem byte_of (x i : Nat) : x / N64 ^ (i / 8) % N64 / 2 ^ (8 * (i % 8)) % 256 = x / 256 ^ i % 256 := by
  rw [p2, p64]
  have hW : N64 = 256 ^ (i % 8) * 256 ^ (8 - i % 8) := by rw [← Nat.pow_add, show i % 8 + (8 - i % 8) = 8 by omega]
  generalize hz : x / 256 ^ (8 * (i / 8)) = z
  have : z % N64 / 256 ^ (i % 8) = z / 256 ^ (i % 8) % 256 ^ (8 - i % 8) := by rw [hW, Nat.mod_mul_right_div_self]
  have h2 : 256 ∣ 256 ^ (8 - i % 8) := by rw [show 8 - i % 8 = (7 - i % 8) + 1 by omega, Nat.pow_succ]; exact Nat.dvd_mul_left _ _
  rw [this, Nat.mod_mod_of_dvd _ h2, ← hz, Nat.div_div_eq_div_mul, ← Nat.pow_add, show 8 * (i / 8) + i % 8 = i by omega]

/-- The lowest i bytes are written. -/
def BI (x i : Nat) (l : List Int) : Prop := i ≤ 32 ∧ l.length = 32 ∧ ∀ j, j < i → l.getD (31 - j) 0 = ((x / 256 ^ j % 256 : Nat) : Int)
theorem BI.start (x : Nat) {l : List Int} (h : l.length = 32) : BI x 0 l := ⟨by omega, h, fun _ h => absurd h (Nat.not_lt_zero _)⟩
theorem BI.step {x i : Nat} {l : List Int} (h : BI x i l) (hi : i < 32) : BI x (i + 1) (l.set (31 - i) ((x / 256 ^ i % 256 : Nat) : Int)) := by
  obtain ⟨h1, h2, h3⟩ := h
  refine ⟨by omega, by simp [h2], fun j hj => ?_⟩
  rw [List.getD_eq_getElem?_getD, List.getElem?_set]
  by_cases he : 31 - i = 31 - j
  · rw [if_pos he, if_pos (by omega)]
    have : j = i := by omega
    subst this
    rfl
  · rw [if_neg he, ← List.getD_eq_getElem?_getD]
    exact h3 j (by omega)
theorem BI.end {x i : Nat} {l : List Int} (h : BI x i l) (hi : ¬ i < 32) : l = by32 x := by
  obtain ⟨h1, h2, h3⟩ := h
  have : i = 32 := by omega
  subst this
  refine List.ext_getElem (by rw [h2, by32_length]) fun k hk hk' => ?_
  have h4 := h3 (31 - k) (by omega)
  have h5 := by32_getD (x := x) (k := k) (by omega)
  rw [show 31 - (31 - k) = k by omega, getD_at hk] at h4
  rw [getD_at hk'] at h5
  rw [h4, h5]

/-- The number of bytes, the highest first. -/
def ofBy (b : List Int) : Nat := num 256 b.reverse
theorem ofBy_by32 {x : Nat} (h : x < T256) : ofBy (by32 x) = x := by
  unfold ofBy by32
  rw [List.reverse_reverse]
  exact num_limbs (by decide) 32 x h
theorem by32_ofBy {b : List Int} (hl : b.length = 32) (hd : Dig 256 b) : by32 (ofBy b) = b := by
  unfold ofBy by32
  have := limbs_num (W := 256) (by decide) (l := b.reverse) (fun y hy => hd y (by simpa using hy))
  rw [List.length_reverse, hl] at this
  rw [this, List.reverse_reverse]
theorem ofBy_lt {b : List Int} (hl : b.length = 32) (hd : Dig 256 b) : ofBy b < T256 := by
  have := num_lt (W := 256) (by decide) (l := b.reverse) (fun y hy => hd y (by simpa using hy))
  rw [List.length_reverse, hl] at this
  exact this
theorem ofBy_byte {b : List Int} (hl : b.length = 32) (hd : Dig 256 b) {i : Nat} (hi : i < 32) : b.getD (31 - i) 0 = ((ofBy b / 256 ^ i % 256 : Nat) : Int) := by
  have h1 := by32_ofBy hl hd
  have h5 := by32_getD (x := ofBy b) (k := 31 - i) (by omega)
  rw [h1, show 31 - (31 - i) = i by omega] at h5
  exact h5

/-- The lowest i bytes of a number. -/
theorem low_step (V i : Nat) : V % 256 ^ (i + 1) = V % 256 ^ i + V / 256 ^ i % 256 * 256 ^ i := by
  rw [Nat.pow_succ, Nat.mod_mul, Nat.mul_comm (256 ^ i)]

/-- A byte put where there is none. -/
theorem or_byte {v t i : Nat} (hv : v < 256 ^ i) (ht : t < 256) (hi : i < 32) :
    (L v).set (i / 8) (Sx.bits .or .u64 ((L v).getD (i / 8) 0) (shl .u64 (t : Int) ((8 * (i % 8) : Nat) : Int))) = L (v + t * 256 ^ i) := by
  have hpi : 256 ^ i = 256 ^ (i % 8) * N64 ^ (i / 8) := by rw [p64, ← Nat.pow_add, show i % 8 + 8 * (i / 8) = i by omega]
  have hW : N64 = 256 ^ (i % 8) * 256 ^ (8 - i % 8) := by rw [← Nat.pow_add, show i % 8 + (8 - i % 8) = 8 by omega]
  have hq : v / N64 ^ (i / 8) < 256 ^ (i % 8) := by
    rw [Nat.div_lt_iff_lt_mul (Nat.pow_pos (by decide)), ← hpi]
    exact hv
  have h8 : 256 ^ (i % 8 + 1) ≤ N64 := by
    have : 256 ^ (i % 8 + 1) ≤ 256 ^ 8 := Nat.pow_le_pow_right (by decide) (by omega)
    exact this
  have hps : 256 ^ (i % 8 + 1) = 256 ^ (i % 8) * 256 := Nat.pow_succ ..
  have hlow : 256 ^ (i % 8) ≤ N64 := by
    have : 256 ^ (i % 8) ≤ 256 ^ (i % 8) * 256 := Nat.le_mul_of_pos_right _ (by decide)
    omega
  have hg := limbs_getD (W := N64) (k := 4) (j := i / 8) v (by omega)
  have hqm : v / N64 ^ (i / 8) % N64 = v / N64 ^ (i / 8) := Nat.mod_eq_of_lt (by omega)
  have hvl : v < T256 := by
    have : 256 ^ i ≤ 256 ^ 32 := Nat.pow_le_pow_right (by decide) (by omega)
    have e : (256 : Nat) ^ 32 = T256 := by decide
    omega
  have ht' : t * 256 ^ (i % 8) + v / N64 ^ (i / 8) < N64 := by
    have : (t + 1) * 256 ^ (i % 8) ≤ 256 * 256 ^ (i % 8) := Nat.mul_le_mul_right _ (by omega)
    rw [Nat.add_mul, Nat.one_mul] at this
    rw [Nat.mul_comm 256] at this
    omega
  have htl : t * 256 ^ (i % 8) < N64 := by omega
  have hshl : shl .u64 (t : Int) ((8 * (i % 8) : Nat) : Int) = ((t * 2 ^ (8 * (i % 8)) : Nat) : Int) := by
    rw [shl_nat t (8 * (i % 8)) (by omega), p2, Nat.mod_eq_of_lt htl]
  have hor : Sx.bits .or .u64 ((v / N64 ^ (i / 8) : Nat) : Int) ((t * 2 ^ (8 * (i % 8)) : Nat) : Int) = ((t * 256 ^ (i % 8) + v / N64 ^ (i / 8) : Nat) : Int) := by
    have := or_low (a := t) (k := 8 * (i % 8)) (t := v / N64 ^ (i / 8)) (by omega) (by rw [p2]; exact htl) (by rw [p2]; exact hq)
    rw [p2] at this ⊢
    rw [← this]
    unfold Sx.bits
    simp only
    rw [BitVec.or_comm]
  show (limbs N64 4 v).set _ _ = _
  rw [hg, hqm, hshl, hor]
  refine L_eq ⟨by simp [limbs_length], (limbs_dig N64 (by decide) 4 v).set (Int.natCast_nonneg _) (Int.ofNat_lt.2 ht')⟩ ?_
  have hs := num_set (W := N64) (l := limbs N64 4 v) (i := i / 8) ((t * 256 ^ (i % 8) + v / N64 ^ (i / 8) : Nat) : Int) (by simp [limbs_length]; omega)
  rw [hg, hqm, num_limbs (by decide) 4 v hvl] at hs
  simp only [Int.toNat_natCast] at hs
  show num N64 ((limbs N64 4 v).set _ _) = _
  rw [hpi]
  rw [Nat.add_mul, Nat.mul_assoc] at hs
  omega

/-- What stands in the m-th word behind i bytes, the highest first. -/
def rfe (i m : Nat) : Nat := min (max i (8 * (3 - m))) (8 * (3 - m) + 8)
def rfw (V i m : Nat) : Nat := V / 256 ^ (32 - rfe i m) % 256 ^ (rfe i m - 8 * (3 - m))
def RF (V i : Nat) : List Int := [((rfw V i 0 : Nat) : Int), ((rfw V i 1 : Nat) : Int), ((rfw V i 2 : Nat) : Int), ((rfw V i 3 : Nat) : Int)]

theorem RF.start (V : Nat) : RF V 0 = [0, 0, 0, 0] := by
  unfold RF rfw rfe
  simp [Nat.mod_one]
theorem rfw_lt (V i m : Nat) : rfw V i m < N64 := by
  have h1 : rfw V i m < 256 ^ (rfe i m - 8 * (3 - m)) := Nat.mod_lt _ (Nat.pow_pos (by decide))
  have h2 : 256 ^ (rfe i m - 8 * (3 - m)) ≤ 256 ^ 8 := Nat.pow_le_pow_right (by decide) (by unfold rfe; omega)
  exact Nat.lt_of_lt_of_le h1 h2
theorem RF.end {V : Nat} (h : V < T256) : RF V 32 = L V := by
  have e : ∀ m, m < 4 → rfw V 32 m = V / N64 ^ m % N64 := by
    intro m hm
    unfold rfw
    have : rfe 32 m = 8 * (3 - m) + 8 := by unfold rfe; omega
    rw [this, p64, show 32 - (8 * (3 - m) + 8) = 8 * m by omega, show 8 * (3 - m) + 8 - 8 * (3 - m) = 8 by omega]
  unfold RF
  rw [e 0 (by omega), e 1 (by omega), e 2 (by omega), e 3 (by omega)]
  have h4 : ∀ l : List Int, l.length = 4 → l = [l.getD 0 0, l.getD 1 0, l.getD 2 0, l.getD 3 0] := by
    intro l hl
    match l, hl with
    | [a, b, c, d], _ => rfl
  rw [h4 (L V) (limbs_length _ _ _)]
  simp only [limbs_getD (W := N64) (k := 4) V (show 0 < 4 by decide), limbs_getD (W := N64) (k := 4) V (show 1 < 4 by decide), limbs_getD (W := N64) (k := 4) V (show 2 < 4 by decide), limbs_getD (W := N64) (k := 4) V (show 3 < 4 by decide)]

theorem rfw_other {V i m : Nat} (hi : i < 32) (hm : m < 4) (hne : m ≠ 3 - i / 8) : rfw V (i + 1) m = rfw V i m := by
  have : rfe (i + 1) m = rfe i m := by unfold rfe; omega
  unfold rfw
  rw [this]
theorem rfw_this {V i : Nat} (hi : i < 32) : rfw V (i + 1) (3 - i / 8) = rfw V i (3 - i / 8) * 256 + V / 256 ^ (31 - i) % 256 ∧ rfw V i (3 - i / 8) * 256 + V / 256 ^ (31 - i) % 256 < N64 := by
  have e : rfw V (i + 1) (3 - i / 8) = rfw V i (3 - i / 8) * 256 + V / 256 ^ (31 - i) % 256 := by
    have e1 : rfe (i + 1) (3 - i / 8) = i + 1 := by unfold rfe; omega
    have e2 : rfe i (3 - i / 8) = i := by unfold rfe; omega
    unfold rfw
    rw [e1, e2, show i + 1 - 8 * (3 - (3 - i / 8)) = (i - 8 * (3 - (3 - i / 8))) + 1 by omega, show 32 - i = (31 - i) + 1 by omega, show 32 - (i + 1) = 31 - i by omega,
      Nat.pow_succ 256 (31 - i), ← Nat.div_div_eq_div_mul, Nat.pow_succ, Nat.mul_comm _ 256, Nat.mod_mul]
    omega
  exact ⟨e, by rw [← e]; exact rfw_lt _ _ _⟩
theorem RF.step {V i : Nat} (hi : i < 32) : (RF V i).getD (3 - i / 8) 0 = ((rfw V i (3 - i / 8) : Nat) : Int) ∧ (RF V i).set (3 - i / 8) ((rfw V i (3 - i / 8) * 256 + V / 256 ^ (31 - i) % 256 : Nat) : Int) = RF V (i + 1) := by
  rw [← (rfw_this (V := V) hi).1]
  have h4 : 3 - i / 8 = 0 ∨ 3 - i / 8 = 1 ∨ 3 - i / 8 = 2 ∨ 3 - i / 8 = 3 := by omega
  unfold RF
  rcases h4 with h | h | h | h <;> rw [h]
  · exact ⟨rfl, by rw [rfw_other (m := 1) hi (by omega) (by omega), rfw_other (m := 2) hi (by omega) (by omega), rfw_other (m := 3) hi (by omega) (by omega)]; rfl⟩
  · exact ⟨rfl, by rw [rfw_other (m := 0) hi (by omega) (by omega), rfw_other (m := 2) hi (by omega) (by omega), rfw_other (m := 3) hi (by omega) (by omega)]; rfl⟩
  · exact ⟨rfl, by rw [rfw_other (m := 0) hi (by omega) (by omega), rfw_other (m := 1) hi (by omega) (by omega), rfw_other (m := 3) hi (by omega) (by omega)]; rfl⟩
  · exact ⟨rfl, by rw [rfw_other (m := 0) hi (by omega) (by omega), rfw_other (m := 1) hi (by omega) (by omega), rfw_other (m := 2) hi (by omega) (by omega)]; rfl⟩
end Go.Wide
