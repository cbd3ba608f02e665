/- Plain laws of words of 64 bits: what a carry, a borrow and a product of two words come to. -/
import Derived.Test.YtjdlefkpoggocaaSx22
namespace Go.Wide
open Go Go.Sx
set_option linter.unusedSimpArgs false
set_option linter.unusedVariables false

abbrev T64 : Int := 18446744073709551616
/-- A word. -/
def Wd (x : Int) : Prop := 0 ≤ x ∧ x < 18446744073709551616

theorem ofInt_toNat {x : Int} (h : Wd x) : (BitVec.ofInt 64 x).toNat = x.toNat := by
  obtain ⟨h0, h1⟩ := h
  rw [BitVec.toNat_ofInt]
  rw [Int.emod_eq_of_lt h0 (by simpa using h1)]

theorem wrap_u64 (x : Int) : IntKind.u64.wrap x = x % 18446744073709551616 := by
  simp [IntKind.wrap, IntKind.bits, IntKind.signed]

theorem wrap_word {x : Int} (h : Wd x) : IntKind.u64.wrap x = x := by
  rw [wrap_u64]
  exact Int.emod_eq_of_lt h.1 h.2

theorem bv_word (b : BitVec 64) : Wd (b.toNat : Int) := ⟨by omega, by have := b.isLt; omega⟩

theorem and_bv {x y : Int} : Sx.bits .and .u64 x y = (((BitVec.ofInt 64 x) &&& (BitVec.ofInt 64 y)).toNat : Int) := wrap_word (bv_word _)
theorem or_bv {x y : Int} : Sx.bits .or .u64 x y = (((BitVec.ofInt 64 x) ||| (BitVec.ofInt 64 y)).toNat : Int) := wrap_word (bv_word _)
theorem xor_bv {x y : Int} : Sx.bits .xor .u64 x y = (((BitVec.ofInt 64 x) ^^^ (BitVec.ofInt 64 y)).toNat : Int) := wrap_word (bv_word _)
theorem andNot_bv {x y : Int} : Sx.bits .andNot .u64 x y = (((BitVec.ofInt 64 x) &&& ~~~ (BitVec.ofInt 64 y)).toNat : Int) := wrap_word (bv_word _)

theorem ofInt_nat (b : BitVec 64) : BitVec.ofInt 64 (b.toNat : Int) = b := by
  apply BitVec.eq_of_toNat_eq
  rw [ofInt_toNat (bv_word b)]
  simp

theorem msb_word {x : Int} (h : Wd x) : (BitVec.ofInt 64 x).msb = decide (9223372036854775808 ≤ x) := by
  rw [BitVec.msb_eq_decide, ofInt_toNat h]
  have := h.1
  congr 1
  simp only [Nat.reduceSub, Nat.reducePow, eq_iff_iff]
  omega

theorem shr63 (b : BitVec 64) : shr .u64 (b.toNat : Int) 63 = if b.msb then 1 else 0 := by
  have h := b.isLt
  rw [BitVec.msb_eq_decide]
  unfold shr
  have e : ((2 : Int) ^ min (Int.toNat 63) IntKind.u64.bits) = 9223372036854775808 := by decide
  rw [e, Int.fdiv_eq_ediv_of_nonneg _ (by decide)]
  simp only [Nat.reduceSub, Nat.reducePow, decide_eq_true_eq] at h ⊢
  split <;> omega

theorem carry_add {x y c : Int} (hx : Wd x) (hy : Wd y) (hc : 0 ≤ c ∧ c ≤ 1) :
    shr .u64 (Sx.bits .or .u64 (Sx.bits .and .u64 x y) (Sx.bits .andNot .u64 (Sx.bits .or .u64 x y) (IntKind.u64.wrap (IntKind.u64.wrap (x + y) + c)))) 63 = (x + y + c) / 18446744073709551616 := by
  have hs : Wd (IntKind.u64.wrap (IntKind.u64.wrap (x + y) + c)) := by rw [wrap_u64]; exact ⟨Int.emod_nonneg _ (by decide), Int.emod_lt_of_pos _ (by decide)⟩
  generalize hS : IntKind.u64.wrap (IntKind.u64.wrap (x + y) + c) = s at *
  rw [wrap_u64, wrap_u64] at hS
  rw [or_bv, and_bv, andNot_bv, or_bv]
  simp only [ofInt_nat]
  rw [shr63]
  simp only [BitVec.msb_or, BitVec.msb_and, BitVec.msb_not, msb_word hx, msb_word hy, msb_word hs]
  obtain ⟨hx0, hx1⟩ := hx
  obtain ⟨hy0, hy1⟩ := hy
  by_cases h1 : 9223372036854775808 ≤ x <;> by_cases h2 : 9223372036854775808 ≤ y <;> by_cases h3 : 9223372036854775808 ≤ s <;> simp [h1, h2, h3] <;> omega

/-- The two halves of a product. -/
theorem mul_halves (x0 x1 y0 y1 : Nat) (h0 : x0 < 4294967296) (h1 : x1 < 4294967296) (h2 : y0 < 4294967296) (h3 : y1 < 4294967296) :
    x1 * y1 + (x1 * y0 + x0 * y0 / 4294967296) / 4294967296 + ((x1 * y0 + x0 * y0 / 4294967296) % 4294967296 + x0 * y1) / 4294967296 = (x1 * 4294967296 + x0) * (y1 * 4294967296 + y0) / 18446744073709551616 := by
  have e : (x1 * 4294967296 + x0) * (y1 * 4294967296 + y0) = x1 * y1 * 18446744073709551616 + (x1 * y0) * 4294967296 + (x0 * y1) * 4294967296 + x0 * y0 := by
    simp only [Nat.add_mul, Nat.mul_add]
    have a1 : x1 * 4294967296 * (y1 * 4294967296) = x1 * y1 * 18446744073709551616 := by
      rw [Nat.mul_mul_mul_comm]
    have a2 : x1 * 4294967296 * y0 = x1 * y0 * 4294967296 := by rw [Nat.mul_right_comm]
    have a3 : x0 * (y1 * 4294967296) = x0 * y1 * 4294967296 := by rw [Nat.mul_assoc]
    rw [a1, a2, a3]
    omega
  have b1 : x1 * y1 ≤ 4294967295 * 4294967295 := Nat.mul_le_mul (by omega) (by omega)
  have b2 : x1 * y0 ≤ 4294967295 * 4294967295 := Nat.mul_le_mul (by omega) (by omega)
  have b3 : x0 * y1 ≤ 4294967295 * 4294967295 := Nat.mul_le_mul (by omega) (by omega)
  have b4 : x0 * y0 ≤ 4294967295 * 4294967295 := Nat.mul_le_mul (by omega) (by omega)
  rw [e]
  generalize x1 * y1 = p at *
  generalize x1 * y0 = q at *
  generalize x0 * y1 = r at *
  generalize x0 * y0 = t at *
  omega
end Go.Wide
