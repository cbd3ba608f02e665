/- Words of 32 bits; what one block makes of a state. -/
import Derived.Test.YtblapbjafbmndaaDoorSx24
namespace Go.Sha
open Go Go.Sx
set_option linter.unusedSimpArgs false
set_option linter.unusedVariables false

/-- A word. -/
abbrev W (x : Int) : Prop := 0 ≤ x ∧ x < 4294967296
/-- Bytes. -/
def By (l : List Int) : Prop := ∀ x ∈ l, 0 ≤ x ∧ x < 256

theorem wrap_u32 (x : Int) : IntKind.u32.wrap x = x % 4294967296 := by
  simp [IntKind.wrap, IntKind.bits, IntKind.signed]
theorem wrap_id {x : Int} (h : W x) : IntKind.u32.wrap x = x := by
  rw [wrap_u32]
  exact Int.emod_eq_of_lt h.1 h.2
theorem ofInt_toNat {x : Int} (h : W x) : (BitVec.ofInt 32 x).toNat = x.toNat := by
  rw [BitVec.toNat_ofInt]
  rw [Int.emod_eq_of_lt h.1 (by simpa using h.2)]
theorem bv_W (b : BitVec 32) : W (b.toNat : Int) := ⟨by omega, by have := b.isLt; omega⟩
theorem or_bv {x y : Int} : Sx.bits .or .u32 x y = (((BitVec.ofInt 32 x) ||| (BitVec.ofInt 32 y)).toNat : Int) := wrap_id (bv_W _)
/-- Words that share no bit, one in the other's empty places: their sum. -/
theorem or_add (a b i : Nat) (hb : b < 2 ^ i) (h : a * 2 ^ i + b < 4294967296) : Sx.bits .or .u32 ((a * 2 ^ i : Nat) : Int) (b : Int) = ((a * 2 ^ i + b : Nat) : Int) := by
  rw [or_bv, BitVec.toNat_or, ofInt_toNat ⟨by omega, by omega⟩, ofInt_toNat ⟨by omega, by omega⟩, Int.toNat_natCast, Int.toNat_natCast, ← Nat.shiftLeft_eq, ← Nat.shiftLeft_add_eq_or_of_lt hb]
theorem shl_nat (x n : Nat) (h : n ≤ 32) : shl .u32 (x : Int) (n : Int) = ((x * 2 ^ n % 4294967296 : Nat) : Int) := by
  unfold shl
  rw [Int.toNat_natCast, show min n IntKind.u32.bits = n by simp [IntKind.bits]; omega, wrap_u32, Int.natCast_emod, Int.natCast_mul, Int.natCast_pow]
  rfl

/-- A word turned to the right. -/
def rot (x n : Int) : Int := Sx.bits .or .u32 (shr .u32 x n) (shl .u32 x (32 - n))
/-- Four bytes, the highest first. -/
def be4 (b : List Int) (i : Nat) : Int := b.getD (4 * i) 0 * 16777216 + b.getD (4 * i + 1) 0 * 65536 + b.getD (4 * i + 2) 0 * 256 + b.getD (4 * i + 3) 0

theorem or4 {a b c d : Int} (ha : 0 ≤ a ∧ a < 256) (hb : 0 ≤ b ∧ b < 256) (hc : 0 ≤ c ∧ c < 256) (hd : 0 ≤ d ∧ d < 256) :
    Sx.bits .or .u32 (Sx.bits .or .u32 (Sx.bits .or .u32 (shl .u32 a 24) (shl .u32 b 16)) (shl .u32 c 8)) d = a * 16777216 + b * 65536 + c * 256 + d := by
  obtain ⟨A, rfl⟩ := Int.eq_ofNat_of_zero_le ha.1
  obtain ⟨B, rfl⟩ := Int.eq_ofNat_of_zero_le hb.1
  obtain ⟨C, rfl⟩ := Int.eq_ofNat_of_zero_le hc.1
  obtain ⟨D, rfl⟩ := Int.eq_ofNat_of_zero_le hd.1
  have hA : A < 256 := by omega
  have hB : B < 256 := by omega
  have hC : C < 256 := by omega
  have hD : D < 256 := by omega
  have s24 : shl .u32 (A : Int) 24 = ((A * 2 ^ 24 : Nat) : Int) := by rw [show (24 : Int) = ((24 : Nat) : Int) from rfl, shl_nat _ _ (by omega), Nat.mod_eq_of_lt (by omega)]
  have s16 : shl .u32 (B : Int) 16 = ((B * 2 ^ 16 : Nat) : Int) := by rw [show (16 : Int) = ((16 : Nat) : Int) from rfl, shl_nat _ _ (by omega), Nat.mod_eq_of_lt (by omega)]
  have s8 : shl .u32 (C : Int) 8 = ((C * 2 ^ 8 : Nat) : Int) := by rw [show (8 : Int) = ((8 : Nat) : Int) from rfl, shl_nat _ _ (by omega), Nat.mod_eq_of_lt (by omega)]
  rw [s24, s16, s8, or_add A (B * 2 ^ 16) 24 (by omega) (by omega), show A * 2 ^ 24 + B * 2 ^ 16 = (A * 2 ^ 8 + B) * 2 ^ 16 by omega, or_add _ (C * 2 ^ 8) 16 (by omega) (by omega),
    show (A * 2 ^ 8 + B) * 2 ^ 16 + C * 2 ^ 8 = ((A * 2 ^ 8 + B) * 2 ^ 8 + C) * 2 ^ 8 by omega, or_add _ D 8 (by omega) (by omega)]
  omega

def sg0 (x : Int) : Int := Sx.bits .xor .u32 (Sx.bits .xor .u32 (rot x 7) (rot x 18)) (shr .u32 x 3)
def sg1 (x : Int) : Int := Sx.bits .xor .u32 (Sx.bits .xor .u32 (rot x 17) (rot x 19)) (shr .u32 x 10)
def sm1 (x : Int) : Int := Sx.bits .xor .u32 (Sx.bits .xor .u32 (rot x 6) (rot x 11)) (rot x 25)
def sm0 (x : Int) : Int := Sx.bits .xor .u32 (Sx.bits .xor .u32 (rot x 2) (rot x 13)) (rot x 22)
def cho (e f g : Int) : Int := Sx.bits .xor .u32 (Sx.bits .and .u32 e f) (Sx.bits .and .u32 (Sx.bits .xor .u32 4294967295 e) g)
def maj (a b c : Int) : Int := Sx.bits .xor .u32 (Sx.bits .xor .u32 (Sx.bits .and .u32 a b) (Sx.bits .and .u32 a c)) (Sx.bits .and .u32 b c)

/-- A further word out of those that are there. -/
def sch (w : List Int) (i : Nat) : Int :=
  IntKind.u32.wrap (IntKind.u32.wrap (IntKind.u32.wrap (w.getD (i - 16) 0 + sg0 (w.getD (i - 15) 0)) + w.getD (i - 7) 0) + sg1 (w.getD (i - 2) 0))

/-- The words, as far as they are there. -/
def wsF (b : List Int) : Nat → List Int
  | 0 => List.replicate 64 0
  | i + 1 => (wsF b i).set i (if i < 16 then be4 b i else sch (wsF b i) i)

theorem By.getD {b : List Int} (h : By b) (i : Nat) : 0 ≤ b.getD i 0 ∧ b.getD i 0 < 256 := by
  by_cases hi : i < b.length
  · rw [List.getD_eq_getElem?_getD, List.getElem?_eq_getElem hi]
    exact h _ (List.getElem_mem hi)
  · rw [List.getD_eq_getElem?_getD, List.getElem?_eq_none (by omega)]
    exact ⟨by decide, by decide⟩
theorem W.getD {l : List Int} (h : ∀ x ∈ l, W x) (i : Nat) : W (l.getD i 0) := by
  by_cases hi : i < l.length
  · rw [List.getD_eq_getElem?_getD, List.getElem?_eq_getElem hi]
    exact h _ (List.getElem_mem hi)
  · rw [List.getD_eq_getElem?_getD, List.getElem?_eq_none (by omega)]
    exact ⟨by decide, by decide⟩
structure R8 where
  a : Int
  b : Int
  c : Int
  d : Int
  e : Int
  f : Int
  g : Int
  h : Int

def t1F (k w : List Int) (r : R8) (i : Nat) : Int := IntKind.u32.wrap (IntKind.u32.wrap (IntKind.u32.wrap (IntKind.u32.wrap (r.h + sm1 r.e) + cho r.e r.f r.g) + k.getD i 0) + w.getD i 0)
def t2F (r : R8) : Int := IntKind.u32.wrap (sm0 r.a + maj r.a r.b r.c)
def rnd (k w : List Int) (r : R8) (i : Nat) : R8 := ⟨IntKind.u32.wrap (t1F k w r i + t2F r), r.a, r.b, r.c, IntKind.u32.wrap (r.d + t1F k w r i), r.e, r.f, r.g⟩
def rnds (k w : List Int) (r : R8) : Nat → R8
  | 0 => r
  | i + 1 => rnd k w (rnds k w r i) i
def r8 (s : List Int) : R8 := ⟨s.getD 0 0, s.getD 1 0, s.getD 2 0, s.getD 3 0, s.getD 4 0, s.getD 5 0, s.getD 6 0, s.getD 7 0⟩
def R8.l (r : R8) : List Int := [r.a, r.b, r.c, r.d, r.e, r.f, r.g, r.h]
def R8.W (r : R8) : Prop := Sha.W r.a ∧ Sha.W r.b ∧ Sha.W r.c ∧ Sha.W r.d ∧ Sha.W r.e ∧ Sha.W r.f ∧ Sha.W r.g ∧ Sha.W r.h

/-- What a block makes of a state. -/
def blockF (k s b : List Int) : List Int :=
  let r := rnds k (wsF b 64) (r8 s) 64
  [IntKind.u32.wrap (s.getD 0 0 + r.a), IntKind.u32.wrap (s.getD 1 0 + r.b), IntKind.u32.wrap (s.getD 2 0 + r.c), IntKind.u32.wrap (s.getD 3 0 + r.d),
   IntKind.u32.wrap (s.getD 4 0 + r.e), IntKind.u32.wrap (s.getD 5 0 + r.f), IntKind.u32.wrap (s.getD 6 0 + r.g), IntKind.u32.wrap (s.getD 7 0 + r.h)]

/-- The state, as far as it is mixed. -/
def mixF (s : List Int) (r : R8) : Nat → List Int
  | 0 => s
  | i + 1 => (mixF s r i).set i (IntKind.u32.wrap ((mixF s r i).getD i 0 + r.l.getD i 0))
theorem mixF_8 {s : List Int} (h : s.length = 8) (k b : List Int) : mixF s (rnds k (wsF b 64) (r8 s) 64) 8 = blockF k s b := by
  match s, h with
  | [s0, s1, s2, s3, s4, s5, s6, s7], _ => rfl
/-- A block is its first 64 bytes. -/
theorem wsF_congr {b c : List Int} (h : ∀ i, i < 64 → b.getD i 0 = c.getD i 0) : ∀ i, wsF b i = wsF c i
  | 0 => rfl
  | i + 1 => by
    simp only [wsF, wsF_congr h i]
    congr 1
    split
    · unfold be4
      rw [h (4 * i) (by omega), h (4 * i + 1) (by omega), h (4 * i + 2) (by omega), h (4 * i + 3) (by omega)]
    · rfl
theorem blockF_congr {k s b c : List Int} (h : ∀ i, i < 64 → b.getD i 0 = c.getD i 0) : blockF k s b = blockF k s c := by
  unfold blockF
  rw [wsF_congr h]
end Go.Sha
