/- Plain laws of words of 64 bits: what a carry, a borrow and a product of two words come to. -/
import Derived.Test.YtjdlefkpoggocaaSx22
import Derived.Laws.Strings
namespace Go.Wide
open Go Go.Sx
set_option linter.unusedSimpArgs false
set_option linter.unusedVariables false

abbrev T64 : Int := 18446744073709551616
/-- A word. -/
def Wd (x : Int) : Prop := 0 ≤ x ∧ x < 18446744073709551616

theorem ofInt_toNat {x : Int} (h : Wd x) : (BitVec.ofInt 64 x).toNat = x.toNat := by
  obtain ⟨h0, h1⟩ := h
  rw [BitVec.toNat_ofInt]
  rw [Int.emod_eq_of_lt h0 (by simpa using h1)]

theorem wrap_u64 (x : Int) : IntKind.u64.wrap x = x % 18446744073709551616 := by
  simp [IntKind.wrap, IntKind.bits, IntKind.signed]

theorem wrap_word {x : Int} (h : Wd x) : IntKind.u64.wrap x = x := by
  rw [wrap_u64]
  exact Int.emod_eq_of_lt h.1 h.2

theorem bv_word (b : BitVec 64) : Wd (b.toNat : Int) := ⟨by omega, by have := b.isLt; omega⟩

theorem or_bv {x y : Int} : Sx.bits .or .u64 x y = (((BitVec.ofInt 64 x) ||| (BitVec.ofInt 64 y)).toNat : Int) := wrap_word (bv_word _)
end Go.Wide

namespace Go.Wide
open Go Go.Sx
set_option linter.unusedSimpArgs false
set_option linter.unusedVariables false

/-- What digits come to. -/
def num (W : Nat) : List Int → Nat
  | [] => 0
  | x :: r => x.toNat + W * num W r

/-- So many digits of a number. -/
def limbs (W : Nat) : Nat → Nat → List Int
  | 0, _ => []
  | k + 1, n => ((n % W : Nat) : Int) :: limbs W k (n / W)

/-- Digits. -/
def Dig (W : Nat) (l : List Int) : Prop := ∀ x ∈ l, 0 ≤ x ∧ x < (W : Int)

theorem Dig.nil {W : Nat} : Dig W [] := fun _ h => by cases h
theorem Dig.cons {W : Nat} {x : Int} {l : List Int} : Dig W (x :: l) ↔ (0 ≤ x ∧ x < (W : Int)) ∧ Dig W l := by simp [Dig]
theorem Dig.rep {W : Nat} (k : Nat) (h : 0 < W) : Dig W (List.replicate k 0) := fun x hx => by
  have := (List.mem_replicate.1 hx).2
  subst this; omega
theorem Dig.getD {W : Nat} {l : List Int} (h : Dig W l) (hW : 0 < W) (i : Nat) : 0 ≤ l.getD i 0 ∧ l.getD i 0 < (W : Int) := by
  rw [List.getD_eq_getElem?_getD]
  cases hi : l[i]? with
  | none => simp only [Option.getD_none]; omega
  | some x => exact h x (List.mem_of_getElem? hi)
theorem Dig.set {W : Nat} {l : List Int} (h : Dig W l) {i : Nat} {v : Int} (h0 : 0 ≤ v) (h1 : v < (W : Int)) : Dig W (l.set i v) := fun x hx => by
  rcases List.mem_or_eq_of_mem_set hx with hx | hx
  · exact h x hx
  · subst hx; exact ⟨h0, h1⟩

theorem limbs_length (W : Nat) : ∀ k n, (limbs W k n).length = k
  | 0, _ => rfl
  | k + 1, n => by simp [limbs, limbs_length W k]
theorem limbs_dig (W : Nat) (hW : 0 < W) : ∀ k n, Dig W (limbs W k n)
  | 0, _ => Dig.nil
  | k + 1, n => by
    rw [limbs, Dig.cons]
    have := Nat.mod_lt n hW
    exact ⟨by omega, limbs_dig W hW k _⟩

theorem num_lt {W : Nat} (hW : 0 < W) : ∀ {l : List Int}, Dig W l → num W l < W ^ l.length
  | [], _ => by simp [num]
  | x :: r, h => by
    obtain ⟨h1, h2⟩ := Dig.cons.1 h
    have ih := num_lt hW h2
    rw [num, List.length_cons, Nat.pow_succ, Nat.mul_comm (W ^ r.length)]
    have : W * (num W r + 1) ≤ W * W ^ r.length := Nat.mul_le_mul_left W ih
    rw [Nat.mul_add] at this
    omega

theorem num_limbs {W : Nat} (hW : 0 < W) : ∀ k n, n < W ^ k → num W (limbs W k n) = n
  | 0, n, h => by simp only [Nat.pow_zero] at h; simp only [limbs, num]; omega
  | k + 1, n, h => by
    have h' : n / W < W ^ k := Nat.div_lt_of_lt_mul (by rw [Nat.mul_comm]; rwa [Nat.pow_succ] at h)
    rw [limbs, num, num_limbs hW k _ h']
    have := Nat.mod_add_div n W
    omega

theorem limbs_num {W : Nat} (hW : 0 < W) : ∀ {l : List Int}, Dig W l → limbs W l.length (num W l) = l
  | [], _ => rfl
  | x :: r, h => by
    obtain ⟨⟨h0, h1⟩, h2⟩ := Dig.cons.1 h
    rw [List.length_cons, num, limbs]
    have hx : x.toNat < W := by omega
    rw [Nat.add_mul_mod_self_left, Nat.mod_eq_of_lt hx, Nat.add_mul_div_left _ _ hW, Nat.div_eq_of_lt hx, Nat.zero_add, limbs_num hW h2, Int.toNat_of_nonneg h0]

theorem num_inj {W : Nat} (hW : 0 < W) {a b : List Int} (ha : Dig W a) (hb : Dig W b) (hl : a.length = b.length) (h : num W a = num W b) : a = b := by
  rw [← limbs_num hW ha, ← limbs_num hW hb, hl, h]

theorem num_rep (W : Nat) : ∀ k, num W (List.replicate k 0) = 0
  | 0 => rfl
  | k + 1 => by simp [List.replicate_succ, num, num_rep W k]

/-- One digit written. -/
theorem num_set {W : Nat} : ∀ {l : List Int} {i : Nat} (v : Int), i < l.length → num W (l.set i v) + (l.getD i 0).toNat * W ^ i = num W l + v.toNat * W ^ i
  | [], _, _, h => by simp at h
  | x :: r, 0, v, _ => by simp [num]; omega
  | x :: r, i + 1, v, h => by
    have ih := num_set (W := W) (l := r) (i := i) v (by simpa using h)
    simp only [List.set_cons_succ, num, List.getD_cons_succ, Nat.pow_succ]
    generalize (r.getD i 0).toNat = o at *
    generalize num W (r.set i v) = p at *
    generalize W ^ i = q at *
    grind

/-- The lowest digits. -/
theorem num_take {W : Nat} : ∀ {l : List Int} {i : Nat}, i < l.length → num W (l.take (i + 1)) = num W (l.take i) + (l.getD i 0).toNat * W ^ i
  | [], _, h => by simp at h
  | x :: r, 0, _ => by simp [num]
  | x :: r, i + 1, h => by
    have ih := num_take (W := W) (l := r) (i := i) (by simpa using h)
    simp only [List.take_succ_cons, num, List.getD_cons_succ, Nat.pow_succ] at ih ⊢
    generalize (r.getD i 0).toNat = o at *
    generalize W ^ i = q at *
    grind

theorem num_append (W : Nat) : ∀ (a b : List Int), num W (a ++ b) = num W a + W ^ a.length * num W b
  | [], b => by simp [num]
  | x :: r, b => by
    simp only [List.cons_append, num, num_append W r b, List.length_cons, Nat.pow_succ]
    generalize W ^ r.length = q
    grind

/-! ### Four words -/

abbrev N64 : Nat := 18446744073709551616
abbrev T256 : Nat := 115792089237316195423570985008687907853269984665640564039457584007913129639936
/-- What four words come to, and the four words of a number. -/
abbrev N (a : List Int) : Nat := num N64 a
abbrev L (n : Nat) : List Int := limbs N64 4 n
def L4 (a : List Int) : Prop := a.length = 4 ∧ Dig N64 a

theorem L4.four {a : List Int} (h : L4 a) : ∃ a0 a1 a2 a3, a = [a0, a1, a2, a3] ∧ Wd a0 ∧ Wd a1 ∧ Wd a2 ∧ Wd a3 := by
  obtain ⟨h1, h2⟩ := h
  match a, h1 with
  | [a0, a1, a2, a3], _ => exact ⟨a0, a1, a2, a3, rfl, h2 a0 (by simp), h2 a1 (by simp), h2 a2 (by simp), h2 a3 (by simp)⟩
theorem L4.of {a0 a1 a2 a3 : Int} (h0 : Wd a0) (h1 : Wd a1) (h2 : Wd a2) (h3 : Wd a3) : L4 [a0, a1, a2, a3] := ⟨rfl, fun x hx => by
  simp only [List.mem_cons, List.not_mem_nil, or_false] at hx
  rcases hx with rfl | rfl | rfl | rfl <;> assumption⟩
theorem N_lt {a : List Int} (h : L4 a) : N a < T256 := by
  have := num_lt (W := N64) (by decide) h.2
  rw [h.1] at this
  exact this
theorem L_N {a : List Int} (h : L4 a) : L (N a) = a := by
  have := limbs_num (W := N64) (by decide) h.2
  rwa [h.1] at this
theorem L_eq {a : List Int} (h : L4 a) {n : Nat} (hn : N a = n) : a = L n := by rw [← hn, L_N h]
/-! ### Words as natural numbers -/

theorem wrap64 {x : Int} (h1 : -9223372036854775808 ≤ x) (h2 : x < 9223372036854775808) : IntKind.i64.wrap x = x := by
  simp [IntKind.wrap, IntKind.bits, IntKind.signed]
  omega


theorem wrap_nat (n : Nat) : IntKind.u64.wrap (n : Int) = ((n % 18446744073709551616 : Nat) : Int) := by
  rw [wrap_u64]; omega
theorem shr_nat (n k : Nat) (hk : k ≤ 64) : shr .u64 (n : Int) (k : Int) = ((n / 2 ^ k : Nat) : Int) := by
  unfold shr
  have e : min (Int.toNat (k : Int)) IntKind.u64.bits = k := by simp [IntKind.bits]; omega
  rw [e, Int.fdiv_eq_ediv_of_nonneg _ (Int.pow_nonneg (by decide))]
  simp
theorem nat_word {x : Int} (h : Wd x) : ∃ n : Nat, x = (n : Int) ∧ n < 18446744073709551616 := ⟨x.toNat, by have := h.1; omega, by have := h.1; have := h.2; omega⟩
theorem shl_nat (n k : Nat) (hk : k ≤ 64) : shl .u64 (n : Int) (k : Int) = ((n * 2 ^ k % 18446744073709551616 : Nat) : Int) := by
  unfold shl
  have e : min (Int.toNat (k : Int)) IntKind.u64.bits = k := by simp [IntKind.bits]; omega
  rw [e, ← wrap_nat]
  congr 1
/-- A low digit put behind. -/
theorem or_low {a k t : Nat} (hk : k ≤ 64) (ha : a * 2 ^ k < 18446744073709551616) (ht : t < 2 ^ k) : Sx.bits .or .u64 ((a * 2 ^ k : Nat) : Int) (t : Int) = ((a * 2 ^ k + t : Nat) : Int) := by
  have hp0 : 0 < 2 ^ k := Nat.two_pow_pos k
  have hp : 2 ^ k ≤ 2 ^ 64 := Nat.pow_le_pow_right (by decide) hk
  rw [or_bv, BitVec.toNat_or, ofInt_toNat ⟨by omega, by omega⟩, ofInt_toNat ⟨by omega, by omega⟩]
  simp only [Int.toNat_natCast]
  rw [Nat.mul_comm a, Nat.two_pow_add_eq_or_of_lt ht]
theorem limbs_getD {W : Nat} : ∀ {k j : Nat} (n : Nat), j < k → (limbs W k n).getD j 0 = ((n / W ^ j % W : Nat) : Int)
  | 0, _, _, h => by omega
  | k + 1, 0, n, _ => by simp [limbs]
  | k + 1, j + 1, n, h => by
    rw [limbs, List.getD_cons_succ, limbs_getD (n / W) (by omega), Nat.pow_succ, Nat.div_div_eq_div_mul, Nat.mul_comm W]

/-- The four digits of a number. -/
theorem digits {r : Nat} (h : r < T256) : ∃ r0 r1 r2 r3 : Nat, L r = [(r0 : Int), (r1 : Int), (r2 : Int), (r3 : Int)] ∧ r0 < N64 ∧ r1 < N64 ∧ r2 < N64 ∧ r3 < N64 ∧ r = r0 + N64 * (r1 + N64 * (r2 + N64 * r3)) := by
  refine ⟨r % N64, r / N64 % N64, r / N64 / N64 % N64, r / N64 / N64 / N64 % N64, rfl, Nat.mod_lt _ (by decide), Nat.mod_lt _ (by decide), Nat.mod_lt _ (by decide), Nat.mod_lt _ (by decide), ?_⟩
  simp only [N64, T256] at *
  omega
end Go.Wide

namespace Go.Wide
open Go Go.Sx
set_option linter.unusedSimpArgs false
set_option linter.unusedVariables false

/-- Quotient and rest behind i rounds. -/
def DI (x y i q r : Nat) : Prop := i ≤ 256 ∧ 0 < y ∧ q = x / 2 ^ (256 - i) / y * 2 ^ (256 - i) ∧ r = x / 2 ^ (256 - i) % y

theorem DI.start {x y : Nat} (hx : x < T256) (hy : 0 < y) : DI x y 0 0 0 := by
  have : x / 2 ^ (256 - 0) = 0 := Nat.div_eq_of_lt hx
  exact ⟨by omega, hy, by rw [this]; simp, by rw [this]; simp⟩

theorem DI.end {x y i q r : Nat} (h : DI x y i q r) (hi : ¬ i < 256) : q = x / y ∧ r = x % y := by
  obtain ⟨h1, h2, h3, h4⟩ := h
  have : i = 256 := by omega
  subst this
  simp at h3 h4
  exact ⟨h3, h4⟩

theorem DI.lt {x y i q r : Nat} (hx : x < T256) (h : DI x y i q r) : q < T256 := by
  obtain ⟨h1, h2, h3, h4⟩ := h
  have k1 : x / 2 ^ (256 - i) / y * 2 ^ (256 - i) ≤ x / 2 ^ (256 - i) * 2 ^ (256 - i) := Nat.mul_le_mul_right _ (Nat.div_le_self _ _)
  have k2 := Nat.div_mul_le_self x (2 ^ (256 - i))
  omega

theorem DI.step {x y i q r : Nat} (hx : x < T256) (h : DI x y i q r) (hi : i < 256) (b : Nat) (hb : b = x / 2 ^ (255 - i) % 2) :
    q % 2 ^ (255 - i + 1) = 0 ∧ 2 * r + b < 2 * y ∧ (2 * r + b < y → DI x y (i + 1) q (2 * r + b)) ∧ (y ≤ 2 * r + b → DI x y (i + 1) (q + 2 ^ (255 - i)) (2 * r + b - y) ∧ q + 2 ^ (255 - i) < T256) := by
  obtain ⟨h1, h2, h3, h4⟩ := h
  have e1 : 256 - i = 255 - i + 1 := by omega
  have e2 : 256 - (i + 1) = 255 - i := by omega
  rw [e1, Nat.pow_succ, ← Nat.div_div_eq_div_mul] at h3 h4
  unfold DI
  rw [e2, Nat.pow_succ]
  have hle : x / 2 ^ (255 - i) * 2 ^ (255 - i) ≤ x := Nat.div_mul_le_self _ _
  have hp : 0 < 2 ^ (255 - i) := Nat.two_pow_pos _
  generalize x / 2 ^ (255 - i) = t at *
  generalize 2 ^ (255 - i) = p at *
  have hr : r < y := by rw [h4]; exact Nat.mod_lt _ h2
  have hs : t = y * (2 * (t / 2 / y)) + (2 * r + b) := by
    have k1 := Nat.div_add_mod (t / 2) y
    have k2 := Nat.div_add_mod t 2
    rw [← h4] at k1
    rw [← hb] at k2
    rw [Nat.mul_left_comm]
    omega
  refine ⟨by rw [h3]; exact Nat.mul_mod_left _ _, by omega, fun hlt => ?_, fun hge => ?_⟩
  · have hd : t / y = 2 * (t / 2 / y) := by
      conv => lhs; rw [hs]
      rw [Nat.mul_add_div h2, Nat.div_eq_of_lt hlt, Nat.add_zero]
    have hm : t % y = 2 * r + b := by
      conv => lhs; rw [hs]
      rw [Nat.mul_add_mod, Nat.mod_eq_of_lt hlt]
    exact ⟨by omega, h2, by rw [hd, h3, Nat.mul_comm p 2, ← Nat.mul_assoc, Nat.mul_comm 2 (t / 2 / y)], hm.symm⟩
  · have hs' : t = y * (2 * (t / 2 / y) + 1) + (2 * r + b - y) := by rw [Nat.mul_add]; omega
    have hlt : 2 * r + b - y < y := by omega
    have hd : t / y = 2 * (t / 2 / y) + 1 := by
      conv => lhs; rw [hs']
      rw [Nat.mul_add_div h2, Nat.div_eq_of_lt hlt, Nat.add_zero]
    have hm : t % y = 2 * r + b - y := by
      conv => lhs; rw [hs']
      rw [Nat.mul_add_mod, Nat.mod_eq_of_lt hlt]
    have hq : q + p = t / y * p := by rw [hd, h3, Nat.mul_comm p 2, ← Nat.mul_assoc, Nat.mul_comm 2 (t / 2 / y), Nat.add_mul, Nat.one_mul]
    refine ⟨⟨by omega, h2, hq, hm.symm⟩, ?_⟩
    rw [hq]
    have : t / y * p ≤ t * p := Nat.mul_le_mul_right _ (Nat.div_le_self _ _)
    omega

end Go.Wide

namespace Go.Wide
open Go Go.Sx
set_option linter.unusedSimpArgs false
set_option linter.unusedVariables false

abbrev N32 : Nat := 4294967296

theorem dig_nat {W : Nat} (hW : 0 < W) {l : List Int} (h : Dig W l) (i : Nat) : ∃ o : Nat, l.getD i 0 = (o : Int) ∧ o < W := by
  have := h.getD hW i
  exact ⟨(l.getD i 0).toNat, by omega, by omega⟩

def AI (x : Nat) (Y : List Int) (i : Nat) (l : List Int) (c : Nat) : Prop := i ≤ 8 ∧ l.length = 8 ∧ Dig N32 l ∧ c ≤ 1 ∧ num N32 l + c * N32 ^ i = x + num N32 (Y.take i)
def SI (x : Nat) (Y : List Int) (i : Nat) (l : List Int) (c : Nat) : Prop := i ≤ 8 ∧ l.length = 8 ∧ Dig N32 l ∧ c ≤ 1 ∧ num N32 l + num N32 (Y.take i) = x + c * N32 ^ i

theorem AI.start {X Y : List Int} (hl : X.length = 8) (hd : Dig N32 X) : AI (num N32 X) Y 0 X 0 := ⟨by omega, hl, hd, by omega, by simp [num]⟩
theorem SI.start {X Y : List Int} (hl : X.length = 8) (hd : Dig N32 X) : SI (num N32 X) Y 0 X 0 := ⟨by omega, hl, hd, by omega, by simp [num]⟩

theorem AI.step {x : Nat} {Y : List Int} (hY : Y.length = 8) (hdY : Dig N32 Y) {i : Nat} {l : List Int} {c : Nat} (h : AI x Y i l c) (hi : i < 8) :
    ∃ o y : Nat, l.getD i 0 = (o : Int) ∧ Y.getD i 0 = (y : Int) ∧ o < N32 ∧ y < N32 ∧ c ≤ 1 ∧ AI x Y (i + 1) (l.set i (((c + o + y) % N32 : Nat) : Int)) ((c + o + y) / N32) := by
  obtain ⟨h1, h2, h3, h4, h5⟩ := h
  obtain ⟨o, ho, ho'⟩ := dig_nat (by decide) h3 i
  obtain ⟨y, hy, hy'⟩ := dig_nat (by decide) hdY i
  refine ⟨o, y, ho, hy, ho', hy', h4, by omega, by simp [h2], h3.set (Int.natCast_nonneg _) (Int.ofNat_lt.2 (Nat.mod_lt _ (by decide))), ?_, ?_⟩
  · have : (c + o + y) / N32 < 2 := by simp only [N32] at *; omega
    omega
  · have hs := num_set (W := N32) (l := l) (i := i) (((c + o + y) % N32 : Nat) : Int) (by omega)
    have ht := num_take (W := N32) (l := Y) (i := i) (by omega)
    rw [ho] at hs
    rw [hy] at ht
    rw [ht, Nat.pow_succ]
    simp only [Int.toNat_natCast] at *
    have hd : (c + o + y) % N32 + (c + o + y) / N32 * N32 = c + o + y := Nat.mod_add_div' _ _
    generalize (c + o + y) % N32 = v at *
    generalize (c + o + y) / N32 = q at *
    generalize N32 ^ i = w at *
    generalize num N32 (l.set i (v : Int)) = m at *
    generalize num N32 l = nl at *
    generalize num N32 (Y.take i) = t at *
    have : v * w + q * (w * N32) = (c + o + y) * w := by rw [← hd, Nat.add_mul, Nat.mul_assoc, Nat.mul_comm N32 w]
    rw [Nat.add_mul, Nat.add_mul] at this
    omega

theorem sub_dig {W o y c : Nat} (ho : o < W) (hy : y < W) (hc : c ≤ 1) : (o + W - y - c) / W ≤ 1 ∧ (o + W - y - c) % W + y + c = o + W * (1 - (o + W - y - c) / W) := by
  generalize hd : o + W - y - c = d
  by_cases h : d < W
  · rw [Nat.div_eq_of_lt h, Nat.mod_eq_of_lt h]
    omega
  · have h1 : d / W = 1 := Nat.div_eq_of_lt_le (by omega) (by omega)
    have h2 : d % W = d - W := by rw [Nat.mod_eq_sub_mod (by omega), Nat.mod_eq_of_lt (by omega)]
    rw [h1, h2]
    omega

theorem SI.step {x : Nat} {Y : List Int} (hY : Y.length = 8) (hdY : Dig N32 Y) {i : Nat} {l : List Int} {c : Nat} (h : SI x Y i l c) (hi : i < 8) :
    ∃ o y : Nat, l.getD i 0 = (o : Int) ∧ Y.getD i 0 = (y : Int) ∧ o < N32 ∧ y < N32 ∧ c ≤ 1 ∧ (o + N32 - y - c) / N32 ≤ 1 ∧ SI x Y (i + 1) (l.set i (((o + N32 - y - c) % N32 : Nat) : Int)) (1 - (o + N32 - y - c) / N32) := by
  obtain ⟨h1, h2, h3, h4, h5⟩ := h
  obtain ⟨o, ho, ho'⟩ := dig_nat (by decide) h3 i
  obtain ⟨y, hy, hy'⟩ := dig_nat (by decide) hdY i
  obtain ⟨d1, d2⟩ := sub_dig ho' hy' h4
  refine ⟨o, y, ho, hy, ho', hy', h4, d1, hi, by simp [h2], h3.set (Int.natCast_nonneg _) (Int.ofNat_lt.2 (Nat.mod_lt _ (by decide))), Nat.sub_le _ _, ?_⟩
  have hs := num_set (W := N32) (l := l) (i := i) (((o + N32 - y - c) % N32 : Nat) : Int) (by omega)
  have ht := num_take (W := N32) (l := Y) (i := i) (by omega)
  rw [ho, Int.toNat_natCast, Int.toNat_natCast] at hs
  rw [hy, Int.toNat_natCast] at ht
  rw [ht, Nat.pow_succ]
  generalize (o + N32 - y - c) % N32 = v at *
  generalize 1 - (o + N32 - y - c) / N32 = q at *
  generalize num N32 (l.set i (v : Int)) = m at *
  generalize num N32 l = nl at *
  generalize num N32 (Y.take i) = t at *
  generalize N32 ^ i = w at *
  have : (v + y + c) * w = (o + N32 * q) * w := by rw [d2]
  generalize N32 = W at *
  clear ho' hy' h3 hdY d1 d2 ho hy
  rw [Nat.add_mul, Nat.add_mul, Nat.add_mul, Nat.mul_assoc, Nat.mul_left_comm W q w, Nat.mul_comm W w] at this
  omega

theorem AI.end {x : Nat} {Y : List Int} (hY : Y.length = 8) {i : Nat} {l : List Int} {c : Nat} (h : AI x Y i l c) (hi : ¬ i < 8) : num N32 l + c * T256 = x + num N32 Y := by
  obtain ⟨h1, h2, h3, h4, h5⟩ := h
  have : i = 8 := by omega
  subst this
  rw [List.take_of_length_le (by omega)] at h5
  exact h5
theorem SI.end {x : Nat} {Y : List Int} (hY : Y.length = 8) {i : Nat} {l : List Int} {c : Nat} (h : SI x Y i l c) (hi : ¬ i < 8) : num N32 l + num N32 Y = x + c * T256 := by
  obtain ⟨h1, h2, h3, h4, h5⟩ := h
  have : i = 8 := by omega
  subst this
  rw [List.take_of_length_le (by omega)] at h5
  exact h5
end Go.Wide

namespace Go.Wide
open Go Go.Sx
set_option linter.unusedSimpArgs false
set_option linter.unusedVariables false

def RO (a b : List Int) (i : Nat) (l : List Int) : Prop := i ≤ 8 ∧ l.length = 16 ∧ Dig N32 l ∧ num N32 l = num N32 (a.take i) * num N32 b ∧ ∀ j, i + 8 ≤ j → l.getD j 0 = 0
def RI (a b : List Int) (i k : Nat) (l : List Int) (c : Nat) : Prop := i < 8 ∧ k ≤ 8 ∧ l.length = 16 ∧ Dig N32 l ∧ c < N32 ∧ num N32 l + c * (N32 ^ i * N32 ^ k) = num N32 (a.take i) * num N32 b + (a.getD i 0).toNat * num N32 (b.take k) * N32 ^ i ∧ ∀ j, i + 8 ≤ j → l.getD j 0 = 0

theorem RO.start {a b : List Int} : RO a b 0 (List.replicate 16 0) :=
  ⟨by omega, rfl, Dig.rep 16 (by decide), by rw [num_rep]; simp [num], fun j _ => by
    rw [List.getD_eq_getElem?_getD, List.getElem?_replicate]
    split <;> rfl⟩
theorem RI.start {a b : List Int} {i : Nat} {l : List Int} (h : RO a b i l) (hi : i < 8) : RI a b i 0 l 0 := by
  obtain ⟨h1, h2, h3, h4, h5⟩ := h
  exact ⟨hi, by omega, h2, h3, by decide, by simp [num, h4], h5⟩

theorem rstep {m nl P c o r q x y wi wk bk W : Nat} (h6 : nl + c * (wi * wk) = P + x * bk * wi) (hs : m + o * (wi * wk) = nl + r * (wi * wk)) (hd : r + q * W = c + o + x * y) :
    m + q * (wi * (wk * W)) = P + x * (bk + y * wk) * wi := by grind
theorem rend {nl c x B wi W4 A : Nat} (h : nl + c * (wi * W4) = A * B + x * B * wi) : nl + c * (wi * W4) = (A + x * wi) * B := by grind

theorem rbound {W c o x y : Nat} (hc : c < W) (ho : o < W) (hx : x < W) (hy : y < W) : c + o + x * y < W * W := by
  have h1 : x * y ≤ (W - 1) * (W - 1) := Nat.mul_le_mul (by omega) (by omega)
  obtain ⟨v, rfl⟩ : ∃ v, W = v + 1 := ⟨W - 1, by omega⟩
  simp only [Nat.add_sub_cancel] at h1
  rw [Nat.add_mul, Nat.mul_add]
  omega

theorem RI.step {a b : List Int} (ha : a.length = 8) (hda : Dig N32 a) (hb : b.length = 8) (hdb : Dig N32 b) {i k : Nat} {l : List Int} {c : Nat} (h : RI a b i k l c) (hk : k < 8) :
    ∃ x y o : Nat, a.getD i 0 = (x : Int) ∧ b.getD k 0 = (y : Int) ∧ l.getD (i + k) 0 = (o : Int) ∧ x < N32 ∧ y < N32 ∧ o < N32 ∧ c < N32 ∧
      RI a b i (k + 1) (l.set (i + k) (((c + o + x * y) % N32 : Nat) : Int)) ((c + o + x * y) / N32) := by
  obtain ⟨h1, h2, h3, h4, h5, h6, h7⟩ := h
  obtain ⟨x, hx, hx'⟩ := dig_nat (by decide) hda i
  obtain ⟨y, hy, hy'⟩ := dig_nat (by decide) hdb k
  obtain ⟨o, ho, ho'⟩ := dig_nat (by decide) h4 (i + k)
  have hbd := rbound h5 ho' hx' hy'
  have hn := num_set (W := N32) (l := l) (i := i + k) (((c + o + x * y) % N32 : Nat) : Int) (by omega)
  have hbk := num_take (W := N32) (l := b) (i := k) (by omega)
  rw [hx, Int.toNat_natCast] at h6
  rw [hy, Int.toNat_natCast] at hbk
  rw [ho, Int.toNat_natCast, Int.toNat_natCast, Nat.pow_add] at hn
  have hd : (c + o + x * y) % N32 + (c + o + x * y) / N32 * N32 = c + o + x * y := Nat.mod_add_div' _ _
  refine ⟨x, y, o, hx, hy, ho, hx', hy', ho', h5, h1, hk, by simp [h3], h4.set (Int.natCast_nonneg _) (Int.ofNat_lt.2 (Nat.mod_lt _ (by decide))), Nat.div_lt_of_lt_mul hbd, ?_, fun j hj => ?_⟩
  · rw [hbk, hx, Int.toNat_natCast, Nat.pow_succ]
    exact rstep h6 hn hd
  · rw [List.getD_eq_getElem?_getD, List.getElem?_set_ne (by omega), ← List.getD_eq_getElem?_getD]
    exact h7 j hj

theorem RI.end {a b : List Int} (ha : a.length = 8) (hb : b.length = 8) {i k : Nat} {l : List Int} {c : Nat} (h : RI a b i k l c) (hk : ¬ k < 8) : RO a b (i + 1) (l.set (i + 8) (c : Int)) := by
  obtain ⟨h1, h2, h3, h4, h5, h6, h7⟩ := h
  have : k = 8 := by omega
  subst this
  have hn := num_set (W := N32) (l := l) (i := i + 8) (c : Int) (by omega)
  have hz := h7 (i + 8) (Nat.le_refl _)
  rw [hz] at hn
  rw [List.take_of_length_le (l := b) (by omega)] at h6
  have hbk := num_take (W := N32) (l := a) (i := i) (by omega)
  refine ⟨by omega, by simp [h3], h4.set (Int.natCast_nonneg _) (Int.ofNat_lt.2 h5), ?_, fun j hj => ?_⟩
  · rw [hbk]
    rw [Nat.pow_add] at hn
    simp only [Int.toNat_zero, Nat.zero_mul, Nat.add_zero, Int.toNat_natCast] at hn
    rw [hn]
    exact rend h6
  · rw [List.getD_eq_getElem?_getD, List.getElem?_set_ne (by omega), ← List.getD_eq_getElem?_getD]
    exact h7 j (by omega)

theorem getD_at {l : List Int} {i : Nat} (h : i < l.length) : l.getD i 0 = l[i] := by rw [List.getD_eq_getElem?_getD, List.getElem?_eq_getElem h]; rfl

/-- The low half, as far as it is copied; nothing stands in the high one so far. -/
def PI (l : List Int) (i : Nat) (low : List Int) : Prop := i ≤ 8 ∧ low.length = 8 ∧ (∀ j, j < i → low.getD j 0 = l.getD j 0) ∧ ∀ j, j < i → l.getD (j + 8) 0 = 0
theorem PI.start (l : List Int) : PI l 0 (List.replicate 8 0) := ⟨by omega, rfl, fun _ h => absurd h (Nat.not_lt_zero _), fun _ h => absurd h (Nat.not_lt_zero _)⟩
theorem PI.step {l low : List Int} {i : Nat} (h : PI l i low) (hi : i < 8) (hz : l.getD (i + 8) 0 = 0) : PI l (i + 1) (low.set i (l.getD i 0)) := by
  obtain ⟨h1, h2, h3, h4⟩ := h
  refine ⟨by omega, by simp [h2], fun j hj => ?_, fun j hj => ?_⟩
  · rw [List.getD_eq_getElem?_getD, List.getElem?_set]
    by_cases he : i = j
    · subst he
      rw [if_pos rfl, if_pos (by omega)]
      rfl
    · rw [if_neg he, ← List.getD_eq_getElem?_getD]
      exact h3 j (by omega)
  · by_cases he : j = i
    · subst he; exact hz
    · exact h4 j (by omega)
theorem PI.end {l low : List Int} {i : Nat} (hl : l.length = 16) (h : PI l i low) (hi : ¬ i < 8) : low = l.take 8 ∧ l.drop 8 = List.replicate 8 0 := by
  obtain ⟨h1, h2, h3, h4⟩ := h
  have : i = 8 := by omega
  subst this
  constructor
  · refine List.ext_getElem (by simp [h2, hl]) fun j hj hj' => ?_
    have := h3 j (by omega)
    rw [getD_at (by omega), getD_at (by omega)] at this
    simpa using this
  · refine List.ext_getElem (by simp [hl]) fun j hj hj' => ?_
    have := h4 j (by simp at hj'; omega)
    simp only [List.length_drop, hl] at hj
    rw [getD_at (by omega)] at this
    simp only [List.getElem_drop, List.getElem_replicate]
    rw [← this]
    congr 1
    omega

theorem RO.all {a b : List Int} (ha : a.length = 8) {i : Nat} {l : List Int} (h : RO a b i l) (hi : ¬ i < 8) : l.length = 16 ∧ Dig N32 l ∧ num N32 (l.take 8) + T256 * num N32 (l.drop 8) = num N32 a * num N32 b := by
  obtain ⟨h1, h2, h3, h4, h5⟩ := h
  have : i = 8 := by omega
  subst this
  rw [List.take_of_length_le (by omega)] at h4
  refine ⟨h2, h3, ?_⟩
  have := num_append N32 (l.take 8) (l.drop 8)
  rw [List.take_append_drop, List.length_take, h2] at this
  rw [← h4, this]
  rfl

end Go.Wide

namespace Go.Wide
open Go Go.Sx
set_option linter.unusedSimpArgs false
set_option linter.unusedVariables false

/-- The decimal digits as bytes, the lowest first. -/
def lowD : Nat → Nat → List Int
  | 0, _ => []
  | f + 1, x => ((48 + x % 10 : Nat) : Int) :: (bif decide (x / 10 = 0) then [] else lowD f (x / 10))

/-- What is printed so far, and what is left. -/
def PD (x a : Nat) (l : List Int) : Prop := l.length < 80 ∧ a < 10 ^ (80 - l.length) ∧ lowD 80 x = l ++ lowD (80 - l.length) a

theorem T256_lt : T256 < 10 ^ 80 := by decide
theorem PD.start {x : Nat} (h : x < T256) : PD x x [] := ⟨by decide, Nat.lt_trans h T256_lt, rfl⟩
theorem PD.step {x a : Nat} {l : List Int} (h : PD x a l) (ha : ¬ a / 10 = 0) : PD x (a / 10) (l ++ [((48 + a % 10 : Nat) : Int)]) := by
  obtain ⟨h1, h2, h3⟩ := h
  have hlen : (l ++ [((48 + a % 10 : Nat) : Int)]).length = l.length + 1 := by simp
  have hne : ¬ 80 - l.length = 1 := by
    intro h0
    rw [h0] at h2
    omega
  refine ⟨by rw [hlen]; omega, ?_, ?_⟩
  · rw [hlen]
    rw [show 80 - l.length = (80 - (l.length + 1)) + 1 by omega, Nat.pow_succ] at h2
    omega
  · rw [h3, hlen, show 80 - l.length = (80 - (l.length + 1)) + 1 by omega, lowD, decide_eq_false ha, cond_false, List.append_assoc]
    rfl
theorem PD.end {x a : Nat} {l : List Int} (h : PD x a l) (ha : a / 10 = 0) : lowD 80 x = l ++ [((48 + a % 10 : Nat) : Int)] := by
  obtain ⟨h1, h2, h3⟩ := h
  rw [h3, show 80 - l.length = (80 - (l.length + 1)) + 1 by omega, lowD, decide_eq_true ha, cond_true]

/-- A row turned round as far as i from both ends. -/
def RV (l : List Int) (i : Nat) (c : List Int) : Prop := c.length = l.length ∧ ∀ k, k < l.length → c.getD k 0 = bif decide (k < i ∨ l.length - 1 - k < i) then l.getD (l.length - 1 - k) 0 else l.getD k 0
theorem RV.start (l : List Int) : RV l 0 l := ⟨rfl, fun k _ => by rw [decide_eq_false (by omega)]; rfl⟩
theorem RV.step {l c : List Int} {i : Nat} (h : RV l i c) (hi : i < l.length - 1 - i) : RV l (i + 1) ((c.set i (c.getD (l.length - 1 - i) 0)).set (l.length - 1 - i) (c.getD i 0)) := by
  obtain ⟨h1, h2⟩ := h
  refine ⟨by simp [h1], fun k hk => ?_⟩
  rw [List.getD_eq_getElem?_getD, List.getElem?_set]
  by_cases hkj : l.length - 1 - i = k
  · rw [if_pos hkj, if_pos (by simp [h1]; omega), Option.getD_some, h2 i (by omega), decide_eq_false (by omega), cond_false, decide_eq_true (by omega), cond_true]
    congr 1
    omega
  · rw [if_neg hkj, List.getElem?_set]
    by_cases hki : i = k
    · subst hki
      rw [if_pos rfl, if_pos (by omega), Option.getD_some, h2 _ (by omega), decide_eq_false (by omega), cond_false, decide_eq_true (by omega), cond_true]
    · rw [if_neg hki, ← List.getD_eq_getElem?_getD, h2 k hk]
      by_cases hd : k < i ∨ l.length - 1 - k < i
      · rw [decide_eq_true hd, decide_eq_true (by omega)]
      · rw [decide_eq_false hd, decide_eq_false (by omega)]
theorem RV.end {l c : List Int} {i : Nat} (h : RV l i c) (hi : ¬ (i : Int) < (l.length : Int) - 1 - (i : Int)) : c = l.reverse := by
  obtain ⟨h1, h2⟩ := h
  refine List.ext_getElem (by simp [h1]) fun k hk hk' => ?_
  have := h2 k (by omega)
  rw [getD_at hk] at this
  rw [this, List.getElem_reverse]
  have hl : k < l.length := by omega
  by_cases hd : k < i ∨ l.length - 1 - k < i
  · rw [decide_eq_true hd, cond_true, getD_at (by omega)]
  · rw [decide_eq_false hd, cond_false, getD_at hl]
    congr 1
    omega
end Go.Wide

namespace Go.Wide
open Go Go.Sx
set_option linter.unusedSimpArgs false
set_option linter.unusedVariables false

/-- A number as bytes, the highest first. -/
def by32 (x : Nat) : List Int := (limbs 256 32 x).reverse

theorem by32_length (x : Nat) : (by32 x).length = 32 := by simp [by32, limbs_length]
theorem by32_dig (x : Nat) : Dig 256 (by32 x) := fun y hy => limbs_dig 256 (by decide) 32 x y (by simpa [by32] using hy)

theorem by32_getD {x k : Nat} (hk : k < 32) : (by32 x).getD k 0 = ((x / 256 ^ (31 - k) % 256 : Nat) : Int) := by
  have : by32 x = (limbs 256 32 x).reverse := rfl
  rw [this, List.getD_eq_getElem?_getD, List.getElem?_reverse (by rw [limbs_length]; exact hk), limbs_length, ← List.getD_eq_getElem?_getD, show 32 - 1 - k = 31 - k by omega]
  exact limbs_getD x (by omega)

theorem p64 (n : Nat) : N64 ^ n = 256 ^ (8 * n) := by rw [show N64 = 256 ^ 8 by decide, ← Nat.pow_mul]
theorem p2 (n : Nat) : 2 ^ (8 * n) = 256 ^ n := by rw [Nat.pow_mul]

theorem byte_of (x i : Nat) : x / N64 ^ (i / 8) % N64 / 2 ^ (8 * (i % 8)) % 256 = x / 256 ^ i % 256 := by
  rw [p2, p64]
  have hW : N64 = 256 ^ (i % 8) * 256 ^ (8 - i % 8) := by rw [← Nat.pow_add, show i % 8 + (8 - i % 8) = 8 by omega]
  generalize hz : x / 256 ^ (8 * (i / 8)) = z
  have : z % N64 / 256 ^ (i % 8) = z / 256 ^ (i % 8) % 256 ^ (8 - i % 8) := by rw [hW, Nat.mod_mul_right_div_self]
  have h2 : 256 ∣ 256 ^ (8 - i % 8) := by rw [show 8 - i % 8 = (7 - i % 8) + 1 by omega, Nat.pow_succ]; exact Nat.dvd_mul_left _ _
  rw [this, Nat.mod_mod_of_dvd _ h2, ← hz, Nat.div_div_eq_div_mul, ← Nat.pow_add, show 8 * (i / 8) + i % 8 = i by omega]

/-- The lowest i bytes are written. -/
def BI (x i : Nat) (l : List Int) : Prop := i ≤ 32 ∧ l.length = 32 ∧ ∀ j, j < i → l.getD (31 - j) 0 = ((x / 256 ^ j % 256 : Nat) : Int)
theorem BI.start (x : Nat) {l : List Int} (h : l.length = 32) : BI x 0 l := ⟨by omega, h, fun _ h => absurd h (Nat.not_lt_zero _)⟩
theorem BI.step {x i : Nat} {l : List Int} (h : BI x i l) (hi : i < 32) : BI x (i + 1) (l.set (31 - i) ((x / 256 ^ i % 256 : Nat) : Int)) := by
  obtain ⟨h1, h2, h3⟩ := h
  refine ⟨by omega, by simp [h2], fun j hj => ?_⟩
  rw [List.getD_eq_getElem?_getD, List.getElem?_set]
  by_cases he : 31 - i = 31 - j
  · rw [if_pos he, if_pos (by omega)]
    have : j = i := by omega
    subst this
    rfl
  · rw [if_neg he, ← List.getD_eq_getElem?_getD]
    exact h3 j (by omega)
theorem BI.end {x i : Nat} {l : List Int} (h : BI x i l) (hi : ¬ i < 32) : l = by32 x := by
  obtain ⟨h1, h2, h3⟩ := h
  have : i = 32 := by omega
  subst this
  refine List.ext_getElem (by rw [h2, by32_length]) fun k hk hk' => ?_
  have h4 := h3 (31 - k) (by omega)
  have h5 := by32_getD (x := x) (k := k) (by omega)
  rw [show 31 - (31 - k) = k by omega, getD_at hk] at h4
  rw [getD_at hk'] at h5
  rw [h4, h5]

/-- The number of bytes, the highest first. -/
def ofBy (b : List Int) : Nat := num 256 b.reverse
theorem ofBy_by32 {x : Nat} (h : x < T256) : ofBy (by32 x) = x := by
  unfold ofBy by32
  rw [List.reverse_reverse]
  exact num_limbs (by decide) 32 x h
theorem by32_ofBy {b : List Int} (hl : b.length = 32) (hd : Dig 256 b) : by32 (ofBy b) = b := by
  unfold ofBy by32
  have := limbs_num (W := 256) (by decide) (l := b.reverse) (fun y hy => hd y (by simpa using hy))
  rw [List.length_reverse, hl] at this
  rw [this, List.reverse_reverse]
theorem ofBy_lt {b : List Int} (hl : b.length = 32) (hd : Dig 256 b) : ofBy b < T256 := by
  have := num_lt (W := 256) (by decide) (l := b.reverse) (fun y hy => hd y (by simpa using hy))
  rw [List.length_reverse, hl] at this
  exact this
theorem ofBy_byte {b : List Int} (hl : b.length = 32) (hd : Dig 256 b) {i : Nat} (hi : i < 32) : b.getD (31 - i) 0 = ((ofBy b / 256 ^ i % 256 : Nat) : Int) := by
  have h1 := by32_ofBy hl hd
  have h5 := by32_getD (x := ofBy b) (k := 31 - i) (by omega)
  rw [h1, show 31 - (31 - i) = i by omega] at h5
  exact h5

/-- The lowest i bytes of a number. -/
theorem low_step (V i : Nat) : V % 256 ^ (i + 1) = V % 256 ^ i + V / 256 ^ i % 256 * 256 ^ i := by
  rw [Nat.pow_succ, Nat.mod_mul, Nat.mul_comm (256 ^ i)]

/-- A byte put where there is none. -/
theorem or_byte {v t i : Nat} (hv : v < 256 ^ i) (ht : t < 256) (hi : i < 32) :
    (L v).set (i / 8) (Sx.bits .or .u64 ((L v).getD (i / 8) 0) (shl .u64 (t : Int) ((8 * (i % 8) : Nat) : Int))) = L (v + t * 256 ^ i) := by
  have hpi : 256 ^ i = 256 ^ (i % 8) * N64 ^ (i / 8) := by rw [p64, ← Nat.pow_add, show i % 8 + 8 * (i / 8) = i by omega]
  have hW : N64 = 256 ^ (i % 8) * 256 ^ (8 - i % 8) := by rw [← Nat.pow_add, show i % 8 + (8 - i % 8) = 8 by omega]
  have hq : v / N64 ^ (i / 8) < 256 ^ (i % 8) := by
    rw [Nat.div_lt_iff_lt_mul (Nat.pow_pos (by decide)), ← hpi]
    exact hv
  have h8 : 256 ^ (i % 8 + 1) ≤ N64 := by
    have : 256 ^ (i % 8 + 1) ≤ 256 ^ 8 := Nat.pow_le_pow_right (by decide) (by omega)
    exact this
  have hps : 256 ^ (i % 8 + 1) = 256 ^ (i % 8) * 256 := Nat.pow_succ ..
  have hlow : 256 ^ (i % 8) ≤ N64 := by
    have : 256 ^ (i % 8) ≤ 256 ^ (i % 8) * 256 := Nat.le_mul_of_pos_right _ (by decide)
    omega
  have hg := limbs_getD (W := N64) (k := 4) (j := i / 8) v (by omega)
  have hqm : v / N64 ^ (i / 8) % N64 = v / N64 ^ (i / 8) := Nat.mod_eq_of_lt (by omega)
  have hvl : v < T256 := by
    have : 256 ^ i ≤ 256 ^ 32 := Nat.pow_le_pow_right (by decide) (by omega)
    have e : (256 : Nat) ^ 32 = T256 := by decide
    omega
  have ht' : t * 256 ^ (i % 8) + v / N64 ^ (i / 8) < N64 := by
    have : (t + 1) * 256 ^ (i % 8) ≤ 256 * 256 ^ (i % 8) := Nat.mul_le_mul_right _ (by omega)
    rw [Nat.add_mul, Nat.one_mul] at this
    rw [Nat.mul_comm 256] at this
    omega
  have htl : t * 256 ^ (i % 8) < N64 := by omega
  have hshl : shl .u64 (t : Int) ((8 * (i % 8) : Nat) : Int) = ((t * 2 ^ (8 * (i % 8)) : Nat) : Int) := by
    rw [shl_nat t (8 * (i % 8)) (by omega), p2, Nat.mod_eq_of_lt htl]
  have hor : Sx.bits .or .u64 ((v / N64 ^ (i / 8) : Nat) : Int) ((t * 2 ^ (8 * (i % 8)) : Nat) : Int) = ((t * 256 ^ (i % 8) + v / N64 ^ (i / 8) : Nat) : Int) := by
    have := or_low (a := t) (k := 8 * (i % 8)) (t := v / N64 ^ (i / 8)) (by omega) (by rw [p2]; exact htl) (by rw [p2]; exact hq)
    rw [p2] at this ⊢
    rw [← this]
    unfold Sx.bits
    simp only
    rw [BitVec.or_comm]
  show (limbs N64 4 v).set _ _ = _
  rw [hg, hqm, hshl, hor]
  refine L_eq ⟨by simp [limbs_length], (limbs_dig N64 (by decide) 4 v).set (Int.natCast_nonneg _) (Int.ofNat_lt.2 ht')⟩ ?_
  have hs := num_set (W := N64) (l := limbs N64 4 v) (i := i / 8) ((t * 256 ^ (i % 8) + v / N64 ^ (i / 8) : Nat) : Int) (by simp [limbs_length]; omega)
  rw [hg, hqm, num_limbs (by decide) 4 v hvl] at hs
  simp only [Int.toNat_natCast] at hs
  show num N64 ((limbs N64 4 v).set _ _) = _
  rw [hpi]
  rw [Nat.add_mul, Nat.mul_assoc] at hs
  omega

/-- What stands in the m-th word behind i bytes, the highest first. -/
def rfe (i m : Nat) : Nat := min (max i (8 * (3 - m))) (8 * (3 - m) + 8)
def rfw (V i m : Nat) : Nat := V / 256 ^ (32 - rfe i m) % 256 ^ (rfe i m - 8 * (3 - m))
def RF (V i : Nat) : List Int := [((rfw V i 0 : Nat) : Int), ((rfw V i 1 : Nat) : Int), ((rfw V i 2 : Nat) : Int), ((rfw V i 3 : Nat) : Int)]

theorem RF.start (V : Nat) : RF V 0 = [0, 0, 0, 0] := by
  unfold RF rfw rfe
  simp [Nat.mod_one]
theorem rfw_lt (V i m : Nat) : rfw V i m < N64 := by
  have h1 : rfw V i m < 256 ^ (rfe i m - 8 * (3 - m)) := Nat.mod_lt _ (Nat.pow_pos (by decide))
  have h2 : 256 ^ (rfe i m - 8 * (3 - m)) ≤ 256 ^ 8 := Nat.pow_le_pow_right (by decide) (by unfold rfe; omega)
  exact Nat.lt_of_lt_of_le h1 h2
theorem RF.end {V : Nat} (h : V < T256) : RF V 32 = L V := by
  have e : ∀ m, m < 4 → rfw V 32 m = V / N64 ^ m % N64 := by
    intro m hm
    unfold rfw
    have : rfe 32 m = 8 * (3 - m) + 8 := by unfold rfe; omega
    rw [this, p64, show 32 - (8 * (3 - m) + 8) = 8 * m by omega, show 8 * (3 - m) + 8 - 8 * (3 - m) = 8 by omega]
  unfold RF
  rw [e 0 (by omega), e 1 (by omega), e 2 (by omega), e 3 (by omega)]
  have h4 : ∀ l : List Int, l.length = 4 → l = [l.getD 0 0, l.getD 1 0, l.getD 2 0, l.getD 3 0] := by
    intro l hl
    match l, hl with
    | [a, b, c, d], _ => rfl
  rw [h4 (L V) (limbs_length _ _ _)]
  simp only [limbs_getD (W := N64) (k := 4) V (show 0 < 4 by decide), limbs_getD (W := N64) (k := 4) V (show 1 < 4 by decide), limbs_getD (W := N64) (k := 4) V (show 2 < 4 by decide), limbs_getD (W := N64) (k := 4) V (show 3 < 4 by decide)]

theorem rfw_other {V i m : Nat} (hi : i < 32) (hm : m < 4) (hne : m ≠ 3 - i / 8) : rfw V (i + 1) m = rfw V i m := by
  have : rfe (i + 1) m = rfe i m := by unfold rfe; omega
  unfold rfw
  rw [this]
theorem rfw_this {V i : Nat} (hi : i < 32) : rfw V (i + 1) (3 - i / 8) = rfw V i (3 - i / 8) * 256 + V / 256 ^ (31 - i) % 256 ∧ rfw V i (3 - i / 8) * 256 + V / 256 ^ (31 - i) % 256 < N64 := by
  have e : rfw V (i + 1) (3 - i / 8) = rfw V i (3 - i / 8) * 256 + V / 256 ^ (31 - i) % 256 := by
    have e1 : rfe (i + 1) (3 - i / 8) = i + 1 := by unfold rfe; omega
    have e2 : rfe i (3 - i / 8) = i := by unfold rfe; omega
    unfold rfw
    rw [e1, e2, show i + 1 - 8 * (3 - (3 - i / 8)) = (i - 8 * (3 - (3 - i / 8))) + 1 by omega, show 32 - i = (31 - i) + 1 by omega, show 32 - (i + 1) = 31 - i by omega,
      Nat.pow_succ 256 (31 - i), ← Nat.div_div_eq_div_mul, Nat.pow_succ, Nat.mul_comm _ 256, Nat.mod_mul]
    omega
  exact ⟨e, by rw [← e]; exact rfw_lt _ _ _⟩
theorem RF.step {V i : Nat} (hi : i < 32) : (RF V i).getD (3 - i / 8) 0 = ((rfw V i (3 - i / 8) : Nat) : Int) ∧ (RF V i).set (3 - i / 8) ((rfw V i (3 - i / 8) * 256 + V / 256 ^ (31 - i) % 256 : Nat) : Int) = RF V (i + 1) := by
  rw [← (rfw_this (V := V) hi).1]
  have h4 : 3 - i / 8 = 0 ∨ 3 - i / 8 = 1 ∨ 3 - i / 8 = 2 ∨ 3 - i / 8 = 3 := by omega
  unfold RF
  rcases h4 with h | h | h | h <;> rw [h]
  · exact ⟨rfl, by rw [rfw_other (m := 1) hi (by omega) (by omega), rfw_other (m := 2) hi (by omega) (by omega), rfw_other (m := 3) hi (by omega) (by omega)]; rfl⟩
  · exact ⟨rfl, by rw [rfw_other (m := 0) hi (by omega) (by omega), rfw_other (m := 2) hi (by omega) (by omega), rfw_other (m := 3) hi (by omega) (by omega)]; rfl⟩
  · exact ⟨rfl, by rw [rfw_other (m := 0) hi (by omega) (by omega), rfw_other (m := 1) hi (by omega) (by omega), rfw_other (m := 3) hi (by omega) (by omega)]; rfl⟩
  · exact ⟨rfl, by rw [rfw_other (m := 0) hi (by omega) (by omega), rfw_other (m := 1) hi (by omega) (by omega), rfw_other (m := 2) hi (by omega) (by omega)]; rfl⟩
end Go.Wide

namespace Go.Wide
open Go Go.Sx
set_option linter.unusedSimpArgs false
set_option linter.unusedVariables false

/-! ### Order -/

/-! ### Text -/

def hor : Nat → List Int → Nat
  | v, [] => v
  | v, c :: r => hor (v * 10 + (c - 48).toNat) r
end Go.Wide

namespace Go.Wide
open Go.Sx

/-- A number's eight bytes. -/
def be8 (x : Int) : List Int := [x / 72057594037927936 % 256, x / 281474976710656 % 256, x / 1099511627776 % 256, x / 4294967296 % 256, x / 16777216 % 256, x / 65536 % 256, x / 256 % 256, x % 256]
theorem be8_length (x : Int) : (be8 x).length = 8 := rfl

/-- What is written behind what was there, if there is room. -/
def fits (b l : List Int) : Bool := decide (l.length ≤ 65536 - b.length)
def putL (b l : List Int) : List Int := bif fits b l then b ++ l else b
def putE (b l : List Int) : Int := bif fits b l then 0 else 6

theorem putL_big {b l l' : List Int} (h : 65536 < l.length) (h' : 65536 < l'.length) : putL b l = putL b l' := by
  unfold putL fits
  rw [decide_eq_false (show ¬ l.length ≤ 65536 - b.length by omega), decide_eq_false (show ¬ l'.length ≤ 65536 - b.length by omega)]
  rfl
theorem putE_big {b l l' : List Int} (h : 65536 < l.length) (h' : 65536 < l'.length) : putE b l = putE b l' := by
  unfold putE fits
  rw [decide_eq_false (show ¬ l.length ≤ 65536 - b.length by omega), decide_eq_false (show ¬ l'.length ≤ 65536 - b.length by omega)]

theorem flat_take {α : Type} (f : α → List Int) (l : List α) {i : Nat} (h : i < l.length) : (l.take i).flatMap f ++ f l[i] = (l.take (i + 1)).flatMap f := by
  rw [List.take_add_one, List.getElem?_eq_getElem h, List.flatMap_append]
  simp
theorem flat_all {α : Type} (f : α → List Int) (l : List α) {i : Nat} (h : l.length ≤ i) : (l.take i).flatMap f = l.flatMap f := by
  rw [List.take_of_length_le h]
theorem flat_mul {α : Type} {f : α → List Int} {k : Nat} : ∀ {l : List α}, (∀ y ∈ l, (f y).length = k) → (l.flatMap f).length = k * l.length
  | [], _ => rfl
  | y :: r, h => by
    rw [List.flatMap_cons, List.length_append, flat_mul fun z hz => h z (by simp [hz]), h y (by simp), List.length_cons, Nat.mul_add]
    omega
theorem flat_mono {α : Type} (f : α → List Int) (l : List α) (i : Nat) : ((l.take i).flatMap f).length ≤ (l.flatMap f).length := by
  have : l.flatMap f = (l.take i).flatMap f ++ (l.drop i).flatMap f := by rw [← List.flatMap_append, List.take_append_drop]
  rw [this, List.length_append]
  omega
end Go.Wide

namespace Go.Wide
open Go.Sx

theorem be8_dig (x : Int) : Dig 256 (be8 x) := by
  intro y hy
  unfold be8 at hy
  simp only [List.mem_cons, List.not_mem_nil, or_false] at hy
  have h : ∀ z : Int, 0 ≤ z % 256 ∧ z % 256 < ((256 : Nat) : Int) := fun z => by omega
  rcases hy with rfl | rfl | rfl | rfl | rfl | rfl | rfl | rfl <;> exact h _

theorem dig_app {W : Nat} {a b : List Int} (ha : Dig W a) (hb : Dig W b) : Dig W (a ++ b) := fun y hy => by
  rcases List.mem_append.1 hy with h | h
  · exact ha y h
  · exact hb y h

/-- A blob's bytes. -/
def blb (a : List Int) : List Int := be8 (a.length : Int) ++ a
theorem blb_dig {a : List Int} (ha : Dig 256 a) : Dig 256 (blb a) := dig_app (be8_dig _) ha

end Go.Wide

namespace Go.Wide
open Go.Sx

/-- Some of it: all, or more than there is room for. -/
def CutOf (full r : List Int) : Prop := r = full ∨ 65536 < r.length ∧ 65536 < full.length
theorem CutOf.put {full r : List Int} (h : CutOf full r) (b : List Int) : putL b r = putL b full ∧ putE b r = putE b full := by
  rcases h with rfl | ⟨h1, h2⟩
  · exact ⟨rfl, rfl⟩
  · exact ⟨putL_big h1 h2, putE_big h1 h2⟩
theorem CutOf.take {α : Type} (f : α → List Int) (l : List α) (i : Nat) (h : 65536 < ((l.take i).flatMap f).length) : CutOf (l.flatMap f) ((l.take i).flatMap f) :=
  .inr ⟨h, Nat.lt_of_lt_of_le h (flat_mono f l i)⟩
end Go.Wide

namespace Go.Wide
open Go Go.Sx
set_option linter.unusedSimpArgs false
set_option linter.unusedVariables false

/-- A number off its bytes. -/
def valF (b : List Int) : Int := b.foldl (fun n c => n * 256 + c) 0
theorem val_foldl (b : List Int) (a : Int) : b.foldl (fun n c => n * 256 + c) a = a * 256 ^ b.length + valF b := by
  induction b generalizing a with
  | nil => simp [valF]
  | cons c r ih =>
    unfold valF
    rw [List.foldl_cons, List.foldl_cons, ih, ih (0 * 256 + c), List.length_cons, Int.pow_succ]
    rw [Int.zero_mul, Int.zero_add, Int.add_mul]
    have : a * 256 * 256 ^ r.length = a * (256 ^ r.length * 256) := by rw [Int.mul_assoc, Int.mul_comm 256]
    rw [this, Int.add_assoc]
theorem val_bound : ∀ {b : List Int}, Dig 256 b → 0 ≤ valF b ∧ valF b < 256 ^ b.length
  | [], _ => by simp [valF]
  | c :: r, h => by
    have ih := val_bound (b := r) fun x hx => h x (by simp [hx])
    have hc := h c (by simp)
    have e : valF (c :: r) = c * 256 ^ r.length + valF r := by
      unfold valF
      rw [List.foldl_cons, val_foldl, Int.zero_mul, Int.zero_add]
      rfl
    rw [e, List.length_cons, Int.pow_succ]
    have hp : (0 : Int) < 256 ^ r.length := Int.pow_pos (by decide)
    have h1 : c * 256 ^ r.length ≤ 255 * 256 ^ r.length := Int.mul_le_mul_of_nonneg_right (by omega) (by omega)
    have h2 : 0 ≤ c * 256 ^ r.length := Int.mul_nonneg hc.1 (by omega)
    omega
theorem val_snoc (b : List Int) (c : Int) : valF (b ++ [c]) = valF b * 256 + c := by
  unfold valF
  rw [List.foldl_append]
  rfl
theorem val_be8 {n : Int} (h0 : 0 ≤ n) (h1 : n < 18446744073709551616) : valF (be8 n) = n := by
  unfold valF be8
  simp only [List.foldl_cons, List.foldl_nil]
  omega
theorem shl_or {n c : Int} (hn : 0 ≤ n) (hn2 : n < 72057594037927936) (hc : 0 ≤ c ∧ c < 256) : Sx.bits .or .u64 (shl .u64 n 8) c = n * 256 + c := by
  obtain ⟨a, rfl⟩ : ∃ a : Nat, n = a := ⟨n.toNat, by omega⟩
  obtain ⟨b, rfl⟩ : ∃ b : Nat, c = b := ⟨c.toNat, by omega⟩
  have e0 : shl .u64 (a : Int) 8 = ((a * 256 : Nat) : Int) := by
    unfold shl
    have : min (Int.toNat 8) IntKind.u64.bits = 8 := by decide
    rw [this]
    simp [IntKind.wrap, IntKind.bits, IntKind.signed]
    omega
  have e3 : Sx.bits .or .u64 ((a * 256 : Nat) : Int) (b : Int) = IntKind.u64.wrap (((BitVec.ofInt 64 ((a * 256 : Nat) : Int)) ||| (BitVec.ofInt 64 (b : Int))).toNat : Int) := rfl
  have f : ∀ k : Nat, k < 2 ^ 64 → (BitVec.ofInt 64 (k : Int)).toNat = k := fun k hk => by
    simp
    omega
  rw [e0, e3, BitVec.toNat_or, f _ (by omega), f _ (by omega)]
  have e4 : (a * 256) ||| b = a * 256 + b := by
    have := Nat.two_pow_add_eq_or_of_lt (i := 8) (b := b) (by omega) a
    rw [show 2 ^ 8 * a = a * 256 by omega] at this
    exact this.symm
  rw [e4]
  simp [IntKind.wrap, IntKind.bits, IntKind.signed]
  omega
theorem dig_take {W : Nat} {a : List Int} (h : Dig W a) (i : Nat) : Dig W (a.take i) := fun x hx => h x (List.mem_of_mem_take hx)
/-- What comes ahead is taken. -/
theorem fr_take {x r : List Int} {n : Nat} (h : x.length = n) : (x ++ r).take n = x := List.take_left' h
theorem fr_drop {x r : List Int} {n : Nat} (h : x.length = n) : (x ++ r).drop n = r := List.drop_left' h
theorem flat_rest {α : Type} (f : α → List Int) (l : List α) {i : Nat} (h : i < l.length) : (l.drop i).flatMap f = f l[i] ++ (l.drop (i + 1)).flatMap f := by
  rw [List.drop_eq_getElem_cons h, List.flatMap_cons]
end Go.Wide
