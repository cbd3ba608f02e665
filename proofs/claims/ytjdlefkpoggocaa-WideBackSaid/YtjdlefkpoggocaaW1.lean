/- Plain laws of numbers told by digits, the lowest first. -/
import Derived.Test.YtjdlefkpoggocaaW0
namespace Go.Wide
open Go Go.Sx
set_option linter.unusedSimpArgs false
set_option linter.unusedVariables false

/-- What digits come to. -/
def num (W : Nat) : List Int → Nat
  | [] => 0
  | x :: r => x.toNat + W * num W r

/-- So many digits of a number. -/
def limbs (W : Nat) : Nat → Nat → List Int
  | 0, _ => []
  | k + 1, n => ((n % W : Nat) : Int) :: limbs W k (n / W)

/-- Digits. -/
def Dig (W : Nat) (l : List Int) : Prop := ∀ x ∈ l, 0 ≤ x ∧ x < (W : Int)

theorem Dig.nil {W : Nat} : Dig W [] := fun _ h => by cases h
theorem Dig.cons {W : Nat} {x : Int} {l : List Int} : Dig W (x :: l) ↔ (0 ≤ x ∧ x < (W : Int)) ∧ Dig W l := by simp [Dig]
theorem Dig.rep {W : Nat} (k : Nat) (h : 0 < W) : Dig W (List.replicate k 0) := fun x hx => by
  have := (List.mem_replicate.1 hx).2
  subst this; omega
theorem Dig.getD {W : Nat} {l : List Int} (h : Dig W l) (hW : 0 < W) (i : Nat) : 0 ≤ l.getD i 0 ∧ l.getD i 0 < (W : Int) := by
  rw [List.getD_eq_getElem?_getD]
  cases hi : l[i]? with
  | none => simp only [Option.getD_none]; omega
  | some x => exact h x (List.mem_of_getElem? hi)
theorem Dig.set {W : Nat} {l : List Int} (h : Dig W l) {i : Nat} {v : Int} (h0 : 0 ≤ v) (h1 : v < (W : Int)) : Dig W (l.set i v) := fun x hx => by
  rcases List.mem_or_eq_of_mem_set hx with hx | hx
  · exact h x hx
  · subst hx; exact ⟨h0, h1⟩

theorem limbs_length (W : Nat) : ∀ k n, (limbs W k n).length = k
  | 0, _ => rfl
  | k + 1, n => by simp [limbs, limbs_length W k]
theorem limbs_dig (W : Nat) (hW : 0 < W) : ∀ k n, Dig W (limbs W k n)
  | 0, _ => Dig.nil
  | k + 1, n => by
    rw [limbs, Dig.cons]
    have := Nat.mod_lt n hW
    exact ⟨by omega, limbs_dig W hW k _⟩

theorem num_lt {W : Nat} (hW : 0 < W) : ∀ {l : List Int}, Dig W l → num W l < W ^ l.length
  | [], _ => by simp [num]
  | x :: r, h => by
    obtain ⟨h1, h2⟩ := Dig.cons.1 h
    have ih := num_lt hW h2
    rw [num, List.length_cons, Nat.pow_succ, Nat.mul_comm (W ^ r.length)]
    have : W * (num W r + 1) ≤ W * W ^ r.length := Nat.mul_le_mul_left W ih
    rw [Nat.mul_add] at this
    omega

theorem num_limbs {W : Nat} (hW : 0 < W) : ∀ k n, n < W ^ k → num W (limbs W k n) = n
  | 0, n, h => by simp only [Nat.pow_zero] at h; simp only [limbs, num]; omega
  | k + 1, n, h => by
    have h' : n / W < W ^ k := Nat.div_lt_of_lt_mul (by rw [Nat.mul_comm]; rwa [Nat.pow_succ] at h)
    rw [limbs, num, num_limbs hW k _ h']
    have := Nat.mod_add_div n W
    omega

theorem limbs_num {W : Nat} (hW : 0 < W) : ∀ {l : List Int}, Dig W l → limbs W l.length (num W l) = l
  | [], _ => rfl
  | x :: r, h => by
    obtain ⟨⟨h0, h1⟩, h2⟩ := Dig.cons.1 h
    rw [List.length_cons, num, limbs]
    have hx : x.toNat < W := by omega
    rw [Nat.add_mul_mod_self_left, Nat.mod_eq_of_lt hx, Nat.add_mul_div_left _ _ hW, Nat.div_eq_of_lt hx, Nat.zero_add, limbs_num hW h2, Int.toNat_of_nonneg h0]

theorem num_inj {W : Nat} (hW : 0 < W) {a b : List Int} (ha : Dig W a) (hb : Dig W b) (hl : a.length = b.length) (h : num W a = num W b) : a = b := by
  rw [← limbs_num hW ha, ← limbs_num hW hb, hl, h]

theorem num_rep (W : Nat) : ∀ k, num W (List.replicate k 0) = 0
  | 0 => rfl
  | k + 1 => by simp [List.replicate_succ, num, num_rep W k]

/-- One digit written. -/
theorem num_set {W : Nat} : ∀ {l : List Int} {i : Nat} (v : Int), i < l.length → num W (l.set i v) + (l.getD i 0).toNat * W ^ i = num W l + v.toNat * W ^ i
  | [], _, _, h => by simp at h
  | x :: r, 0, v, _ => by simp [num]; omega
  | x :: r, i + 1, v, h => by
    have ih := num_set (W := W) (l := r) (i := i) v (by simpa using h)
    simp only [List.set_cons_succ, num, List.getD_cons_succ, Nat.pow_succ]
    generalize (r.getD i 0).toNat = o at *
    generalize num W (r.set i v) = p at *
    generalize W ^ i = q at *
    grind

/-- The lowest digits. -/
theorem num_take {W : Nat} : ∀ {l : List Int} {i : Nat}, i < l.length → num W (l.take (i + 1)) = num W (l.take i) + (l.getD i 0).toNat * W ^ i
  | [], _, h => by simp at h
  | x :: r, 0, _ => by simp [num]
  | x :: r, i + 1, h => by
    have ih := num_take (W := W) (l := r) (i := i) (by simpa using h)
    simp only [List.take_succ_cons, num, List.getD_cons_succ, Nat.pow_succ] at ih ⊢
    generalize (r.getD i 0).toNat = o at *
    generalize W ^ i = q at *
    grind

theorem num_append (W : Nat) : ∀ (a b : List Int), num W (a ++ b) = num W a + W ^ a.length * num W b
  | [], b => by simp [num]
  | x :: r, b => by
    simp only [List.cons_append, num, num_append W r b, List.length_cons, Nat.pow_succ]
    generalize W ^ r.length = q
    grind

/-! ### Four words -/

abbrev N64 : Nat := 18446744073709551616
abbrev T256 : Nat := 115792089237316195423570985008687907853269984665640564039457584007913129639936
/-- What four words come to, and the four words of a number. -/
abbrev N (a : List Int) : Nat := num N64 a
abbrev L (n : Nat) : List Int := limbs N64 4 n
def L4 (a : List Int) : Prop := a.length = 4 ∧ Dig N64 a

theorem L4.four {a : List Int} (h : L4 a) : ∃ a0 a1 a2 a3, a = [a0, a1, a2, a3] ∧ Wd a0 ∧ Wd a1 ∧ Wd a2 ∧ Wd a3 := by
  obtain ⟨h1, h2⟩ := h
  match a, h1 with
  | [a0, a1, a2, a3], _ => exact ⟨a0, a1, a2, a3, rfl, h2 a0 (by simp), h2 a1 (by simp), h2 a2 (by simp), h2 a3 (by simp)⟩
theorem L4.of {a0 a1 a2 a3 : Int} (h0 : Wd a0) (h1 : Wd a1) (h2 : Wd a2) (h3 : Wd a3) : L4 [a0, a1, a2, a3] := ⟨rfl, fun x hx => by
  simp only [List.mem_cons, List.not_mem_nil, or_false] at hx
  rcases hx with rfl | rfl | rfl | rfl <;> assumption⟩
theorem L4_L (n : Nat) : L4 (L n) := ⟨limbs_length _ _ _, limbs_dig _ (by decide) _ _⟩
theorem N_lt {a : List Int} (h : L4 a) : N a < T256 := by
  have := num_lt (W := N64) (by decide) h.2
  rw [h.1] at this
  exact this
theorem L_N {a : List Int} (h : L4 a) : L (N a) = a := by
  have := limbs_num (W := N64) (by decide) h.2
  rwa [h.1] at this
theorem N_L {n : Nat} (h : n < T256) : N (L n) = n := num_limbs (by decide) 4 n h
theorem L_eq {a : List Int} (h : L4 a) {n : Nat} (hn : N a = n) : a = L n := by rw [← hn, L_N h]
theorem L_inj {m n : Nat} (hm : m < T256) (hn : n < T256) (h : L m = L n) : m = n := by rw [← N_L hm, ← N_L hn, h]
theorem L_beq {m n : Nat} (hm : m < T256) (hn : n < T256) : (L m == L n) = decide (m = n) := by
  by_cases h : m = n
  · simp [h]
  · simp only [h, decide_false, beq_eq_false_iff_ne]; exact fun h' => h (L_inj hm hn h')
theorem N4 (a0 a1 a2 a3 : Int) : N [a0, a1, a2, a3] = a0.toNat + N64 * (a1.toNat + N64 * (a2.toNat + N64 * (a3.toNat + N64 * 0))) := rfl
/-! ### Words as natural numbers -/

theorem wrap64 {x : Int} (h1 : -9223372036854775808 ≤ x) (h2 : x < 9223372036854775808) : IntKind.i64.wrap x = x := by
  simp [IntKind.wrap, IntKind.bits, IntKind.signed]
  omega


theorem wrap_nat (n : Nat) : IntKind.u64.wrap (n : Int) = ((n % 18446744073709551616 : Nat) : Int) := by
  rw [wrap_u64]; omega
theorem shr_nat (n k : Nat) (hk : k ≤ 64) : shr .u64 (n : Int) (k : Int) = ((n / 2 ^ k : Nat) : Int) := by
  unfold shr
  have e : min (Int.toNat (k : Int)) IntKind.u64.bits = k := by simp [IntKind.bits]; omega
  rw [e, Int.fdiv_eq_ediv_of_nonneg _ (Int.pow_nonneg (by decide))]
  simp
theorem and_mask {n k : Nat} (h : n < 18446744073709551616) (hk : k ≤ 64) : Sx.bits .and .u64 (n : Int) ((2 ^ k - 1 : Nat) : Int) = ((n % 2 ^ k : Nat) : Int) := by
  have hp : 2 ^ k ≤ 2 ^ 64 := Nat.pow_le_pow_right (by decide) hk
  have hp0 : 0 < 2 ^ k := Nat.two_pow_pos k
  rw [and_bv, BitVec.toNat_and, ofInt_toNat ⟨by omega, by omega⟩, ofInt_toNat ⟨by omega, by omega⟩]
  simp only [Int.toNat_natCast]
  rw [Nat.and_two_pow_sub_one_eq_mod]
theorem nat_word {x : Int} (h : Wd x) : ∃ n : Nat, x = (n : Int) ∧ n < 18446744073709551616 := ⟨x.toNat, by have := h.1; omega, by have := h.1; have := h.2; omega⟩
theorem shl_nat (n k : Nat) (hk : k ≤ 64) : shl .u64 (n : Int) (k : Int) = ((n * 2 ^ k % 18446744073709551616 : Nat) : Int) := by
  unfold shl
  have e : min (Int.toNat (k : Int)) IntKind.u64.bits = k := by simp [IntKind.bits]; omega
  rw [e, ← wrap_nat]
  congr 1
theorem shr_nat' (n k : Nat) (hk : k < 64) : shr .u64 (n : Int) (k : Int) = ((n / 2 ^ k : Nat) : Int) := shr_nat n k (by omega)
/-- A low digit put behind. -/
theorem or_low {a k t : Nat} (hk : k ≤ 64) (ha : a * 2 ^ k < 18446744073709551616) (ht : t < 2 ^ k) : Sx.bits .or .u64 ((a * 2 ^ k : Nat) : Int) (t : Int) = ((a * 2 ^ k + t : Nat) : Int) := by
  have hp0 : 0 < 2 ^ k := Nat.two_pow_pos k
  have hp : 2 ^ k ≤ 2 ^ 64 := Nat.pow_le_pow_right (by decide) hk
  rw [or_bv, BitVec.toNat_or, ofInt_toNat ⟨by omega, by omega⟩, ofInt_toNat ⟨by omega, by omega⟩]
  simp only [Int.toNat_natCast]
  rw [Nat.mul_comm a, Nat.two_pow_add_eq_or_of_lt ht]
theorem shr63n (n : Nat) : shr .u64 (n : Int) 63 = ((n / 9223372036854775808 : Nat) : Int) := shr_nat n 63 (by decide)
theorem sh_or (n : Nat) {t : Nat} (ht : t < 2) : Sx.bits .or .u64 (shl .u64 (n : Int) 1) (t : Int) = ((n * 2 % 18446744073709551616 + t : Nat) : Int) := by
  have h1 : shl .u64 (n : Int) 1 = ((n % 9223372036854775808 * 2 ^ 1 : Nat) : Int) := by
    rw [show (1 : Int) = ((1 : Nat) : Int) from rfl, shl_nat n 1 (by decide)]
    congr 1
    omega
  rw [h1, or_low (by decide) (by omega) (by omega)]
  congr 1
  omega
theorem sh_or63 (n : Nat) {m : Nat} (hm : m < 18446744073709551616) : Sx.bits .or .u64 (shl .u64 (n : Int) 1) (shr .u64 (m : Int) 63) = ((n * 2 % 18446744073709551616 + m / 9223372036854775808 : Nat) : Int) := by
  rw [shr63n, sh_or n (by omega)]
theorem sh_bit (n : Nat) {x k : Nat} (hx : x < 18446744073709551616) (hk : k ≤ 64) : Sx.bits .or .u64 (shl .u64 (n : Int) 1) (Sx.bits .and .u64 (shr .u64 (x : Int) (k : Int)) 1) = ((n * 2 % 18446744073709551616 + x / 2 ^ k % 2 : Nat) : Int) := by
  have h1 : x / 2 ^ k < 18446744073709551616 := Nat.lt_of_le_of_lt (Nat.div_le_self _ _) hx
  have h2 : Sx.bits .and .u64 ((x / 2 ^ k : Nat) : Int) 1 = ((x / 2 ^ k % 2 : Nat) : Int) := and_mask (k := 1) h1 (by decide)
  rw [shr_nat x k hk, h2, sh_or n (Nat.mod_lt _ (by decide))]

theorem limbs_getD {W : Nat} : ∀ {k j : Nat} (n : Nat), j < k → (limbs W k n).getD j 0 = ((n / W ^ j % W : Nat) : Int)
  | 0, _, _, h => by omega
  | k + 1, 0, n, _ => by simp [limbs]
  | k + 1, j + 1, n, h => by
    rw [limbs, List.getD_cons_succ, limbs_getD (n / W) (by omega), Nat.pow_succ, Nat.div_div_eq_div_mul, Nat.mul_comm W]

/-- The four digits of a number. -/
theorem digits {r : Nat} (h : r < T256) : ∃ r0 r1 r2 r3 : Nat, L r = [(r0 : Int), (r1 : Int), (r2 : Int), (r3 : Int)] ∧ r0 < N64 ∧ r1 < N64 ∧ r2 < N64 ∧ r3 < N64 ∧ r = r0 + N64 * (r1 + N64 * (r2 + N64 * r3)) := by
  refine ⟨r % N64, r / N64 % N64, r / N64 / N64 % N64, r / N64 / N64 / N64 % N64, rfl, Nat.mod_lt _ (by decide), Nat.mod_lt _ (by decide), Nat.mod_lt _ (by decide), Nat.mod_lt _ (by decide), ?_⟩
  simp only [N64, T256] at *
  omega
end Go.Wide
