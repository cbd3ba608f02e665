/- Plain laws: bytes stand as their numbers do; a number is read as it was printed. -/
import Derived.Test.YtjdlefkpoggocaaW7
namespace Go.Wide
open Go Go.Sx
set_option linter.unusedSimpArgs false
set_option linter.unusedVariables false

/-! ### Order -/

def valB : List Int → Nat
  | [] => 0
  | c :: r => c.toNat * 256 ^ r.length + valB r
theorem ofBy_valB : ∀ b : List Int, ofBy b = valB b
  | [] => rfl
  | c :: r => by
    have ih := ofBy_valB r
    unfold ofBy at ih ⊢
    rw [List.reverse_cons, num_append, ih, List.length_reverse]
    simp only [num, valB, Nat.mul_zero, Nat.add_zero]
    rw [Nat.mul_comm]
    omega
theorem valB_lt : ∀ {b : List Int}, Dig 256 b → valB b < 256 ^ b.length
  | [], _ => by decide
  | c :: r, h => by
    obtain ⟨⟨h0, h1⟩, h2⟩ := Dig.cons.1 h
    have ih := valB_lt h2
    simp only [valB, List.length_cons, Nat.pow_succ]
    have : (c.toNat + 1) * 256 ^ r.length ≤ 256 * 256 ^ r.length := Nat.mul_le_mul_right _ (by omega)
    rw [Nat.add_mul, Nat.one_mul, Nat.mul_comm 256] at this
    omega
def u8s (b : List Int) : List UInt8 := b.map fun n => UInt8.ofNat n.toNat
theorem less_val : ∀ {a b : List Int}, Dig 256 a → Dig 256 b → a.length = b.length → Op.bytesLess (u8s a) (u8s b) = decide (valB a < valB b)
  | [], [], _, _, _ => rfl
  | [], _ :: _, _, _, h => by cases h
  | _ :: _, [], _, _, h => by cases h
  | c :: r, d :: q, ha, hb, hl => by
    obtain ⟨⟨c0, c1⟩, hr⟩ := Dig.cons.1 ha
    obtain ⟨⟨d0, d1⟩, hq⟩ := Dig.cons.1 hb
    have hl' : r.length = q.length := by simpa using hl
    have ih := less_val hr hq hl'
    have v1 := valB_lt hr
    have v2 := valB_lt hq
    simp only [u8s, List.map_cons, Op.bytesLess] at ih ⊢
    rw [ih]
    simp only [valB, ← hl'] at v2 ⊢
    have ec : (UInt8.ofNat c.toNat).toNat = c.toNat := by rw [UInt8.toNat_ofNat']; omega
    have ed : (UInt8.ofNat d.toNat).toNat = d.toNat := by rw [UInt8.toNat_ofNat']; omega
    have e1 : decide (UInt8.ofNat c.toNat < UInt8.ofNat d.toNat) = decide (c.toNat < d.toNat) := by
      by_cases h : c.toNat < d.toNat
      · rw [decide_eq_true h, decide_eq_true (UInt8.lt_iff_toNat_lt.2 (by rw [ec, ed]; exact h))]
      · rw [decide_eq_false h, decide_eq_false (fun h2 => h (by have := UInt8.lt_iff_toNat_lt.1 h2; rwa [ec, ed] at this))]
    have e2 : (UInt8.ofNat c.toNat == UInt8.ofNat d.toNat) = decide (c.toNat = d.toNat) := by
      by_cases h : c.toNat = d.toNat
      · rw [decide_eq_true h, h, beq_self_eq_true]
      · rw [decide_eq_false h, beq_eq_false_iff_ne]
        intro h2
        exact h (by rw [← ec, ← ed, h2])
    rw [e1, e2]
    generalize 256 ^ r.length = w at *
    rcases Nat.lt_trichotomy c.toNat d.toNat with h | h | h
    · have : (c.toNat + 1) * w ≤ d.toNat * w := Nat.mul_le_mul_right _ h
      rw [Nat.add_mul, Nat.one_mul] at this
      rw [decide_eq_true h, decide_eq_true (show c.toNat * w + valB r < d.toNat * w + valB q by omega)]
      rfl
    · rw [decide_eq_false (by omega), decide_eq_true h, h]
      by_cases h2 : valB r < valB q
      · rw [decide_eq_true h2, decide_eq_true (by omega)]; rfl
      · rw [decide_eq_false h2, decide_eq_false (by omega)]; rfl
    · have : (d.toNat + 1) * w ≤ c.toNat * w := Nat.mul_le_mul_right _ h
      rw [Nat.add_mul, Nat.one_mul] at this
      rw [decide_eq_false (by omega), decide_eq_false (by omega), decide_eq_false (show ¬ c.toNat * w + valB r < d.toNat * w + valB q by omega)]
      rfl
/-- Numbers stand as their bytes do. -/
theorem less_by32 {x y : Nat} (hx : x < T256) (hy : y < T256) : Op.bytesLess (strOfNums (by32 x)).toList (strOfNums (by32 y)).toList = decide (x < y) := by
  have e : ∀ l : List Int, (strOfNums l).toList = u8s l := fun l => by rw [ByteArray.toList_eq]; simp [strOfNums, u8s]
  rw [e, e, less_val (by32_dig x) (by32_dig y) (by rw [by32_length, by32_length]), ← ofBy_valB, ← ofBy_valB, ofBy_by32 hx, ofBy_by32 hy]

/-! ### Text -/

def hor : Nat → List Int → Nat
  | v, [] => v
  | v, c :: r => hor (v * 10 + (c - 48).toNat) r
theorem hor_ge : ∀ (v : Nat) (l : List Int), v ≤ hor v l
  | v, [] => Nat.le_refl _
  | v, c :: r => by
    have := hor_ge (v * 10 + (c - 48).toNat) r
    simp only [hor]
    omega
theorem hor_append : ∀ (v : Nat) (a b : List Int), hor v (a ++ b) = hor (hor v a) b
  | _, [], _ => rfl
  | v, c :: r, b => by simp only [List.cons_append, hor, hor_append _ r b]
theorem parseF_hor : ∀ {v : Nat} (l : List Int), v < T256 → parseF v l = bif decide (hor v l < T256) then (hor v l, 0) else (0, 30)
  | v, [], h => by
    show (v, (0 : Int)) = bif decide (v < T256) then (v, 0) else (0, 30)
    rw [decide_eq_true h]
    rfl
  | v, c :: r, h => by
    show (bif decide (v * 10 + (c - 48).toNat < T256) then parseF (v * 10 + (c - 48).toNat) r else (0, 30)) = bif decide (hor (v * 10 + (c - 48).toNat) r < T256) then (hor (v * 10 + (c - 48).toNat) r, 0) else (0, 30)
    generalize v * 10 + (c - 48).toNat = u
    by_cases h1 : u < T256
    · rw [decide_eq_true h1, cond_true, parseF_hor r h1]
    · have := hor_ge u r
      rw [decide_eq_false h1, decide_eq_false (by omega)]
      rfl

theorem lowD_dig : ∀ (f x : Nat), ∀ y ∈ lowD f x, 48 ≤ y ∧ y ≤ 57
  | 0, _, y, h => by cases h
  | f + 1, x, y, h => by
    simp only [lowD] at h
    rcases List.mem_cons.1 h with rfl | h
    · omega
    · by_cases h0 : x / 10 = 0
      · rw [decide_eq_true h0] at h; cases h
      · rw [decide_eq_false h0] at h; exact lowD_dig f _ y h
theorem lowD_length : ∀ (f x : Nat), (lowD f x).length ≤ f
  | 0, _ => Nat.le_refl _
  | f + 1, x => by
    simp only [lowD, List.length_cons]
    by_cases h0 : x / 10 = 0
    · rw [decide_eq_true h0]; simp
    · rw [decide_eq_false h0]; have := lowD_length f (x / 10); simp only [cond_false]; omega
theorem hor_lowD : ∀ (f x : Nat), x < 10 ^ (f + 1) → hor 0 (lowD (f + 1) x).reverse = x
  | 0, x, h => by
    have h0 : x / 10 = 0 := by omega
    simp only [lowD, decide_eq_true h0, cond_true, List.reverse_cons, List.reverse_nil, List.nil_append, hor]
    omega
  | f + 1, x, h => by
    rw [lowD]
    by_cases h0 : x / 10 = 0
    · simp only [decide_eq_true h0, cond_true, List.reverse_cons, List.reverse_nil, List.nil_append, hor]
      omega
    · have hx : x / 10 < 10 ^ (f + 1) := by rw [Nat.pow_succ] at h; omega
      rw [decide_eq_false h0, cond_false, List.reverse_cons, hor_append, hor_lowD f _ hx]
      simp only [hor]
      omega
/-- The first digit is no zero, where there are more. -/
theorem lowD_first : ∀ (f x : Nat), x < 10 ^ (f + 1) → 0 < x → (lowD (f + 1) x).reverse.getD 0 0 ≠ 48
  | 0, x, h, hp => by
    have h0 : x / 10 = 0 := by omega
    simp only [lowD, decide_eq_true h0, cond_true, List.reverse_cons, List.reverse_nil, List.nil_append]
    show ((48 + x % 10 : Nat) : Int) ≠ 48
    omega
  | f + 1, x, h, hp => by
    rw [lowD]
    by_cases h0 : x / 10 = 0
    · simp only [decide_eq_true h0, cond_true, List.reverse_cons, List.reverse_nil, List.nil_append]
      show ((48 + x % 10 : Nat) : Int) ≠ 48
      omega
    · have hx : x / 10 < 10 ^ (f + 1) := by rw [Nat.pow_succ] at h; omega
      have ih := lowD_first f (x / 10) hx (by omega)
      rw [decide_eq_false h0, cond_false, List.reverse_cons]
      have hne : 0 < ((lowD (f + 1) (x / 10)).reverse).length := by rw [lowD]; simp
      rw [List.getD_eq_getElem?_getD, List.getElem?_append_left hne, ← List.getD_eq_getElem?_getD]
      exact ih

/-- What is printed is read. -/
theorem parse_print {x : Nat} (h : x < T256) : parseR (lowD 80 x).reverse = (x, 0) := by
  have h80 : x < 10 ^ (79 + 1) := Nat.lt_trans h T256_lt
  have hlen : 0 < (lowD 80 x).length := by rw [lowD]; simp
  have hl80 := lowD_length 80 x
  have hh := hor_lowD 79 x h80
  have hz : ¬ (1 < (lowD 80 x).reverse.length ∧ (lowD 80 x).reverse.getD 0 0 = 48) := by
    rintro ⟨h1, h2⟩
    by_cases h0 : x = 0
    · subst h0
      revert h1
      decide
    · exact lowD_first 79 x h80 (by omega) h2
  have hd : ∀ k, k < (lowD 80 x).reverse.length → isD ((lowD 80 x).reverse.getD k 0) = true := fun k hk => by
    rw [getD_at hk, isD_iff]
    exact lowD_dig 80 x _ (List.mem_reverse.1 (List.getElem_mem hk))
  rw [parseR_ok (by rw [List.length_reverse]; omega) (by rw [List.length_reverse]; omega) hz hd, parseF_hor _ (by decide), hh, decide_eq_true h]
  rfl

theorem lowD_hor : ∀ (f : Nat) (l : List Int), l.length ≤ f + 1 → 0 < l.length → l.getD 0 0 ≠ 48 → (∀ y ∈ l, 48 ≤ y ∧ y ≤ 57) → lowD (f + 1) (hor 0 l) = l.reverse ∧ 0 < hor 0 l := by
  intro f
  induction f with
  | zero =>
    intro l hl h0 hz hd
    match l, hl, h0 with
    | [c], _, _ =>
      have hc := hd c (by simp)
      have hz : c ≠ 48 := hz
      obtain ⟨d, rfl, h1, h2⟩ : ∃ d : Nat, c = ((48 + d : Nat) : Int) ∧ d < 10 ∧ 0 < d := ⟨(c - 48).toNat, by omega, by omega, by omega⟩
      have e : hor 0 [((48 + d : Nat) : Int)] = d := by simp only [hor]; omega
      rw [e]
      refine ⟨?_, h2⟩
      rw [lowD, decide_eq_true (by omega), cond_true, Nat.mod_eq_of_lt h1]
      rfl
  | succ f ih =>
    intro l hl h0 hz hd
    rcases List.eq_nil_or_concat l with rfl | ⟨a, c, rfl⟩
    · cases h0
    · simp only [List.concat_eq_append] at *
      have hc := hd c (by simp)
      obtain ⟨d, rfl, h1⟩ : ∃ d : Nat, c = ((48 + d : Nat) : Int) ∧ d < 10 := ⟨(c - 48).toNat, by omega, by omega⟩
      have e : hor 0 (a ++ [((48 + d : Nat) : Int)]) = hor 0 a * 10 + d := by rw [hor_append]; simp only [hor]; omega
      rw [e, List.reverse_append]
      by_cases ha : a = []
      · subst ha
        have hz : ((48 + d : Nat) : Int) ≠ 48 := hz
        simp only [hor, Nat.zero_mul, Nat.zero_add]
        refine ⟨?_, by omega⟩
        rw [lowD, decide_eq_true (by omega), cond_true, Nat.mod_eq_of_lt h1]
        rfl
      · have hla : 0 < a.length := List.length_pos_iff.2 ha
        have hz' : a.getD 0 0 ≠ 48 := by
          rw [List.getD_eq_getElem?_getD, List.getElem?_append_left hla, ← List.getD_eq_getElem?_getD] at hz
          exact hz
        obtain ⟨i1, i2⟩ := ih a (by simp at hl; omega) hla hz' (fun y hy => hd y (by simp [hy]))
        refine ⟨?_, by omega⟩
        rw [lowD, show (hor 0 a * 10 + d) / 10 = hor 0 a by omega, show (hor 0 a * 10 + d) % 10 = d by omega, decide_eq_false (by omega), cond_false, i1]
        rfl

/-- What is read is printed. -/
theorem print_parse {l : List Int} (h : (parseR l).2 = 0) : (parseR l).1 < T256 ∧ (lowD 80 (parseR l).1).reverse = l := by
  have bad : ∀ x : Nat × Int, parseR l = x → x.2 ≠ 0 → False := fun x hx h1 => h1 (by rw [← hx]; exact h)
  by_cases h0 : l.length = 0
  · exact (bad _ (parseR_bad0 h0) (by decide)).elim
  by_cases h80 : 80 < l.length
  · exact (bad _ (parseR_bad80 h80) (by decide)).elim
  by_cases hz : 1 < l.length ∧ l.getD 0 0 = 48
  · exact (bad _ (parseR_badz hz.1 hz.2) (by decide)).elim
  by_cases hd : ∀ k, k < l.length → isD (l.getD k 0) = true
  · have e := parseR_ok h0 h80 hz hd
    rw [parseF_hor _ (by decide)] at e
    have hdd : ∀ y ∈ l, 48 ≤ y ∧ y ≤ 57 := by
      intro y hy
      obtain ⟨k, hk, rfl⟩ := List.getElem_of_mem hy
      have := hd k hk
      rw [getD_at hk] at this
      exact isD_iff.1 this
    by_cases hlt : hor 0 l < T256
    · rw [decide_eq_true hlt, cond_true] at e
      rw [e]
      refine ⟨hlt, ?_⟩
      by_cases h48 : l.getD 0 0 = 48
      · have h1 : l.length = 1 := by
          by_cases h2 : 1 < l.length
          · exact absurd ⟨h2, h48⟩ hz
          · omega
        match l, h1 with
        | [c], _ =>
          have h48 : c = 48 := h48
          subst h48
          decide
      · rw [(lowD_hor 79 l (by omega) (by omega) h48 hdd).1, List.reverse_reverse]
    · rw [decide_eq_false hlt, cond_false] at e
      exact (bad _ e (by decide)).elim
  · exfalso
    apply hd
    intro k hk
    cases hc : isD (l.getD k 0) with
    | true => rfl
    | false => exact (bad _ (parseR_badd hk hc) (by decide)).elim
theorem print_bytes (x : Nat) : Dig 256 (lowD 80 x).reverse := fun y hy => by
  have := lowD_dig 80 x y (List.mem_reverse.1 hy)
  have : ((256 : Nat) : Int) = 256 := rfl
  omega
end Go.Wide
