/- The product of two numbers. -/
import Derived.Test.YtjdlefkpoggocaaQ22
import Derived.Test.YtjdlefkpoggocaaSx22
namespace Go.Proofs.Ytjdlefkpoggocaa
open Go Go.Sx Go.Wide
set_option linter.unusedVariables false
set_option linter.unusedSimpArgs false
set_option maxRecDepth 100000
set_option maxHeartbeats 4000000

def MO (a b : List Int) (i : Nat) (l : List Int) : Prop := i ≤ 4 ∧ l.length = 8 ∧ Dig N64 l ∧ num N64 l = num N64 (a.take i) * num N64 b ∧ ∀ j, i + 4 ≤ j → l.getD j 0 = 0
def MI (a b : List Int) (i k : Nat) (l : List Int) (c : Int) : Prop := i < 4 ∧ k ≤ 4 ∧ l.length = 8 ∧ Dig N64 l ∧ Wd c ∧ num N64 l + c.toNat * (N64 ^ i * N64 ^ k) = num N64 (a.take i) * num N64 b + (a.getD i 0).toNat * num N64 (b.take k) * N64 ^ i ∧ ∀ j, i + 4 ≤ j → l.getD j 0 = 0
def mulR (x y : Nat) : Nat × Int := bif decide (x * y < T256) then (x * y, 0) else (0, 30)

theorem MO.start {a b : List Int} : MO a b 0 (List.replicate 8 0) :=
  ⟨by omega, rfl, Dig.rep 8 (by decide), by rw [num_rep]; simp [num], fun j _ => by
    rw [List.getD_eq_getElem?_getD, List.getElem?_replicate]
    split <;> rfl⟩

theorem MI.start {a b : List Int} {i : Nat} {l : List Int} (h : MO a b i l) (hi : i < 4) : MI a b i 0 l 0 := by
  obtain ⟨h1, h2, h3, h4, h5⟩ := h
  exact ⟨hi, by omega, h2, h3, ⟨by decide, by decide⟩, by simp [num, h4], h5⟩

theorem mul_words {x y o c : Nat} (hx : x < 18446744073709551616) (hy : y < 18446744073709551616) (ho : o < 18446744073709551616) (hc : c < 18446744073709551616) :
    IntKind.u64.wrap (IntKind.u64.wrap (((x * y / N64 : Nat) : Int) + (((x * y % N64 : Nat) : Int) + (o : Int) + 0) / T64) + ((((x * y % N64 : Nat) : Int) + (o : Int) + 0) % T64 + (c : Int) + 0) / T64) = (((x * y + o + c) / N64 : Nat) : Int) ∧
    ((((x * y % N64 : Nat) : Int) + (o : Int) + 0) % T64 + (c : Int) + 0) % T64 = (((x * y + o + c) % N64 : Nat) : Int) := by
  have hp : x * y ≤ 18446744073709551615 * 18446744073709551615 := Nat.mul_le_mul (by omega) (by omega)
  rw [wrap_u64, wrap_u64]
  generalize x * y = p at *
  simp only [N64, T64]
  omega

theorem mstep {m nl P c o r q x y wi wk bk W : Nat} (h6 : nl + c * (wi * wk) = P + x * bk * wi) (hs : m + o * (wi * wk) = nl + r * (wi * wk)) (hd : r + q * W = x * y + o + c) :
    m + q * (wi * (wk * W)) = P + x * (bk + y * wk) * wi := by grind
theorem mend {nl c x B wi W4 A : Nat} (h : nl + c * (wi * W4) = A * B + x * B * wi) : nl + c * (wi * W4) = (A + x * wi) * B := by grind

theorem MI.step {a b : List Int} (ha : L4 a) (hb : L4 b) {i k : Nat} {l : List Int} {c : Int} (h : MI a b i k l c) (hk : k < 4) :
    MI a b i (k + 1) (l.set (i + k) ((((((a.getD i 0).toNat * (b.getD k 0).toNat % N64 : Nat) : Int) + l.getD (i + k) 0 + 0) % T64 + c + 0) % T64))
      (IntKind.u64.wrap (IntKind.u64.wrap ((((a.getD i 0).toNat * (b.getD k 0).toNat / N64 : Nat) : Int) + ((((a.getD i 0).toNat * (b.getD k 0).toNat % N64 : Nat) : Int) + l.getD (i + k) 0 + 0) / T64) + (((((a.getD i 0).toNat * (b.getD k 0).toNat % N64 : Nat) : Int) + l.getD (i + k) 0 + 0) % T64 + c + 0) / T64)) := by
  obtain ⟨h1, h2, h3, h4, h5, h6, h7⟩ := h
  have ga := ha.2.getD (by decide) i
  have gb := hb.2.getD (by decide) k
  have go := h4.getD (by decide) (i + k)
  have hn := num_set (W := N64) (l := l) (i := i + k)
  have hbk := num_take (W := N64) (l := b) (i := k) (by rw [hb.1]; exact hk)
  obtain ⟨x, hx, hx'⟩ := nat_word ga
  obtain ⟨y, hy, hy'⟩ := nat_word gb
  obtain ⟨o, ho, ho'⟩ := nat_word go
  obtain ⟨c, rfl, hc'⟩ := nat_word h5
  rw [hx, hy, ho]
  rw [hx] at h6
  rw [hy] at hbk
  rw [ho] at hn
  simp only [Int.toNat_natCast] at *
  obtain ⟨e1, e2⟩ := mul_words hx' hy' ho' hc'
  rw [e1, e2]
  have hp : x * y ≤ 18446744073709551615 * 18446744073709551615 := Nat.mul_le_mul (by omega) (by omega)
  have hd : (x * y + o + c) % N64 + (x * y + o + c) / N64 * N64 = x * y + o + c := Nat.mod_add_div' _ _
  have hlt := Nat.mod_lt (x * y + o + c) (show 0 < N64 by decide)
  have hq : (x * y + o + c) / N64 < 18446744073709551616 := by simp only [N64]; omega
  have hs := hn (((x * y + o + c) % N64 : Nat) : Int) (by omega)
  refine ⟨h1, by omega, by simp [h3], h4.set (by omega) (by omega), ⟨Int.natCast_nonneg _, Int.ofNat_lt.2 hq⟩, ?_, fun j hj => ?_⟩
  · rw [hbk, hx, Int.toNat_natCast]
    rw [Nat.pow_add, Int.toNat_natCast] at hs
    rw [Nat.pow_succ]
    exact mstep h6 hs hd
  · rw [List.getD_eq_getElem?_getD, List.getElem?_set_ne (by omega), ← List.getD_eq_getElem?_getD]
    exact h7 j hj

theorem MI.end {a b : List Int} (ha : L4 a) (hb : L4 b) {i k : Nat} {l : List Int} {c : Int} (h : MI a b i k l c) (hk : ¬ k < 4) : MO a b (i + 1) (l.set (i + 4) c) := by
  obtain ⟨h1, h2, h3, h4, h5, h6, h7⟩ := h
  have : k = 4 := by omega
  subst this
  have hn := num_set (W := N64) (l := l) (i := i + 4) c (by omega)
  have hz := h7 (i + 4) (Nat.le_refl _)
  rw [hz] at hn
  rw [List.take_of_length_le (l := b) (by rw [hb.1]; omega)] at h6
  have hbk := num_take (W := N64) (l := a) (i := i) (by rw [ha.1]; exact h1)
  refine ⟨by omega, by simp [h3], h4.set h5.1 h5.2, ?_, fun j hj => ?_⟩
  · rw [hbk]
    rw [Nat.pow_add] at hn
    simp only [Int.toNat_zero, Nat.zero_mul, Nat.add_zero] at hn
    rw [hn]
    exact mend h6
  · rw [List.getD_eq_getElem?_getD, List.getElem?_set_ne (by omega), ← List.getD_eq_getElem?_getD]
    exact h7 j (by omega)

theorem MO.fin {a b : List Int} (ha : L4 a) (hb : L4 b) {i : Nat} {l : List Int} (h : MO a b i l) (hi : ¬ i < 4) :
    ((List.take 4 (List.drop 4 l) == List.replicate 4 0) = true → mulR (N a) (N b) = (N (l.take 4), 0) ∧ L4 (l.take 4)) ∧ ((List.take 4 (List.drop 4 l) == List.replicate 4 0) = false → mulR (N a) (N b) = (0, 30)) := by
  obtain ⟨h1, h2, h3, h4, h5⟩ := h
  have : i = 4 := by omega
  subst this
  rw [List.take_of_length_le (by rw [ha.1]; omega)] at h4
  have hs : num N64 l = N (l.take 4) + N64 ^ 4 * num N64 (l.drop 4) := by
    have := num_append N64 (l.take 4) (l.drop 4)
    rw [List.take_append_drop] at this
    rw [this, List.length_take, h2]
    rfl
  have hd4 : Dig N64 (l.take 4) := fun x hx => h3 x (List.mem_of_mem_take hx)
  have hd8 : Dig N64 (l.drop 4) := fun x hx => h3 x (List.mem_of_mem_drop hx)
  have l4 : L4 (l.take 4) := ⟨by simp [h2], hd4⟩
  have hlt := N_lt l4
  rw [List.take_of_length_le (l := l.drop 4) (by simp [h2])]
  have hp : N64 ^ 4 = T256 := by decide
  rw [hp] at hs
  rw [hs] at h4
  unfold mulR
  constructor
  · intro h0
    rw [eq_of_beq h0, num_rep] at h4
    refine ⟨?_, l4⟩
    rw [← h4, decide_eq_true (by rw [Nat.mul_zero, Nat.add_zero]; exact hlt)]
    simp
  · intro h0
    have hne : num N64 (l.drop 4) ≠ 0 := by
      intro h6
      have := num_inj (W := N64) (by decide) hd8 (Dig.rep 4 (by decide)) (by simp [h2]) (by rw [h6, num_rep])
      rw [this, beq_self_eq_true] at h0
      cases h0
    have : ¬ N a * N b < T256 := by
      rw [← h4]
      have : T256 * 1 ≤ T256 * num N64 (l.drop 4) := Nat.mul_le_mul_left _ (by omega)
      omega
    rw [decide_eq_false this]
    rfl

end Go.Proofs.Ytjdlefkpoggocaa
