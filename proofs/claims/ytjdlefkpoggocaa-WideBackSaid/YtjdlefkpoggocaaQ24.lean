/- The product of two numbers. -/
import Derived.Test.YtjdlefkpoggocaaQ23
import Derived.Test.YtjdlefkpoggocaaSx22
namespace Go.Proofs.Ytjdlefkpoggocaa
open Go Go.Sx Go.Wide
set_option linter.unusedVariables false
set_option linter.unusedSimpArgs false
set_option maxRecDepth 100000
set_option maxHeartbeats 4000000

def MO (a b : List Int) (i : Nat) (l : List Int) : Prop := i ≤ 4 ∧ l.length = 8 ∧ Dig N64 l ∧ num N64 l = num N64 (a.take i) * num N64 b ∧ ∀ j, i + 4 ≤ j → l.getD j 0 = 0
def MI (a b : List Int) (i k : Nat) (l : List Int) (c : Int) : Prop := i < 4 ∧ k ≤ 4 ∧ l.length = 8 ∧ Dig N64 l ∧ Wd c ∧ num N64 l + c.toNat * (N64 ^ i * N64 ^ k) = num N64 (a.take i) * num N64 b + (a.getD i 0).toNat * num N64 (b.take k) * N64 ^ i ∧ ∀ j, i + 4 ≤ j → l.getD j 0 = 0
def MOT (a b : List Int) : Type := { p : Nat × List Int // MO a b p.1 p.2 }
def MIT (a b : List Int) : Type := { p : Nat × Nat × List Int × Int // MI a b p.1 p.2.1 p.2.2.1 p.2.2.2 }
def mulR (x y : Nat) : Nat × Int := bif decide (x * y < T256) then (x * y, 0) else (0, 30)

theorem MO.start {a b : List Int} : MO a b 0 (List.replicate 8 0) :=
  ⟨by omega, rfl, Dig.rep 8 (by decide), by rw [num_rep]; simp [num], fun j _ => by
    rw [List.getD_eq_getElem?_getD, List.getElem?_replicate]
    split <;> rfl⟩

theorem MI.start {a b : List Int} {i : Nat} {l : List Int} (h : MO a b i l) (hi : i < 4) : MI a b i 0 l 0 := by
  obtain ⟨h1, h2, h3, h4, h5⟩ := h
  exact ⟨hi, by omega, h2, h3, ⟨by decide, by decide⟩, by simp [num, h4], h5⟩

theorem mul_words {x y o c : Nat} (hx : x < 18446744073709551616) (hy : y < 18446744073709551616) (ho : o < 18446744073709551616) (hc : c < 18446744073709551616) :
    IntKind.u64.wrap (IntKind.u64.wrap (((x * y / N64 : Nat) : Int) + (((x * y % N64 : Nat) : Int) + (o : Int) + 0) / T64) + ((((x * y % N64 : Nat) : Int) + (o : Int) + 0) % T64 + (c : Int) + 0) / T64) = (((x * y + o + c) / N64 : Nat) : Int) ∧
    ((((x * y % N64 : Nat) : Int) + (o : Int) + 0) % T64 + (c : Int) + 0) % T64 = (((x * y + o + c) % N64 : Nat) : Int) := by
  have hp : x * y ≤ 18446744073709551615 * 18446744073709551615 := Nat.mul_le_mul (by omega) (by omega)
  rw [wrap_u64, wrap_u64]
  generalize x * y = p at *
  simp only [N64, T64]
  omega

theorem mstep {m nl P c o r q x y wi wk bk W : Nat} (h6 : nl + c * (wi * wk) = P + x * bk * wi) (hs : m + o * (wi * wk) = nl + r * (wi * wk)) (hd : r + q * W = x * y + o + c) :
    m + q * (wi * (wk * W)) = P + x * (bk + y * wk) * wi := by grind
theorem mend {nl c x B wi W4 A : Nat} (h : nl + c * (wi * W4) = A * B + x * B * wi) : nl + c * (wi * W4) = (A + x * wi) * B := by grind

theorem MI.step {a b : List Int} (ha : L4 a) (hb : L4 b) {i k : Nat} {l : List Int} {c : Int} (h : MI a b i k l c) (hk : k < 4) :
    MI a b i (k + 1) (l.set (i + k) ((((((a.getD i 0).toNat * (b.getD k 0).toNat % N64 : Nat) : Int) + l.getD (i + k) 0 + 0) % T64 + c + 0) % T64))
      (IntKind.u64.wrap (IntKind.u64.wrap ((((a.getD i 0).toNat * (b.getD k 0).toNat / N64 : Nat) : Int) + ((((a.getD i 0).toNat * (b.getD k 0).toNat % N64 : Nat) : Int) + l.getD (i + k) 0 + 0) / T64) + (((((a.getD i 0).toNat * (b.getD k 0).toNat % N64 : Nat) : Int) + l.getD (i + k) 0 + 0) % T64 + c + 0) / T64)) := by
  obtain ⟨h1, h2, h3, h4, h5, h6, h7⟩ := h
  have ga := ha.2.getD (by decide) i
  have gb := hb.2.getD (by decide) k
  have go := h4.getD (by decide) (i + k)
  have hn := num_set (W := N64) (l := l) (i := i + k)
  have hbk := num_take (W := N64) (l := b) (i := k) (by rw [hb.1]; exact hk)
  obtain ⟨x, hx, hx'⟩ := nat_word ga
  obtain ⟨y, hy, hy'⟩ := nat_word gb
  obtain ⟨o, ho, ho'⟩ := nat_word go
  obtain ⟨c, rfl, hc'⟩ := nat_word h5
  rw [hx, hy, ho]
  rw [hx] at h6
  rw [hy] at hbk
  rw [ho] at hn
  simp only [Int.toNat_natCast] at *
  obtain ⟨e1, e2⟩ := mul_words hx' hy' ho' hc'
  rw [e1, e2]
  have hp : x * y ≤ 18446744073709551615 * 18446744073709551615 := Nat.mul_le_mul (by omega) (by omega)
  have hd : (x * y + o + c) % N64 + (x * y + o + c) / N64 * N64 = x * y + o + c := Nat.mod_add_div' _ _
  have hlt := Nat.mod_lt (x * y + o + c) (show 0 < N64 by decide)
  have hq : (x * y + o + c) / N64 < 18446744073709551616 := by simp only [N64]; omega
  have hs := hn (((x * y + o + c) % N64 : Nat) : Int) (by omega)
  refine ⟨h1, by omega, by simp [h3], h4.set (by omega) (by omega), ⟨Int.natCast_nonneg _, Int.ofNat_lt.2 hq⟩, ?_, fun j hj => ?_⟩
  · rw [hbk, hx, Int.toNat_natCast]
    rw [Nat.pow_add, Int.toNat_natCast] at hs
    rw [Nat.pow_succ]
    exact mstep h6 hs hd
  · rw [List.getD_eq_getElem?_getD, List.getElem?_set_ne (by omega), ← List.getD_eq_getElem?_getD]
    exact h7 j hj

theorem MI.end {a b : List Int} (ha : L4 a) (hb : L4 b) {i k : Nat} {l : List Int} {c : Int} (h : MI a b i k l c) (hk : ¬ k < 4) : MO a b (i + 1) (l.set (i + 4) c) := by
  obtain ⟨h1, h2, h3, h4, h5, h6, h7⟩ := h
  have : k = 4 := by omega
  subst this
  have hn := num_set (W := N64) (l := l) (i := i + 4) c (by omega)
  have hz := h7 (i + 4) (Nat.le_refl _)
  rw [hz] at hn
  rw [List.take_of_length_le (l := b) (by rw [hb.1]; omega)] at h6
  have hbk := num_take (W := N64) (l := a) (i := i) (by rw [ha.1]; exact h1)
  refine ⟨by omega, by simp [h3], h4.set h5.1 h5.2, ?_, fun j hj => ?_⟩
  · rw [hbk]
    rw [Nat.pow_add] at hn
    simp only [Int.toNat_zero, Nat.zero_mul, Nat.add_zero] at hn
    rw [hn]
    exact mend h6
  · rw [List.getD_eq_getElem?_getD, List.getElem?_set_ne (by omega), ← List.getD_eq_getElem?_getD]
    exact h7 j (by omega)

theorem MO.fin {a b : List Int} (ha : L4 a) (hb : L4 b) {i : Nat} {l : List Int} (h : MO a b i l) (hi : ¬ i < 4) :
    ((List.take 4 (List.drop 4 l) == List.replicate 4 0) = true → mulR (N a) (N b) = (N (l.take 4), 0) ∧ L4 (l.take 4)) ∧ ((List.take 4 (List.drop 4 l) == List.replicate 4 0) = false → mulR (N a) (N b) = (0, 30)) := by
  obtain ⟨h1, h2, h3, h4, h5⟩ := h
  have : i = 4 := by omega
  subst this
  rw [List.take_of_length_le (by rw [ha.1]; omega)] at h4
  have hs : num N64 l = N (l.take 4) + N64 ^ 4 * num N64 (l.drop 4) := by
    have := num_append N64 (l.take 4) (l.drop 4)
    rw [List.take_append_drop] at this
    rw [this, List.length_take, h2]
    rfl
  have hd4 : Dig N64 (l.take 4) := fun x hx => h3 x (List.mem_of_mem_take hx)
  have hd8 : Dig N64 (l.drop 4) := fun x hx => h3 x (List.mem_of_mem_drop hx)
  have l4 : L4 (l.take 4) := ⟨by simp [h2], hd4⟩
  have hlt := N_lt l4
  rw [List.take_of_length_le (l := l.drop 4) (by simp [h2])]
  have hp : N64 ^ 4 = T256 := by decide
  rw [hp] at hs
  rw [hs] at h4
  unfold mulR
  constructor
  · intro h0
    rw [eq_of_beq h0, num_rep] at h4
    refine ⟨?_, l4⟩
    rw [← h4, decide_eq_true (by rw [Nat.mul_zero, Nat.add_zero]; exact hlt)]
    simp
  · intro h0
    have hne : num N64 (l.drop 4) ≠ 0 := by
      intro h6
      have := num_inj (W := N64) (by decide) hd8 (Dig.rep 4 (by decide)) (by simp [h2]) (by rw [h6, num_rep])
      rw [this, beq_self_eq_true] at h0
      cases h0
    have : ¬ N a * N b < T256 := by
      rw [← h4]
      have : T256 * 1 ≤ T256 * num N64 (l.drop 4) := Nat.mul_le_mul_left _ (by omega)
      omega
    rw [decide_eq_false this]
    rfl

theorem mul_spec {a b : List Int} (ha : L4 a) (hb : L4 b) : SFun Try.prog 14 [w4 a, w4 b] (.tup [w4 (L (mulR (N a) (N b)).1), int (mulR (N a) (N b)).2]) := by
  refine SFun.inl [(53, mul64T), (54, add64T)] (SOK.cons mul64_ok (SOK.cons add64_ok SOK.nil)) tok mixed [] IOK.nil true [(3, ⟨MOT a b, fun p => ⟨4, [(2, .one (.ptr 0 0)), (3, .one (.ptr 1 0)), (4, .one (.ptr 2 0)), (5, int 0), (6, .one (.ptr 3 0)), (15, w4 a), (16, int p.1.1)], [(1, .cells [.ints .u64 4 b]), (2, .cells [.ints .u64 4 [0, 0, 0, 0]]), (3, .cells [.ints .u64 8 p.1.2])]⟩, fun p => 4 - p.1.1, fun _ _ => True⟩), (7, ⟨MIT a b, fun p => ⟨4, [(2, .one (.ptr 0 0)), (3, .one (.ptr 1 0)), (4, .one (.ptr 2 0)), (5, int 0), (6, .one (.ptr 3 0)), (15, w4 a), (16, int p.1.1), (7, int p.1.1), (8, u64 (a.getD p.1.1 0)), (9, u64 p.1.2.2.2), (20, w4 b), (21, int p.1.2.1)], [(1, .cells [.ints .u64 4 b]), (2, .cells [.ints .u64 4 [0, 0, 0, 0]]), (3, .cells [.ints .u64 8 p.1.2.2.1])]⟩, fun p => 4 - p.1.2.1, fun p q => q.1.1 = p.1.1⟩)] [] Try.call14 Try.func14 rfl (by rfl) ?_
  refine Eq.mp (α := (∃ i0 : MOT a b, (And (And True (And (And (And ((true : Bool) = true) ((0 : Nat) = (0 : Nat))) (And (And ((true : Bool) = true) ((0 : Nat) = (0 : Nat))) (And (And ((true : Bool) = true) ((0 : Nat) = (0 : Nat))) (And ((0 : Int) = (0 : Int)) (And (And ((true : Bool) = true) ((0 : Nat) = (0 : Nat))) (And (And (a = a) True) (And ((↑(Prod.fst (Subtype.val i0)) : Int) = (0 : Int)) True))))))) (And (And (And (b = b) True) (And ((true : Bool) = true) (And (And ([(0 : Int), (0 : Int), (0 : Int), (0 : Int)] = List.replicate (4 : Nat) (0 : Int)) True) (And ((true : Bool) = true) (And (And (Prod.snd (Subtype.val i0) = List.replicate (8 : Nat) (0 : Int)) True) (And ((true : Bool) = true) True)))))) ((true : Bool) = true)))) (∀ i : MOT a b, (∀ a_1 : True, (@Bool.rec (fun _ => Prop) (And ((0 : Int) ≤ (4 : Int)) (And (Int.toNat (4 : Int) ≤ (8 : Nat)) (And ((8 : Nat) ≤ (8 : Nat)) (And ((8 : Nat) ≤ (8 : Nat)) (And ((4 : Nat) ≤ (8 : Nat) - Int.toNat (4 : Int)) (@Bool.rec (fun _ => Prop) (And ((0 : Int) ≤ (4 : Int)) (And ((0 : Nat) ≤ Int.toNat (4 : Int)) (And (Int.toNat (4 : Int) ≤ (8 : Nat)) (And ((8 : Nat) ≤ (8 : Nat)) (And ((4 : Nat) ≤ Int.toNat (4 : Int) - (0 : Nat)) (And (M.tup [M.agg [SV.ints IntKind.u64 (4 : Nat) (List.take (4 : Nat) (List.drop ((0 : Nat) + if (8 : Nat) = (0 : Nat) then (0 : Nat) else (0 : Nat)) (Prod.snd (Subtype.val i))))], M.one (SV.v (Value.int IntKind.i64 (0 : Int)))] = M.tup [M.agg [SV.ints IntKind.u64 (4 : Nat) (L (Prod.fst (mulR (N a) (N b))))], M.one (SV.v (Value.int IntKind.i64 (Prod.snd (mulR (N a) (N b)))))]) ((true : Bool) = true))))))) (And (M.tup [M.agg [SV.ints IntKind.u64 (4 : Nat) (List.replicate (4 : Nat) (0 : Int))], M.one (SV.v (Value.int IntKind.i64 (30 : Int)))] = M.tup [M.agg [SV.ints IntKind.u64 (4 : Nat) (L (Prod.fst (mulR (N a) (N b))))], M.one (SV.v (Value.int IntKind.i64 (Prod.snd (mulR (N a) (N b)))))]) ((true : Bool) = true)) (!List.take (4 : Nat) (List.drop ((0 : Nat) + if (8 : Nat) = Int.toNat (4 : Int) then (0 : Nat) else Int.toNat (4 : Int)) (Prod.snd (Subtype.val i))) == List.replicate (4 : Nat) (0 : Int)))))))) (And ((0 : Int) ≤ (↑(Prod.fst (Subtype.val i)) : Int)) (And (Int.toNat (↑(Prod.fst (Subtype.val i)) : Int) < (4 : Nat)) (And (Int.toNat (↑(Prod.fst (Subtype.val i)) : Int) < (4 : Nat)) (∃ i0_1 : MIT a b, (And (And (Prod.fst (Subtype.val i0_1) = Prod.fst (Subtype.val i0_1)) (And (And (And ((true : Bool) = true) ((0 : Nat) = (0 : Nat))) (And (And ((true : Bool) = true) ((0 : Nat) = (0 : Nat))) (And (And ((true : Bool) = true) ((0 : Nat) = (0 : Nat))) (And ((0 : Int) = (0 : Int)) (And (And ((true : Bool) = true) ((0 : Nat) = (0 : Nat))) (And (And (a = a) True) (And ((↑(Prod.fst (Subtype.val i0_1)) : Int) = (↑(Prod.fst (Subtype.val i)) : Int)) (And ((↑(Prod.fst (Subtype.val i0_1)) : Int) = (↑(Prod.fst (Subtype.val i)) : Int)) (And (List.getD a (Prod.fst (Subtype.val i0_1)) (0 : Int) = List.getD a (Int.toNat (↑(Prod.fst (Subtype.val i)) : Int)) (0 : Int)) (And (Prod.snd (Prod.snd (Prod.snd (Subtype.val i0_1))) = (0 : Int)) (And (And (b = b) True) (And ((↑(Prod.fst (Prod.snd (Subtype.val i0_1))) : Int) = (0 : Int)) True)))))))))))) (And (And (And (b = b) True) (And ((true : Bool) = true) (And (And ([(0 : Int), (0 : Int), (0 : Int), (0 : Int)] = [(0 : Int), (0 : Int), (0 : Int), (0 : Int)]) True) (And ((true : Bool) = true) (And (And (Prod.fst (Prod.snd (Prod.snd (Subtype.val i0_1))) = Prod.snd (Subtype.val i)) True) (And ((true : Bool) = true) True)))))) ((true : Bool) = true)))) (∀ i_1 : MIT a b, (∀ a_2 : Prod.fst (Subtype.val i_1) = Prod.fst (Subtype.val i0_1), (@Bool.rec (fun _ => Prop) (And ((0 : Int) ≤ IntKind.wrap IntKind.i64 ((↑(Prod.fst (Subtype.val i_1)) : Int) + (4 : Int))) (And (Int.toNat (IntKind.wrap IntKind.i64 ((↑(Prod.fst (Subtype.val i_1)) : Int) + (4 : Int))) < (8 : Nat)) (And (Int.toNat (IntKind.wrap IntKind.i64 ((↑(Prod.fst (Subtype.val i_1)) : Int) + (4 : Int))) < (8 : Nat)) (∃ i' : MOT a b, (And (And ((4 : Nat) - Prod.fst (Subtype.val i') < (4 : Nat) - Prod.fst (Subtype.val i)) True) (And (And (And ((true : Bool) = true) ((0 : Nat) = (0 : Nat))) (And (And ((true : Bool) = true) ((0 : Nat) = (0 : Nat))) (And (And ((true : Bool) = true) ((0 : Nat) = (0 : Nat))) (And ((0 : Int) = (0 : Int)) (And (And ((true : Bool) = true) ((0 : Nat) = (0 : Nat))) (And (And (a = a) True) (And ((↑(Prod.fst (Subtype.val i')) : Int) = IntKind.wrap IntKind.i64 ((↑(Prod.fst (Subtype.val i_1)) : Int) + (1 : Int))) True))))))) (And (And (And (b = b) True) (And ((true : Bool) = true) (And (And ([(0 : Int), (0 : Int), (0 : Int), (0 : Int)] = [(0 : Int), (0 : Int), (0 : Int), (0 : Int)]) True) (And ((true : Bool) = true) (And (And (Prod.snd (Subtype.val i') = List.set (Prod.fst (Prod.snd (Prod.snd (Subtype.val i_1)))) (Int.toNat (IntKind.wrap IntKind.i64 ((↑(Prod.fst (Subtype.val i_1)) : Int) + (4 : Int)))) (Prod.snd (Prod.snd (Prod.snd (Subtype.val i_1))))) True) (And ((true : Bool) = true) True)))))) ((true : Bool) = true)))))))) (And ((0 : Int) ≤ (↑(Prod.fst (Prod.snd (Subtype.val i_1))) : Int)) (And (Int.toNat (↑(Prod.fst (Prod.snd (Subtype.val i_1))) : Int) < (4 : Nat)) (And (Int.toNat (↑(Prod.fst (Prod.snd (Subtype.val i_1))) : Int) < (4 : Nat)) (And (And (And ((0 : Int) ≤ List.getD a (Prod.fst (Subtype.val i_1)) (0 : Int)) (List.getD a (Prod.fst (Subtype.val i_1)) (0 : Int) < (18446744073709551616 : Int))) (And ((0 : Int) ≤ List.getD b (Int.toNat (↑(Prod.fst (Prod.snd (Subtype.val i_1))) : Int)) (0 : Int)) (List.getD b (Int.toNat (↑(Prod.fst (Prod.snd (Subtype.val i_1))) : Int)) (0 : Int) < (18446744073709551616 : Int)))) (And ((0 : Int) ≤ IntKind.wrap IntKind.i64 ((↑(Prod.fst (Subtype.val i_1)) : Int) + (↑(Prod.fst (Prod.snd (Subtype.val i_1))) : Int))) (And (Int.toNat (IntKind.wrap IntKind.i64 ((↑(Prod.fst (Subtype.val i_1)) : Int) + (↑(Prod.fst (Prod.snd (Subtype.val i_1))) : Int))) < (8 : Nat)) (And (Int.toNat (IntKind.wrap IntKind.i64 ((↑(Prod.fst (Subtype.val i_1)) : Int) + (↑(Prod.fst (Prod.snd (Subtype.val i_1))) : Int))) < (8 : Nat)) (And (And (And ((0 : Int) ≤ (↑(Int.toNat (List.getD a (Prod.fst (Subtype.val i_1)) (0 : Int)) * Int.toNat (List.getD b (Int.toNat (↑(Prod.fst (Prod.snd (Subtype.val i_1))) : Int)) (0 : Int)) % N64) : Int)) ((↑(Int.toNat (List.getD a (Prod.fst (Subtype.val i_1)) (0 : Int)) * Int.toNat (List.getD b (Int.toNat (↑(Prod.fst (Prod.snd (Subtype.val i_1))) : Int)) (0 : Int)) % N64) : Int) < (18446744073709551616 : Int))) (And (And ((0 : Int) ≤ List.getD (Prod.fst (Prod.snd (Prod.snd (Subtype.val i_1)))) (Int.toNat (IntKind.wrap IntKind.i64 ((↑(Prod.fst (Subtype.val i_1)) : Int) + (↑(Prod.fst (Prod.snd (Subtype.val i_1))) : Int)))) (0 : Int)) (List.getD (Prod.fst (Prod.snd (Prod.snd (Subtype.val i_1)))) (Int.toNat (IntKind.wrap IntKind.i64 ((↑(Prod.fst (Subtype.val i_1)) : Int) + (↑(Prod.fst (Prod.snd (Subtype.val i_1))) : Int)))) (0 : Int) < (18446744073709551616 : Int))) (And ((0 : Int) ≤ (0 : Int)) ((0 : Int) ≤ (1 : Int))))) (And (And (And ((0 : Int) ≤ ((↑(Int.toNat (List.getD a (Prod.fst (Subtype.val i_1)) (0 : Int)) * Int.toNat (List.getD b (Int.toNat (↑(Prod.fst (Prod.snd (Subtype.val i_1))) : Int)) (0 : Int)) % N64) : Int) + List.getD (Prod.fst (Prod.snd (Prod.snd (Subtype.val i_1)))) (Int.toNat (IntKind.wrap IntKind.i64 ((↑(Prod.fst (Subtype.val i_1)) : Int) + (↑(Prod.fst (Prod.snd (Subtype.val i_1))) : Int)))) (0 : Int) + (0 : Int)) % T64) (((↑(Int.toNat (List.getD a (Prod.fst (Subtype.val i_1)) (0 : Int)) * Int.toNat (List.getD b (Int.toNat (↑(Prod.fst (Prod.snd (Subtype.val i_1))) : Int)) (0 : Int)) % N64) : Int) + List.getD (Prod.fst (Prod.snd (Prod.snd (Subtype.val i_1)))) (Int.toNat (IntKind.wrap IntKind.i64 ((↑(Prod.fst (Subtype.val i_1)) : Int) + (↑(Prod.fst (Prod.snd (Subtype.val i_1))) : Int)))) (0 : Int) + (0 : Int)) % T64 < (18446744073709551616 : Int))) (And (And ((0 : Int) ≤ Prod.snd (Prod.snd (Prod.snd (Subtype.val i_1)))) (Prod.snd (Prod.snd (Prod.snd (Subtype.val i_1))) < (18446744073709551616 : Int))) (And ((0 : Int) ≤ (0 : Int)) ((0 : Int) ≤ (1 : Int))))) (And ((0 : Int) ≤ IntKind.wrap IntKind.i64 ((↑(Prod.fst (Subtype.val i_1)) : Int) + (↑(Prod.fst (Prod.snd (Subtype.val i_1))) : Int))) (And (Int.toNat (IntKind.wrap IntKind.i64 ((↑(Prod.fst (Subtype.val i_1)) : Int) + (↑(Prod.fst (Prod.snd (Subtype.val i_1))) : Int))) < (8 : Nat)) (And (Int.toNat (IntKind.wrap IntKind.i64 ((↑(Prod.fst (Subtype.val i_1)) : Int) + (↑(Prod.fst (Prod.snd (Subtype.val i_1))) : Int))) < (8 : Nat)) (∃ i' : MIT a b, (And (And ((4 : Nat) - Prod.fst (Prod.snd (Subtype.val i')) < (4 : Nat) - Prod.fst (Prod.snd (Subtype.val i_1))) (Prod.fst (Subtype.val i') = Prod.fst (Subtype.val i0_1))) (And (And (And ((true : Bool) = true) ((0 : Nat) = (0 : Nat))) (And (And ((true : Bool) = true) ((0 : Nat) = (0 : Nat))) (And (And ((true : Bool) = true) ((0 : Nat) = (0 : Nat))) (And ((0 : Int) = (0 : Int)) (And (And ((true : Bool) = true) ((0 : Nat) = (0 : Nat))) (And (And (a = a) True) (And ((↑(Prod.fst (Subtype.val i')) : Int) = (↑(Prod.fst (Subtype.val i_1)) : Int)) (And ((↑(Prod.fst (Subtype.val i')) : Int) = (↑(Prod.fst (Subtype.val i_1)) : Int)) (And (List.getD a (Prod.fst (Subtype.val i')) (0 : Int) = List.getD a (Prod.fst (Subtype.val i_1)) (0 : Int)) (And (Prod.snd (Prod.snd (Prod.snd (Subtype.val i'))) = IntKind.wrap IntKind.u64 (IntKind.wrap IntKind.u64 ((↑(Int.toNat (List.getD a (Prod.fst (Subtype.val i_1)) (0 : Int)) * Int.toNat (List.getD b (Int.toNat (↑(Prod.fst (Prod.snd (Subtype.val i_1))) : Int)) (0 : Int)) / N64) : Int) + ((↑(Int.toNat (List.getD a (Prod.fst (Subtype.val i_1)) (0 : Int)) * Int.toNat (List.getD b (Int.toNat (↑(Prod.fst (Prod.snd (Subtype.val i_1))) : Int)) (0 : Int)) % N64) : Int) + List.getD (Prod.fst (Prod.snd (Prod.snd (Subtype.val i_1)))) (Int.toNat (IntKind.wrap IntKind.i64 ((↑(Prod.fst (Subtype.val i_1)) : Int) + (↑(Prod.fst (Prod.snd (Subtype.val i_1))) : Int)))) (0 : Int) + (0 : Int)) / T64) + (((↑(Int.toNat (List.getD a (Prod.fst (Subtype.val i_1)) (0 : Int)) * Int.toNat (List.getD b (Int.toNat (↑(Prod.fst (Prod.snd (Subtype.val i_1))) : Int)) (0 : Int)) % N64) : Int) + List.getD (Prod.fst (Prod.snd (Prod.snd (Subtype.val i_1)))) (Int.toNat (IntKind.wrap IntKind.i64 ((↑(Prod.fst (Subtype.val i_1)) : Int) + (↑(Prod.fst (Prod.snd (Subtype.val i_1))) : Int)))) (0 : Int) + (0 : Int)) % T64 + Prod.snd (Prod.snd (Prod.snd (Subtype.val i_1))) + (0 : Int)) / T64)) (And (And (b = b) True) (And ((↑(Prod.fst (Prod.snd (Subtype.val i'))) : Int) = IntKind.wrap IntKind.i64 ((↑(Prod.fst (Prod.snd (Subtype.val i_1))) : Int) + (1 : Int))) True)))))))))))) (And (And (And (b = b) True) (And ((true : Bool) = true) (And (And ([(0 : Int), (0 : Int), (0 : Int), (0 : Int)] = [(0 : Int), (0 : Int), (0 : Int), (0 : Int)]) True) (And ((true : Bool) = true) (And (And (Prod.fst (Prod.snd (Prod.snd (Subtype.val i'))) = List.set (Prod.fst (Prod.snd (Prod.snd (Subtype.val i_1)))) (Int.toNat (IntKind.wrap IntKind.i64 ((↑(Prod.fst (Subtype.val i_1)) : Int) + (↑(Prod.fst (Prod.snd (Subtype.val i_1))) : Int)))) ((((↑(Int.toNat (List.getD a (Prod.fst (Subtype.val i_1)) (0 : Int)) * Int.toNat (List.getD b (Int.toNat (↑(Prod.fst (Prod.snd (Subtype.val i_1))) : Int)) (0 : Int)) % N64) : Int) + List.getD (Prod.fst (Prod.snd (Prod.snd (Subtype.val i_1)))) (Int.toNat (IntKind.wrap IntKind.i64 ((↑(Prod.fst (Subtype.val i_1)) : Int) + (↑(Prod.fst (Prod.snd (Subtype.val i_1))) : Int)))) (0 : Int) + (0 : Int)) % T64 + Prod.snd (Prod.snd (Prod.snd (Subtype.val i_1))) + (0 : Int)) % T64)) True) (And ((true : Bool) = true) True)))))) ((true : Bool) = true))))))))))))))))) (decide ((↑(Prod.fst (Prod.snd (Subtype.val i_1))) : Int) < (4 : Int))))))))))) (decide ((↑(Prod.fst (Subtype.val i)) : Int) < (4 : Int))))))))) (by kernel_rfl) ?_
  refine ⟨⟨(0, List.replicate 8 0), MO.start⟩, ?_, ?_⟩
  ·
    repeat' first | exact trivial | refine And.intro ?_ ?_ | with_reducible refine bif_dt (by assumption) ?_ | with_reducible refine bif_df (by assumption) ?_ | with_reducible refine bif_dec (fun _ => ?_) (fun _ => ?_) | with_reducible refine bif_not ?_ | with_reducible refine bif_and ?_ | with_reducible refine bif_or ?_ | with_reducible refine bif_t (by assumption) ?_ | with_reducible refine bif_f (by assumption) ?_ | with_reducible refine bif_t (beq_self_eq_true _) ?_ | with_reducible refine bif_b (fun _ => ?_) (fun _ => ?_) | with_reducible refine ⟨_, Eq.refl (List.map _ _), ?_⟩ | (with_reducible refine Exists.intro (by omega) ?_) | rfl | (intro h0; omega) | omega
  rintro ⟨⟨i, l⟩, hO⟩ -
  have hO' : MO a b i l := hO
  dsimp only
  have hi4 := hO'.1
  have hl8 := hO'.2.1
  refine bif_dec (fun hi => ?_) (fun hi => ?_)
  · refine ⟨by omega, by omega, by omega, ⟨(i, 0, l, 0), MI.start hO' (by omega)⟩, ?_, ?_⟩
    · simp only [Int.toNat_natCast]
      repeat' first | exact trivial | refine And.intro ?_ ?_ | with_reducible refine bif_dt (by assumption) ?_ | with_reducible refine bif_df (by assumption) ?_ | with_reducible refine bif_dec (fun _ => ?_) (fun _ => ?_) | with_reducible refine bif_not ?_ | with_reducible refine bif_and ?_ | with_reducible refine bif_or ?_ | with_reducible refine bif_t (by assumption) ?_ | with_reducible refine bif_f (by assumption) ?_ | with_reducible refine bif_t (beq_self_eq_true _) ?_ | with_reducible refine bif_b (fun _ => ?_) (fun _ => ?_) | with_reducible refine ⟨_, Eq.refl (List.map _ _), ?_⟩ | (with_reducible refine Exists.intro (by omega) ?_) | rfl | (intro h0; omega) | omega
    rintro ⟨⟨i', k, l', c⟩, hI⟩ hii
    have hI' : MI a b i' k l' c := hI
    simp only at hii
    subst hii
    dsimp only
    have hk4 := hI'.2.1
    have hl8' := hI'.2.2.1
    have w1 : IntKind.i64.wrap ((i' : Int) + 4) = ((i' + 4 : Nat) : Int) := by rw [wrap64 (by omega) (by omega)]; omega
    have w2 : IntKind.i64.wrap ((i' : Int) + 1) = ((i' + 1 : Nat) : Int) := by rw [wrap64 (by omega) (by omega)]; omega
    have w3 : IntKind.i64.wrap ((i' : Int) + (k : Int)) = ((i' + k : Nat) : Int) := by rw [wrap64 (by omega) (by omega)]; omega
    have w4 : IntKind.i64.wrap ((k : Int) + 1) = ((k + 1 : Nat) : Int) := by rw [wrap64 (by omega) (by omega)]; omega
    simp only [w1, w2, w3, w4, Int.toNat_natCast]
    refine bif_dec (fun hk => ?_) (fun hk => ?_)
    · have ga := ha.2.getD (by decide) i'
      have gb := hb.2.getD (by decide) k
      have go := hI'.2.2.2.1.getD (by decide) (i' + k)
      have gc := hI'.2.2.2.2.1
      have gp := Nat.mod_lt ((a.getD i' 0).toNat * (b.getD k 0).toNat) (show 0 < N64 by decide)
      have gp' : ((((a.getD i' 0).toNat * (b.getD k 0).toNat % N64 : Nat)) : Int) < 18446744073709551616 := Int.ofNat_lt.2 gp
      have gs := wd_mod ((((a.getD i' 0).toNat * (b.getD k 0).toNat % N64 : Nat) : Int) + l'.getD (i' + k) 0 + 0)
      refine ⟨by omega, by omega, by omega, ⟨ga, gb⟩, by omega, by omega, by omega, ⟨⟨Int.natCast_nonneg _, gp'⟩, go, by decide, by decide⟩, ⟨gs, gc, by decide, by decide⟩, by omega, by omega, by omega, ⟨(i', k + 1, _, _), MI.step ha hb hI' (by omega)⟩, ⟨show 4 - (k + 1) < 4 - k by omega, rfl⟩, ?_⟩
      repeat' first | exact trivial | refine And.intro ?_ ?_ | with_reducible refine bif_dt (by assumption) ?_ | with_reducible refine bif_df (by assumption) ?_ | with_reducible refine bif_dec (fun _ => ?_) (fun _ => ?_) | with_reducible refine bif_not ?_ | with_reducible refine bif_and ?_ | with_reducible refine bif_or ?_ | with_reducible refine bif_t (by assumption) ?_ | with_reducible refine bif_f (by assumption) ?_ | with_reducible refine bif_t (beq_self_eq_true _) ?_ | with_reducible refine bif_b (fun _ => ?_) (fun _ => ?_) | with_reducible refine ⟨_, Eq.refl (List.map _ _), ?_⟩ | (with_reducible refine Exists.intro (by omega) ?_) | rfl | (intro h0; omega) | omega
    · refine ⟨by omega, by omega, by omega, ⟨(i' + 1, _), MI.end ha hb hI' (by omega)⟩, ⟨show 4 - (i' + 1) < 4 - i' by omega, trivial⟩, ?_⟩
      repeat' first | exact trivial | refine And.intro ?_ ?_ | with_reducible refine bif_dt (by assumption) ?_ | with_reducible refine bif_df (by assumption) ?_ | with_reducible refine bif_dec (fun _ => ?_) (fun _ => ?_) | with_reducible refine bif_not ?_ | with_reducible refine bif_and ?_ | with_reducible refine bif_or ?_ | with_reducible refine bif_t (by assumption) ?_ | with_reducible refine bif_f (by assumption) ?_ | with_reducible refine bif_t (beq_self_eq_true _) ?_ | with_reducible refine bif_b (fun _ => ?_) (fun _ => ?_) | with_reducible refine ⟨_, Eq.refl (List.map _ _), ?_⟩ | (with_reducible refine Exists.intro (by omega) ?_) | rfl | (intro h0; omega) | omega
  · obtain ⟨f1, f2⟩ := MO.fin ha hb hO' (by omega)
    refine ⟨by decide, by decide, by decide, by decide, by decide, ?_⟩
    show @Bool.rec (fun _ => Prop) _ _ (!(List.take 4 (List.drop 4 l) == List.replicate 4 0))
    refine bif_not ?_
    refine bif_b (fun h0 => ?_) (fun h0 => ?_)
    · obtain ⟨f3, f4⟩ := f1 h0
      rw [f3]
      refine ⟨by decide, by decide, by decide, by decide, by decide, ?_, rfl⟩
      show _ = M.tup [M.agg [SV.ints IntKind.u64 4 (L (N (l.take 4)))], _]
      rw [L_N f4]
      rfl
    · rw [f2 h0]
      exact ⟨rfl, rfl⟩
def mulT : List M → (M → Prop) → Prop
  | [.agg [.ints .u64 4 a], .agg [.ints .u64 4 b]], K => (L4 a ∧ L4 b) ∧ K (.tup [w4 (L (mulR (N a) (N b)).1), int (mulR (N a) (N b)).2])
  | _, _ => False
theorem mul_ok : POK Try.prog 14 mulT := by
  intro ms K h
  unfold mulT at h ⊢
  split at h
  · exact ⟨_, h.2, (mul_spec h.1.1 h.1.2), rfl, fun _ hk => ⟨h.1, hk⟩⟩
  · exact h.elim

end Go.Proofs.Ytjdlefkpoggocaa
