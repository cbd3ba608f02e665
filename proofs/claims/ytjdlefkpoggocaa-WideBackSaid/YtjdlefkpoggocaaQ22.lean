/- The contracts of sums, differences and order, said of the numbers themselves. -/
import Derived.Test.YtjdlefkpoggocaaQ21
import Derived.Test.YtjdlefkpoggocaaW1
import Derived.Test.YtjdlefkpoggocaaSx22
namespace Go.Proofs.Ytjdlefkpoggocaa
open Go Go.Sx Go.Wide
set_option linter.unusedVariables false
set_option linter.unusedSimpArgs false
set_option maxRecDepth 100000
set_option maxHeartbeats 4000000

abbrev w4 (a : List Int) : M := .agg [.ints .u64 4 a]

theorem wd_mod (x : Int) : Wd (x % T64) := ⟨Int.emod_nonneg _ (by decide), Int.emod_lt_of_pos _ (by decide)⟩

/-- One word's sum. -/
theorem one_add {x y c : Int} (hx : Wd x) (hy : Wd y) (h0 : 0 ≤ c) (h1 : c ≤ 1) : ((x + y + c) % T64).toNat + N64 * ((x + y + c) / T64).toNat = x.toNat + y.toNat + c.toNat := by
  obtain ⟨hx0, hx1⟩ := hx
  obtain ⟨hy0, hy1⟩ := hy
  simp only [T64, N64]
  omega
theorem one_sub {x y c : Int} (hx : Wd x) (hy : Wd y) (h0 : 0 ≤ c) (h1 : c ≤ 1) : ((x - y - c) % T64).toNat + y.toNat + c.toNat = x.toNat + N64 * (brw x y c).toNat := by
  obtain ⟨hx0, hx1⟩ := hx
  obtain ⟨hy0, hy1⟩ := hy
  simp only [T64, N64, brw]
  split <;> omega

def addR (x y : Nat) : Nat × Int := bif decide (x + y < T256) then (x + y, 0) else (0, 30)
def subR (x y : Nat) : Nat × Int := bif decide (x < y) then (0, 31) else (x - y, 0)
def lessR (x y : Nat) : Nat := bif decide (x < y) then x + T256 - y else x - y
def cmpR (x y : Nat) : Int := bif decide (x = y) then 0 else (bif decide (x < y) then -1 else 1)
def lowR (x : Nat) : Int × Bool := bif decide (x < N64) then ((x : Int), true) else (0, false)

theorem ads_eq {a0 a1 a2 a3 b0 b1 b2 b3 : Int} (ha : Wd a0 ∧ Wd a1 ∧ Wd a2 ∧ Wd a3) (hb : Wd b0 ∧ Wd b1 ∧ Wd b2 ∧ Wd b3) :
    (let r := ads a0 a1 a2 a3 b0 b1 b2 b3; L4 [r.1, r.2.1, r.2.2.1, r.2.2.2.1] ∧ 0 ≤ r.2.2.2.2 ∧ r.2.2.2.2 ≤ 1 ∧ N [r.1, r.2.1, r.2.2.1, r.2.2.2.1] + T256 * r.2.2.2.2.toNat = N [a0, a1, a2, a3] + N [b0, b1, b2, b3]) := by
  obtain ⟨h0, h1, h2, h3⟩ := ha
  obtain ⟨g0, g1, g2, g3⟩ := hb
  have k0 := cry_nn h0 g0 (Int.le_refl 0)
  have k1 := cry_nn h1 g1 k0
  have k2 := cry_nn h2 g2 k1
  have k3 := cry_nn h3 g3 k2
  have l0 := cry_le h0 g0 (show (0 : Int) ≤ 1 by decide)
  have l1 := cry_le h1 g1 l0
  have l2 := cry_le h2 g2 l1
  have l3 := cry_le h3 g3 l2
  have e0 := one_add h0 g0 (Int.le_refl 0) (show (0 : Int) ≤ 1 by decide)
  have e1 := one_add h1 g1 k0 l0
  have e2 := one_add h2 g2 k1 l1
  have e3 := one_add h3 g3 k2 l2
  refine ⟨L4.of (wd_mod _) (wd_mod _) (wd_mod _) (wd_mod _), k3, l3, ?_⟩
  simp only [ads, N4]
  generalize (a3 + b3 + (a2 + b2 + (a1 + b1 + (a0 + b0 + 0) / T64) / T64) / T64) / T64 = c3 at *
  generalize (a3 + b3 + (a2 + b2 + (a1 + b1 + (a0 + b0 + 0) / T64) / T64) / T64) % T64 = r3 at *
  generalize (a2 + b2 + (a1 + b1 + (a0 + b0 + 0) / T64) / T64) / T64 = c2 at *
  generalize (a2 + b2 + (a1 + b1 + (a0 + b0 + 0) / T64) / T64) % T64 = r2 at *
  generalize (a1 + b1 + (a0 + b0 + 0) / T64) / T64 = c1 at *
  generalize (a1 + b1 + (a0 + b0 + 0) / T64) % T64 = r1 at *
  generalize (a0 + b0 + 0) / T64 = c0 at *
  generalize (a0 + b0 + 0) % T64 = r0 at *
  simp only [N64, T256] at *
  omega

theorem les_eq {a0 a1 a2 a3 b0 b1 b2 b3 : Int} (ha : Wd a0 ∧ Wd a1 ∧ Wd a2 ∧ Wd a3) (hb : Wd b0 ∧ Wd b1 ∧ Wd b2 ∧ Wd b3) :
    (let r := les a0 a1 a2 a3 b0 b1 b2 b3; L4 [r.1, r.2.1, r.2.2.1, r.2.2.2.1] ∧ 0 ≤ r.2.2.2.2 ∧ r.2.2.2.2 ≤ 1 ∧ N [r.1, r.2.1, r.2.2.1, r.2.2.2.1] + N [b0, b1, b2, b3] = N [a0, a1, a2, a3] + T256 * r.2.2.2.2.toNat) := by
  obtain ⟨h0, h1, h2, h3⟩ := ha
  obtain ⟨g0, g1, g2, g3⟩ := hb
  have e0 := one_sub h0 g0 (Int.le_refl 0) (show (0 : Int) ≤ 1 by decide)
  have e1 := one_sub h1 g1 (brw_nn a0 b0 0) (brw_le a0 b0 0)
  have e2 := one_sub h2 g2 (brw_nn a1 b1 (brw a0 b0 0)) (brw_le a1 b1 (brw a0 b0 0))
  have e3 := one_sub h3 g3 (brw_nn a2 b2 (brw a1 b1 (brw a0 b0 0))) (brw_le a2 b2 (brw a1 b1 (brw a0 b0 0)))
  refine ⟨L4.of (wd_mod _) (wd_mod _) (wd_mod _) (wd_mod _), brw_nn _ _ _, brw_le _ _ _, ?_⟩
  simp only [les, N4]
  generalize (a3 - b3 - brw a2 b2 (brw a1 b1 (brw a0 b0 0))) % T64 = r3 at *
  generalize brw a3 b3 (brw a2 b2 (brw a1 b1 (brw a0 b0 0))) = c3 at *
  generalize (a2 - b2 - brw a1 b1 (brw a0 b0 0)) % T64 = r2 at *
  generalize brw a2 b2 (brw a1 b1 (brw a0 b0 0)) = c2 at *
  generalize (a1 - b1 - brw a0 b0 0) % T64 = r1 at *
  generalize brw a1 b1 (brw a0 b0 0) = c1 at *
  generalize (a0 - b0 - 0) % T64 = r0 at *
  generalize brw a0 b0 0 = c0 at *
  simp only [N64, T256] at *
  omega

theorem L_zero : L 0 = [0, 0, 0, 0] := by decide

theorem addN_spec {a b : List Int} (ha : L4 a) (hb : L4 b) : SFun Try.prog 20 [w4 a, w4 b] (.tup [w4 (L (addR (N a) (N b)).1), int (addR (N a) (N b)).2]) := by
  obtain ⟨a0, a1, a2, a3, rfl, ha'⟩ := ha.four
  obtain ⟨b0, b1, b2, b3, rfl, hb'⟩ := hb.four
  have h := add_spec ha' hb'
  have e := ads_eq ha' hb'
  have hl := N_lt e.1
  generalize ads a0 a1 a2 a3 b0 b1 b2 b3 = r at *
  obtain ⟨r0, r1, r2, r3, c⟩ := r
  simp only at e hl
  obtain ⟨e1, e2, e3, e4⟩ := e
  unfold addR
  simp only [T256] at *
  by_cases hc : 0 < c
  · have : ¬ (N [a0, a1, a2, a3] + N [b0, b1, b2, b3] < T256) := by simp only [T256]; omega
    rw [decide_eq_false this]
    simp only [adr, decide_eq_true hc, cond_true] at h
    simp only [cond_false, L_zero]
    exact h
  · have : N [a0, a1, a2, a3] + N [b0, b1, b2, b3] < T256 := by simp only [T256]; omega
    rw [decide_eq_true this]
    simp only [adr, decide_eq_false hc, cond_false] at h
    rw [cond_true, ← e4, show c.toNat = 0 by omega, Nat.mul_zero, Nat.add_zero, L_N e1]
    exact h
def addNT : List M → (M → Prop) → Prop
  | [.agg [.ints .u64 4 a], .agg [.ints .u64 4 b]], K => (L4 a ∧ L4 b) ∧ K (.tup [w4 (L (addR (N a) (N b)).1), int (addR (N a) (N b)).2])
  | _, _ => False
theorem addN_ok : POK Try.prog 20 addNT := by
  intro ms K h
  unfold addNT at h ⊢
  split at h
  · exact ⟨_, h.2, (addN_spec h.1.1 h.1.2), rfl, fun _ hk => ⟨h.1, hk⟩⟩
  · exact h.elim


theorem subN_spec {a b : List Int} (ha : L4 a) (hb : L4 b) : SFun Try.prog 23 [w4 a, w4 b] (.tup [w4 (L (subR (N a) (N b)).1), int (subR (N a) (N b)).2]) := by
  obtain ⟨a0, a1, a2, a3, rfl, ha'⟩ := ha.four
  obtain ⟨b0, b1, b2, b3, rfl, hb'⟩ := hb.four
  have h := sub_spec ha' hb'
  have e := les_eq ha' hb'
  have hl := N_lt e.1
  have hla := N_lt ha
  generalize les a0 a1 a2 a3 b0 b1 b2 b3 = r at *
  obtain ⟨r0, r1, r2, r3, c⟩ := r
  simp only at e hl
  obtain ⟨e1, e2, e3, e4⟩ := e
  unfold subR
  simp only [T256] at *
  by_cases hc : 0 < c
  · have : N [a0, a1, a2, a3] < N [b0, b1, b2, b3] := by omega
    rw [decide_eq_true this]
    simp only [sbr, decide_eq_true hc, cond_true] at h
    simp only [cond_true, L_zero]
    exact h
  · have : ¬ N [a0, a1, a2, a3] < N [b0, b1, b2, b3] := by omega
    rw [decide_eq_false this]
    simp only [sbr, decide_eq_false hc, cond_false] at h
    rw [cond_false, ← L_eq e1 (n := N [a0, a1, a2, a3] - N [b0, b1, b2, b3]) (by omega)]
    exact h
def subNT : List M → (M → Prop) → Prop
  | [.agg [.ints .u64 4 a], .agg [.ints .u64 4 b]], K => (L4 a ∧ L4 b) ∧ K (.tup [w4 (L (subR (N a) (N b)).1), int (subR (N a) (N b)).2])
  | _, _ => False
theorem subN_ok : POK Try.prog 23 subNT := by
  intro ms K h
  unfold subNT at h ⊢
  split at h
  · exact ⟨_, h.2, (subN_spec h.1.1 h.1.2), rfl, fun _ hk => ⟨h.1, hk⟩⟩
  · exact h.elim


theorem lessN_spec {a b : List Int} (ha : L4 a) (hb : L4 b) : SFun Try.prog 57 [w4 a, w4 b] (.tup [w4 (L (lessR (N a) (N b))), u64 (bif decide (N a < N b) then 1 else 0)]) := by
  obtain ⟨a0, a1, a2, a3, rfl, ha'⟩ := ha.four
  obtain ⟨b0, b1, b2, b3, rfl, hb'⟩ := hb.four
  have h := less_spec ha' hb'
  have e := les_eq ha' hb'
  have hl := N_lt e.1
  have hla := N_lt ha
  have hlb := N_lt hb
  generalize les a0 a1 a2 a3 b0 b1 b2 b3 = r at *
  obtain ⟨r0, r1, r2, r3, c⟩ := r
  simp only at e hl
  obtain ⟨e1, e2, e3, e4⟩ := e
  unfold lessR
  simp only [T256] at *
  by_cases hc : 0 < c
  · have hlt : N [a0, a1, a2, a3] < N [b0, b1, b2, b3] := by omega
    rw [decide_eq_true hlt, cond_true, cond_true, ← L_eq e1 (n := N [a0, a1, a2, a3] + T256 - N [b0, b1, b2, b3]) (by simp only [T256]; omega), ← show c = 1 by omega]
    exact h
  · have hlt : ¬ N [a0, a1, a2, a3] < N [b0, b1, b2, b3] := by omega
    rw [decide_eq_false hlt, cond_false, cond_false, ← L_eq e1 (n := N [a0, a1, a2, a3] - N [b0, b1, b2, b3]) (by omega), ← show c = 0 by omega]
    exact h
def lessNT : List M → (M → Prop) → Prop
  | [.agg [.ints .u64 4 a], .agg [.ints .u64 4 b]], K => (L4 a ∧ L4 b) ∧ K (.tup [w4 (L (lessR (N a) (N b))), u64 (bif decide (N a < N b) then 1 else 0)])
  | _, _ => False
theorem lessN_ok : POK Try.prog 57 lessNT := by
  intro ms K h
  unfold lessNT at h ⊢
  split at h
  · exact ⟨_, h.2, (lessN_spec h.1.1 h.1.2), rfl, fun _ hk => ⟨h.1, hk⟩⟩
  · exact h.elim


theorem cmpN_spec {a b : List Int} (ha : L4 a) (hb : L4 b) : SFun Try.prog 21 [w4 a, w4 b] (int (cmpR (N a) (N b))) := by
  obtain ⟨a0, a1, a2, a3, rfl, ha'⟩ := ha.four
  obtain ⟨b0, b1, b2, b3, rfl, hb'⟩ := hb.four
  have h := cmp_spec ha' hb'
  have e := les_eq ha' hb'
  have hl := N_lt e.1
  have hla := N_lt ha
  unfold cmp at h
  unfold cmpR
  by_cases hq : [a0, a1, a2, a3] = [b0, b1, b2, b3]
  · rw [decide_eq_true (show N [a0, a1, a2, a3] = N [b0, b1, b2, b3] by rw [hq]), cond_true]
    rw [show ([a0, a1, a2, a3] == [b0, b1, b2, b3]) = true by rw [hq]; exact beq_self_eq_true _] at h
    exact h
  · have hn : ¬ N [a0, a1, a2, a3] = N [b0, b1, b2, b3] := fun h0 => hq (num_inj (by decide) ha.2 hb.2 rfl h0)
    rw [decide_eq_false hn, cond_false]
    rw [beq_eq_false_iff_ne.2 hq, cond_false] at h
    generalize les a0 a1 a2 a3 b0 b1 b2 b3 = r at *
    obtain ⟨r0, r1, r2, r3, c⟩ := r
    simp only at e hl h
    obtain ⟨e1, e2, e3, e4⟩ := e
    simp only [T256] at e4 hl hla
    by_cases hc : 0 < c
    · have hlt : N [a0, a1, a2, a3] < N [b0, b1, b2, b3] := by omega
      rw [decide_eq_true hlt]
      rw [decide_eq_true hc] at h
      exact h
    · have hlt : ¬ N [a0, a1, a2, a3] < N [b0, b1, b2, b3] := by omega
      rw [decide_eq_false hlt]
      rw [decide_eq_false hc] at h
      exact h
def cmpNT : List M → (M → Prop) → Prop
  | [.agg [.ints .u64 4 a], .agg [.ints .u64 4 b]], K => (L4 a ∧ L4 b) ∧ K (int (cmpR (N a) (N b)))
  | _, _ => False
theorem cmpN_ok : POK Try.prog 21 cmpNT := by
  intro ms K h
  unfold cmpNT at h ⊢
  split at h
  · exact ⟨_, h.2, (cmpN_spec h.1.1 h.1.2), rfl, fun _ hk => ⟨h.1, hk⟩⟩
  · exact h.elim


theorem ofN_spec {n : Int} (h : Wd n) : SFun Try.prog 29 [u64 n] (w4 (L n.toNat)) := by
  have h' := of_spec n
  have e : L n.toNat = [n, 0, 0, 0] := by
    have := L_N (L4.of h ⟨Int.le_refl 0, by decide⟩ ⟨Int.le_refl 0, by decide⟩ ⟨Int.le_refl 0, by decide⟩)
    rwa [N4] at this
  rw [e]
  exact h'
def ofNT : List M → (M → Prop) → Prop
  | [.one (.v (.int .u64 n))], K => Wd n ∧ K (w4 (L n.toNat))
  | _, _ => False
theorem ofN_ok : POK Try.prog 29 ofNT := by
  intro ms K h
  unfold ofNT at h ⊢
  split at h
  · exact ⟨_, h.2, (ofN_spec h.1), rfl, fun _ hk => ⟨h.1, hk⟩⟩
  · exact h.elim


theorem lowN_spec {a : List Int} (ha : L4 a) : SFun Try.prog 26 [w4 a] (.tup [u64 (lowR (N a)).1, bool (lowR (N a)).2]) := by
  obtain ⟨a0, a1, a2, a3, rfl, h0, h1, h2, h3⟩ := ha.four
  have h := low_spec a0 a1 a2 a3
  unfold low at h
  unfold lowR
  obtain ⟨u0, u1⟩ := h0
  obtain ⟨v0, v1⟩ := h1
  obtain ⟨w0, w1⟩ := h2
  obtain ⟨x0, x1⟩ := h3
  have e := N4 a0 a1 a2 a3
  by_cases hq : [a0, a1, a2, a3] = [a0, 0, 0, 0]
  · simp only [List.cons.injEq, and_true, true_and] at hq
    obtain ⟨rfl, rfl, rfl⟩ := hq
    have hlt : N [a0, 0, 0, 0] < N64 := by rw [e]; simp only [N64] at *; omega
    rw [decide_eq_true hlt]
    rw [beq_self_eq_true] at h
    have : ((N [a0, 0, 0, 0] : Nat) : Int) = a0 := by rw [e]; simp only [N64] at *; omega
    simp only [cond_true, this] at h ⊢
    exact h
  · have hlt : ¬ N [a0, a1, a2, a3] < N64 := by
      intro hlt
      apply hq
      rw [e] at hlt
      simp only [N64] at hlt
      rw [show a1 = 0 by omega, show a2 = 0 by omega, show a3 = 0 by omega]
    rw [decide_eq_false hlt]
    rw [beq_eq_false_iff_ne.2 hq] at h
    exact h
def lowNT : List M → (M → Prop) → Prop
  | [.agg [.ints .u64 4 a]], K => L4 a ∧ K (.tup [u64 (lowR (N a)).1, bool (lowR (N a)).2])
  | _, _ => False
theorem lowN_ok : POK Try.prog 26 lowNT := by
  intro ms K h
  unfold lowNT at h ⊢
  split at h
  · exact ⟨_, h.2, (lowN_spec h.1), rfl, fun _ hk => ⟨h.1, hk⟩⟩
  · exact h.elim

end Go.Proofs.Ytjdlefkpoggocaa
