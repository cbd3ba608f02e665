/- The document's functions: halves, whole, the order, small ones. -/
import Derived.Test.YtjdlefkpoggocaaQ25
import Derived.Test.YtjdlefkpoggocaaW3
import Derived.Test.YtjdlefkpoggocaaSx22
namespace Go.Proofs.Ytjdlefkpoggocaa
open Go Go.Sx Go.Wide
set_option linter.unusedVariables false
set_option linter.unusedSimpArgs false
set_option maxRecDepth 100000
set_option maxHeartbeats 4000000

abbrev w8 (a : List Int) : M := .agg [.ints .u64 8 a]
/-- Eight halves of a number. -/
abbrev H (n : Nat) : List Int := limbs N32 8 n
def H8 (a : List Int) : Prop := a.length = 8 ∧ Dig N32 a

theorem H_eq {l : List Int} (h : H8 l) {n : Nat} (hn : num N32 l = n) : l = H n := by
  have := limbs_num (W := N32) (by decide) h.2
  rw [h.1, hn] at this
  exact this.symm
theorem H8_H (n : Nat) : H8 (H n) := ⟨limbs_length _ _ _, limbs_dig _ (by decide) _ _⟩
theorem num_H {n : Nat} (h : n < T256) : num N32 (H n) = n := num_limbs (by decide) 8 n h
theorem num8_lt {l : List Int} (h : H8 l) : num N32 l < T256 := by
  have := num_lt (W := N32) (by decide) h.2
  rw [h.1] at this
  exact this
theorem tmod32 (n : Nat) : Int.tmod (n : Int) 4294967296 = ((n % 4294967296 : Nat) : Int) := rfl
theorem tdiv32 (n : Nat) : Int.tdiv (n : Int) 4294967296 = ((n / 4294967296 : Nat) : Int) := rfl
theorem wrapn {n : Nat} (h : n < 18446744073709551616) : IntKind.u64.wrap (n : Int) = (n : Int) := by rw [wrap_nat, Nat.mod_eq_of_lt h]

theorem halves_spec {a : List Int} (ha : L4 a) : SFun Try.prog 55 [w4 a] (w8 (H (N a))) := by
  obtain ⟨a0, a1, a2, a3, rfl, h0, h1, h2, h3⟩ := ha.four
  refine SFun.inl [] SOK.nil tok mixed [] IOK.nil true [] [] Try.call55 Try.func55 rfl (by rfl) ?_
  refine Eq.mp (α := (And ((0 : Int) ≤ (0 : Int)) (And (Int.toNat (0 : Int) < (4 : Nat)) (And (Int.toNat (0 : Int) < (4 : Nat)) (And ((4294967296 : Int) ≠ (0 : Int)) (And ((0 : Int) ≤ (0 : Int)) (And (Int.toNat (0 : Int) < (8 : Nat)) (And (Int.toNat (0 : Int) < (8 : Nat)) (And ((0 : Int) ≤ (0 : Int)) (And (Int.toNat (0 : Int) < (4 : Nat)) (And (Int.toNat (0 : Int) < (4 : Nat)) (And ((4294967296 : Int) ≠ (0 : Int)) (And ((0 : Int) ≤ (1 : Int)) (And (Int.toNat (1 : Int) < (8 : Nat)) (And (Int.toNat (1 : Int) < (8 : Nat)) (And ((0 : Int) ≤ (1 : Int)) (And (Int.toNat (1 : Int) < (4 : Nat)) (And (Int.toNat (1 : Int) < (4 : Nat)) (And ((4294967296 : Int) ≠ (0 : Int)) (And ((0 : Int) ≤ (2 : Int)) (And (Int.toNat (2 : Int) < (8 : Nat)) (And (Int.toNat (2 : Int) < (8 : Nat)) (And ((0 : Int) ≤ (1 : Int)) (And (Int.toNat (1 : Int) < (4 : Nat)) (And (Int.toNat (1 : Int) < (4 : Nat)) (And ((4294967296 : Int) ≠ (0 : Int)) (And ((0 : Int) ≤ (3 : Int)) (And (Int.toNat (3 : Int) < (8 : Nat)) (And (Int.toNat (3 : Int) < (8 : Nat)) (And ((0 : Int) ≤ (2 : Int)) (And (Int.toNat (2 : Int) < (4 : Nat)) (And (Int.toNat (2 : Int) < (4 : Nat)) (And ((4294967296 : Int) ≠ (0 : Int)) (And ((0 : Int) ≤ (4 : Int)) (And (Int.toNat (4 : Int) < (8 : Nat)) (And (Int.toNat (4 : Int) < (8 : Nat)) (And ((0 : Int) ≤ (2 : Int)) (And (Int.toNat (2 : Int) < (4 : Nat)) (And (Int.toNat (2 : Int) < (4 : Nat)) (And ((4294967296 : Int) ≠ (0 : Int)) (And ((0 : Int) ≤ (5 : Int)) (And (Int.toNat (5 : Int) < (8 : Nat)) (And (Int.toNat (5 : Int) < (8 : Nat)) (And ((0 : Int) ≤ (3 : Int)) (And (Int.toNat (3 : Int) < (4 : Nat)) (And (Int.toNat (3 : Int) < (4 : Nat)) (And ((4294967296 : Int) ≠ (0 : Int)) (And ((0 : Int) ≤ (6 : Int)) (And (Int.toNat (6 : Int) < (8 : Nat)) (And (Int.toNat (6 : Int) < (8 : Nat)) (And ((0 : Int) ≤ (3 : Int)) (And (Int.toNat (3 : Int) < (4 : Nat)) (And (Int.toNat (3 : Int) < (4 : Nat)) (And ((4294967296 : Int) ≠ (0 : Int)) (And ((0 : Int) ≤ (7 : Int)) (And (Int.toNat (7 : Int) < (8 : Nat)) (And (Int.toNat (7 : Int) < (8 : Nat)) (And (M.agg [SV.ints IntKind.u64 (8 : Nat) (List.set (List.set (List.set (List.set (List.set (List.set (List.set (List.set (List.replicate (8 : Nat) (0 : Int)) (Int.toNat (0 : Int)) (Int.tmod (List.getD [a0, a1, a2, a3] (Int.toNat (0 : Int)) (0 : Int)) (4294967296 : Int))) (Int.toNat (1 : Int)) (IntKind.wrap IntKind.u64 (Int.tdiv (List.getD [a0, a1, a2, a3] (Int.toNat (0 : Int)) (0 : Int)) (4294967296 : Int)))) (Int.toNat (2 : Int)) (Int.tmod (List.getD [a0, a1, a2, a3] (Int.toNat (1 : Int)) (0 : Int)) (4294967296 : Int))) (Int.toNat (3 : Int)) (IntKind.wrap IntKind.u64 (Int.tdiv (List.getD [a0, a1, a2, a3] (Int.toNat (1 : Int)) (0 : Int)) (4294967296 : Int)))) (Int.toNat (4 : Int)) (Int.tmod (List.getD [a0, a1, a2, a3] (Int.toNat (2 : Int)) (0 : Int)) (4294967296 : Int))) (Int.toNat (5 : Int)) (IntKind.wrap IntKind.u64 (Int.tdiv (List.getD [a0, a1, a2, a3] (Int.toNat (2 : Int)) (0 : Int)) (4294967296 : Int)))) (Int.toNat (6 : Int)) (Int.tmod (List.getD [a0, a1, a2, a3] (Int.toNat (3 : Int)) (0 : Int)) (4294967296 : Int))) (Int.toNat (7 : Int)) (IntKind.wrap IntKind.u64 (Int.tdiv (List.getD [a0, a1, a2, a3] (Int.toNat (3 : Int)) (0 : Int)) (4294967296 : Int))))] = M.agg [SV.ints IntKind.u64 (8 : Nat) (H (N [a0, a1, a2, a3]))]) ((true : Bool) = true))))))))))))))))))))))))))))))))))))))))))))))))))))))))))) (by kernel_rfl) ?_
  obtain ⟨n0, rfl, g0⟩ := nat_word h0
  obtain ⟨n1, rfl, g1⟩ := nat_word h1
  obtain ⟨n2, rfl, g2⟩ := nat_word h2
  obtain ⟨n3, rfl, g3⟩ := nat_word h3
  simp only [Int.reduceToNat, List.reduceReplicate, List.set_cons_succ, List.set_cons_zero, List.getD_cons_succ, List.getD_cons_zero]
  simp only [tmod32, tdiv32, wrapn (show n0 / 4294967296 < 18446744073709551616 by omega), wrapn (show n1 / 4294967296 < 18446744073709551616 by omega), wrapn (show n2 / 4294967296 < 18446744073709551616 by omega), wrapn (show n3 / 4294967296 < 18446744073709551616 by omega)]
  have he := H_eq (l := [((n0 % 4294967296 : Nat) : Int), ((n0 / 4294967296 : Nat) : Int), ((n1 % 4294967296 : Nat) : Int), ((n1 / 4294967296 : Nat) : Int), ((n2 % 4294967296 : Nat) : Int), ((n2 / 4294967296 : Nat) : Int), ((n3 % 4294967296 : Nat) : Int), ((n3 / 4294967296 : Nat) : Int)]) (n := N [(n0 : Int), (n1 : Int), (n2 : Int), (n3 : Int)]) ⟨rfl, by simp only [Dig.cons, N32]; refine ⟨?_, ?_, ?_, ?_, ?_, ?_, ?_, ?_, Dig.nil⟩ <;> omega⟩ (by
    simp only [N4, num, N32, N64, Int.toNat_natCast]
    have d0 := Nat.mod_add_div n0 4294967296
    have d1 := Nat.mod_add_div n1 4294967296
    have d2 := Nat.mod_add_div n2 4294967296
    have d3 := Nat.mod_add_div n3 4294967296
    generalize n0 % 4294967296 = p0 at *
    generalize n0 / 4294967296 = q0 at *
    generalize n1 % 4294967296 = p1 at *
    generalize n1 / 4294967296 = q1 at *
    generalize n2 % 4294967296 = p2 at *
    generalize n2 / 4294967296 = q2 at *
    generalize n3 % 4294967296 = p3 at *
    generalize n3 / 4294967296 = q3 at *
    clear g0 g1 g2 g3
    subst d0 d1 d2 d3
    omega)
  rw [he]
  repeat' first | decide | exact trivial | refine And.intro ?_ ?_ | with_reducible refine bif_dt (by assumption) ?_ | with_reducible refine bif_df (by assumption) ?_ | with_reducible refine bif_dec (fun _ => ?_) (fun _ => ?_) | with_reducible refine bif_not ?_ | with_reducible refine bif_and ?_ | with_reducible refine bif_or ?_ | with_reducible refine bif_t (by assumption) ?_ | with_reducible refine bif_f (by assumption) ?_ | with_reducible refine bif_t (beq_self_eq_true _) ?_ | with_reducible refine bif_b (fun _ => ?_) (fun _ => ?_) | with_reducible refine ⟨_, Eq.refl (List.map _ _), ?_⟩ | (with_reducible refine Exists.intro (by omega) ?_) | rfl | (intro h0; omega) | omega
def halvesT : List M → (M → Prop) → Prop
  | [.agg [.ints .u64 4 a]], K => L4 a ∧ K (w8 (H (N a)))
  | _, _ => False
theorem halves_ok : POK Try.prog 55 halvesT := by
  intro ms K h
  unfold halvesT at h ⊢
  split at h
  · exact ⟨_, h.2, (halves_spec h.1), rfl, fun _ hk => ⟨h.1, hk⟩⟩
  · exact h.elim


theorem whole_spec {a : List Int} (ha : H8 a) : SFun Try.prog 56 [w8 a] (w4 (L (num N32 a))) := by
  refine SFun.inl [] SOK.nil tok mixed [] IOK.nil true [] [] Try.call56 Try.func56 rfl (by rfl) ?_
  refine Eq.mp (α := (And ((0 : Int) ≤ (0 : Int)) (And (Int.toNat (0 : Int) < (8 : Nat)) (And (Int.toNat (0 : Int) < (8 : Nat)) (And ((0 : Int) ≤ (1 : Int)) (And (Int.toNat (1 : Int) < (8 : Nat)) (And (Int.toNat (1 : Int) < (8 : Nat)) (And ((0 : Int) ≤ (0 : Int)) (And (Int.toNat (0 : Int) < (4 : Nat)) (And (Int.toNat (0 : Int) < (4 : Nat)) (And ((0 : Int) ≤ (2 : Int)) (And (Int.toNat (2 : Int) < (8 : Nat)) (And (Int.toNat (2 : Int) < (8 : Nat)) (And ((0 : Int) ≤ (3 : Int)) (And (Int.toNat (3 : Int) < (8 : Nat)) (And (Int.toNat (3 : Int) < (8 : Nat)) (And ((0 : Int) ≤ (1 : Int)) (And (Int.toNat (1 : Int) < (4 : Nat)) (And (Int.toNat (1 : Int) < (4 : Nat)) (And ((0 : Int) ≤ (4 : Int)) (And (Int.toNat (4 : Int) < (8 : Nat)) (And (Int.toNat (4 : Int) < (8 : Nat)) (And ((0 : Int) ≤ (5 : Int)) (And (Int.toNat (5 : Int) < (8 : Nat)) (And (Int.toNat (5 : Int) < (8 : Nat)) (And ((0 : Int) ≤ (2 : Int)) (And (Int.toNat (2 : Int) < (4 : Nat)) (And (Int.toNat (2 : Int) < (4 : Nat)) (And ((0 : Int) ≤ (6 : Int)) (And (Int.toNat (6 : Int) < (8 : Nat)) (And (Int.toNat (6 : Int) < (8 : Nat)) (And ((0 : Int) ≤ (7 : Int)) (And (Int.toNat (7 : Int) < (8 : Nat)) (And (Int.toNat (7 : Int) < (8 : Nat)) (And ((0 : Int) ≤ (3 : Int)) (And (Int.toNat (3 : Int) < (4 : Nat)) (And (Int.toNat (3 : Int) < (4 : Nat)) (And (M.agg [SV.ints IntKind.u64 (4 : Nat) (List.set (List.set (List.set (List.set (List.replicate (4 : Nat) (0 : Int)) (Int.toNat (0 : Int)) (IntKind.wrap IntKind.u64 (List.getD a (Int.toNat (0 : Int)) (0 : Int) + IntKind.wrap IntKind.u64 (List.getD a (Int.toNat (1 : Int)) (0 : Int) * (4294967296 : Int))))) (Int.toNat (1 : Int)) (IntKind.wrap IntKind.u64 (List.getD a (Int.toNat (2 : Int)) (0 : Int) + IntKind.wrap IntKind.u64 (List.getD a (Int.toNat (3 : Int)) (0 : Int) * (4294967296 : Int))))) (Int.toNat (2 : Int)) (IntKind.wrap IntKind.u64 (List.getD a (Int.toNat (4 : Int)) (0 : Int) + IntKind.wrap IntKind.u64 (List.getD a (Int.toNat (5 : Int)) (0 : Int) * (4294967296 : Int))))) (Int.toNat (3 : Int)) (IntKind.wrap IntKind.u64 (List.getD a (Int.toNat (6 : Int)) (0 : Int) + IntKind.wrap IntKind.u64 (List.getD a (Int.toNat (7 : Int)) (0 : Int) * (4294967296 : Int)))))] = M.agg [SV.ints IntKind.u64 (4 : Nat) (L (num N32 a))]) ((true : Bool) = true))))))))))))))))))))))))))))))))))))))) (by kernel_rfl) ?_
  obtain ⟨h1, h2⟩ := ha
  match a, h1 with
  | [a0, a1, a2, a3, a4, a5, a6, a7], _ =>
  simp only [Dig.cons] at h2
  obtain ⟨g0, g1, g2, g3, g4, g5, g6, g7, -⟩ := h2
  simp only [Int.reduceToNat, List.reduceReplicate, List.set_cons_succ, List.set_cons_zero, List.getD_cons_succ, List.getD_cons_zero]
  have ew : ∀ x y : Int, 0 ≤ x ∧ x < (N32 : Int) → 0 ≤ y ∧ y < (N32 : Int) → IntKind.u64.wrap (x + IntKind.u64.wrap (y * 4294967296)) = ((x.toNat + 4294967296 * y.toNat : Nat) : Int) ∧ Wd (((x.toNat + 4294967296 * y.toNat : Nat) : Int)) := by
    intro x y hx hy
    simp only [N32] at *
    rw [wrap_u64, wrap_u64]
    refine ⟨by omega, by omega, by omega⟩
  obtain ⟨e0, w0⟩ := ew a0 a1 g0 g1
  obtain ⟨e1, w1⟩ := ew a2 a3 g2 g3
  obtain ⟨e2, w2⟩ := ew a4 a5 g4 g5
  obtain ⟨e3, w3⟩ := ew a6 a7 g6 g7
  rw [e0, e1, e2, e3]
  have he := L_eq (L4.of w0 w1 w2 w3) (n := num N32 [a0, a1, a2, a3, a4, a5, a6, a7]) (by
    simp only [N4, num, N32, N64, Int.toNat_natCast]
    omega)
  rw [he]
  repeat' first | decide | exact trivial | refine And.intro ?_ ?_ | with_reducible refine bif_dt (by assumption) ?_ | with_reducible refine bif_df (by assumption) ?_ | with_reducible refine bif_dec (fun _ => ?_) (fun _ => ?_) | with_reducible refine bif_not ?_ | with_reducible refine bif_and ?_ | with_reducible refine bif_or ?_ | with_reducible refine bif_t (by assumption) ?_ | with_reducible refine bif_f (by assumption) ?_ | with_reducible refine bif_t (beq_self_eq_true _) ?_ | with_reducible refine bif_b (fun _ => ?_) (fun _ => ?_) | with_reducible refine ⟨_, Eq.refl (List.map _ _), ?_⟩ | (with_reducible refine Exists.intro (by omega) ?_) | rfl | (intro h0; omega) | omega
def wholeT : List M → (M → Prop) → Prop
  | [.agg [.ints .u64 8 a]], K => H8 a ∧ K (w4 (L (num N32 a)))
  | _, _ => False
theorem whole_ok : POK Try.prog 56 wholeT := by
  intro ms K h
  unfold wholeT at h ⊢
  split at h
  · exact ⟨_, h.2, (whole_spec h.1), rfl, fun _ hk => ⟨h.1, hk⟩⟩
  · exact h.elim


theorem rcmp_spec {a b : List Int} (ha : L4 a) (hb : L4 b) : SFun Try.prog 28 [w4 a, w4 b] (int (cmpR (N a) (N b))) := by
  refine SFun.inl [] SOK.nil tok mixed [] IOK.nil true [] [] Try.call28 Try.func28 rfl (by rfl) ?_
  refine Eq.mp (α := (And ((0 : Int) ≤ (3 : Int)) (And (Int.toNat (3 : Int) < (4 : Nat)) (And (Int.toNat (3 : Int) < (4 : Nat)) (And ((0 : Int) ≤ (3 : Int)) (And (Int.toNat (3 : Int) < (4 : Nat)) (And (Int.toNat (3 : Int) < (4 : Nat)) (@Bool.rec (fun _ => Prop) (And ((0 : Int) ≤ (3 : Int)) (And (Int.toNat (3 : Int) < (4 : Nat)) (And (Int.toNat (3 : Int) < (4 : Nat)) (And ((0 : Int) ≤ (3 : Int)) (And (Int.toNat (3 : Int) < (4 : Nat)) (And (Int.toNat (3 : Int) < (4 : Nat)) (@Bool.rec (fun _ => Prop) (And ((0 : Int) ≤ (2 : Int)) (And (Int.toNat (2 : Int) < (4 : Nat)) (And (Int.toNat (2 : Int) < (4 : Nat)) (And ((0 : Int) ≤ (2 : Int)) (And (Int.toNat (2 : Int) < (4 : Nat)) (And (Int.toNat (2 : Int) < (4 : Nat)) (@Bool.rec (fun _ => Prop) (And ((0 : Int) ≤ (2 : Int)) (And (Int.toNat (2 : Int) < (4 : Nat)) (And (Int.toNat (2 : Int) < (4 : Nat)) (And ((0 : Int) ≤ (2 : Int)) (And (Int.toNat (2 : Int) < (4 : Nat)) (And (Int.toNat (2 : Int) < (4 : Nat)) (@Bool.rec (fun _ => Prop) (And ((0 : Int) ≤ (1 : Int)) (And (Int.toNat (1 : Int) < (4 : Nat)) (And (Int.toNat (1 : Int) < (4 : Nat)) (And ((0 : Int) ≤ (1 : Int)) (And (Int.toNat (1 : Int) < (4 : Nat)) (And (Int.toNat (1 : Int) < (4 : Nat)) (@Bool.rec (fun _ => Prop) (And ((0 : Int) ≤ (1 : Int)) (And (Int.toNat (1 : Int) < (4 : Nat)) (And (Int.toNat (1 : Int) < (4 : Nat)) (And ((0 : Int) ≤ (1 : Int)) (And (Int.toNat (1 : Int) < (4 : Nat)) (And (Int.toNat (1 : Int) < (4 : Nat)) (@Bool.rec (fun _ => Prop) (And ((0 : Int) ≤ (0 : Int)) (And (Int.toNat (0 : Int) < (4 : Nat)) (And (Int.toNat (0 : Int) < (4 : Nat)) (And ((0 : Int) ≤ (0 : Int)) (And (Int.toNat (0 : Int) < (4 : Nat)) (And (Int.toNat (0 : Int) < (4 : Nat)) (@Bool.rec (fun _ => Prop) (And ((0 : Int) ≤ (0 : Int)) (And (Int.toNat (0 : Int) < (4 : Nat)) (And (Int.toNat (0 : Int) < (4 : Nat)) (And ((0 : Int) ≤ (0 : Int)) (And (Int.toNat (0 : Int) < (4 : Nat)) (And (Int.toNat (0 : Int) < (4 : Nat)) (@Bool.rec (fun _ => Prop) (And (M.one (SV.v (Value.int IntKind.i64 (0 : Int))) = M.one (SV.v (Value.int IntKind.i64 (cmpR (N a) (N b))))) ((true : Bool) = true)) (And (M.one (SV.v (Value.int IntKind.i64 (1 : Int))) = M.one (SV.v (Value.int IntKind.i64 (cmpR (N a) (N b))))) ((true : Bool) = true)) (decide (List.getD b (Int.toNat (0 : Int)) (0 : Int) < List.getD a (Int.toNat (0 : Int)) (0 : Int)))))))))) (And (M.one (SV.v (Value.int IntKind.i64 (-1 : Int))) = M.one (SV.v (Value.int IntKind.i64 (cmpR (N a) (N b))))) ((true : Bool) = true)) (decide (List.getD a (Int.toNat (0 : Int)) (0 : Int) < List.getD b (Int.toNat (0 : Int)) (0 : Int)))))))))) (And (M.one (SV.v (Value.int IntKind.i64 (1 : Int))) = M.one (SV.v (Value.int IntKind.i64 (cmpR (N a) (N b))))) ((true : Bool) = true)) (decide (List.getD b (Int.toNat (1 : Int)) (0 : Int) < List.getD a (Int.toNat (1 : Int)) (0 : Int)))))))))) (And (M.one (SV.v (Value.int IntKind.i64 (-1 : Int))) = M.one (SV.v (Value.int IntKind.i64 (cmpR (N a) (N b))))) ((true : Bool) = true)) (decide (List.getD a (Int.toNat (1 : Int)) (0 : Int) < List.getD b (Int.toNat (1 : Int)) (0 : Int)))))))))) (And (M.one (SV.v (Value.int IntKind.i64 (1 : Int))) = M.one (SV.v (Value.int IntKind.i64 (cmpR (N a) (N b))))) ((true : Bool) = true)) (decide (List.getD b (Int.toNat (2 : Int)) (0 : Int) < List.getD a (Int.toNat (2 : Int)) (0 : Int)))))))))) (And (M.one (SV.v (Value.int IntKind.i64 (-1 : Int))) = M.one (SV.v (Value.int IntKind.i64 (cmpR (N a) (N b))))) ((true : Bool) = true)) (decide (List.getD a (Int.toNat (2 : Int)) (0 : Int) < List.getD b (Int.toNat (2 : Int)) (0 : Int)))))))))) (And (M.one (SV.v (Value.int IntKind.i64 (1 : Int))) = M.one (SV.v (Value.int IntKind.i64 (cmpR (N a) (N b))))) ((true : Bool) = true)) (decide (List.getD b (Int.toNat (3 : Int)) (0 : Int) < List.getD a (Int.toNat (3 : Int)) (0 : Int)))))))))) (And (M.one (SV.v (Value.int IntKind.i64 (-1 : Int))) = M.one (SV.v (Value.int IntKind.i64 (cmpR (N a) (N b))))) ((true : Bool) = true)) (decide (List.getD a (Int.toNat (3 : Int)) (0 : Int) < List.getD b (Int.toNat (3 : Int)) (0 : Int))))))))))) (by kernel_rfl) ?_
  obtain ⟨a0, a1, a2, a3, rfl, g0, g1, g2, g3⟩ := ha.four
  obtain ⟨b0, b1, b2, b3, rfl, k0, k1, k2, k3⟩ := hb.four
  obtain ⟨a0, rfl, p0⟩ := nat_word g0
  obtain ⟨a1, rfl, p1⟩ := nat_word g1
  obtain ⟨a2, rfl, p2⟩ := nat_word g2
  obtain ⟨a3, rfl, p3⟩ := nat_word g3
  obtain ⟨b0, rfl, q0⟩ := nat_word k0
  obtain ⟨b1, rfl, q1⟩ := nat_word k1
  obtain ⟨b2, rfl, q2⟩ := nat_word k2
  obtain ⟨b3, rfl, q3⟩ := nat_word k3
  simp only [Int.reduceToNat, List.reduceReplicate, List.set_cons_succ, List.set_cons_zero, List.getD_cons_succ, List.getD_cons_zero]
  simp only [N4, N64, Int.toNat_natCast, Nat.mul_zero, Nat.add_zero]
  have key : ∀ v : Int, ((a0 + 18446744073709551616 * (a1 + 18446744073709551616 * (a2 + 18446744073709551616 * a3)) = b0 + 18446744073709551616 * (b1 + 18446744073709551616 * (b2 + 18446744073709551616 * b3)) ∧ v = 0) ∨ (a0 + 18446744073709551616 * (a1 + 18446744073709551616 * (a2 + 18446744073709551616 * a3)) < b0 + 18446744073709551616 * (b1 + 18446744073709551616 * (b2 + 18446744073709551616 * b3)) ∧ v = -1) ∨ (b0 + 18446744073709551616 * (b1 + 18446744073709551616 * (b2 + 18446744073709551616 * b3)) < a0 + 18446744073709551616 * (a1 + 18446744073709551616 * (a2 + 18446744073709551616 * a3)) ∧ v = 1)) →
      M.one (SV.v (Value.int IntKind.i64 v)) = M.one (SV.v (Value.int IntKind.i64 (cmpR (a0 + 18446744073709551616 * (a1 + 18446744073709551616 * (a2 + 18446744073709551616 * a3))) (b0 + 18446744073709551616 * (b1 + 18446744073709551616 * (b2 + 18446744073709551616 * b3)))))) := by
    intro v h
    generalize a0 + 18446744073709551616 * (a1 + 18446744073709551616 * (a2 + 18446744073709551616 * a3)) = x at *
    generalize b0 + 18446744073709551616 * (b1 + 18446744073709551616 * (b2 + 18446744073709551616 * b3)) = y at *
    have : v = cmpR x y := by
      unfold cmpR
      rcases h with ⟨h, rfl⟩ | ⟨h, rfl⟩ | ⟨h, rfl⟩
      · rw [decide_eq_true h]; rfl
      · rw [decide_eq_false (by omega), decide_eq_true h]; rfl
      · rw [decide_eq_false (by omega), decide_eq_false (by omega)]; rfl
    rw [this]
  have lt : ∀ v : Int, v = -1 → (a3 < b3 ∨ a3 = b3 ∧ (a2 < b2 ∨ a2 = b2 ∧ (a1 < b1 ∨ a1 = b1 ∧ a0 < b0))) → a0 + 18446744073709551616 * (a1 + 18446744073709551616 * (a2 + 18446744073709551616 * a3)) < b0 + 18446744073709551616 * (b1 + 18446744073709551616 * (b2 + 18446744073709551616 * b3)) := by
    intro v _ h
    clear key
    rcases h with h | ⟨h3, h | ⟨h2, h | ⟨h1, h⟩⟩⟩ <;> omega
  have gt : ∀ v : Int, v = 1 → (b3 < a3 ∨ a3 = b3 ∧ (b2 < a2 ∨ a2 = b2 ∧ (b1 < a1 ∨ a1 = b1 ∧ b0 < a0))) → b0 + 18446744073709551616 * (b1 + 18446744073709551616 * (b2 + 18446744073709551616 * b3)) < a0 + 18446744073709551616 * (a1 + 18446744073709551616 * (a2 + 18446744073709551616 * a3)) := by
    intro v _ h
    clear key lt
    rcases h with h | ⟨h3, h | ⟨h2, h | ⟨h1, h⟩⟩⟩ <;> omega
  repeat' first | exact key _ (.inr (.inl ⟨lt (-1) rfl (by omega), rfl⟩)) | exact key _ (.inr (.inr ⟨gt 1 rfl (by omega), rfl⟩)) | exact key _ (.inl ⟨by rw [show a0 = b0 by omega, show a1 = b1 by omega, show a2 = b2 by omega, show a3 = b3 by omega], rfl⟩) | exact trivial | refine And.intro ?_ ?_ | with_reducible refine bif_dt (by assumption) ?_ | with_reducible refine bif_df (by assumption) ?_ | with_reducible refine bif_dec (fun _ => ?_) (fun _ => ?_) | with_reducible refine bif_not ?_ | with_reducible refine bif_and ?_ | with_reducible refine bif_or ?_ | with_reducible refine bif_t (by assumption) ?_ | with_reducible refine bif_f (by assumption) ?_ | with_reducible refine bif_t (beq_self_eq_true _) ?_ | with_reducible refine bif_b (fun _ => ?_) (fun _ => ?_) | with_reducible refine ⟨_, Eq.refl (List.map _ _), ?_⟩ | (with_reducible refine Exists.intro (by omega) ?_) | rfl | (intro h0; omega) | omega
def rcmpT : List M → (M → Prop) → Prop
  | [.agg [.ints .u64 4 a], .agg [.ints .u64 4 b]], K => (L4 a ∧ L4 b) ∧ K (int (cmpR (N a) (N b)))
  | _, _ => False
theorem rcmp_ok : POK Try.prog 28 rcmpT := by
  intro ms K h
  unfold rcmpT at h ⊢
  split at h
  · exact ⟨_, h.2, (rcmp_spec h.1.1 h.1.2), rfl, fun _ hk => ⟨h.1, hk⟩⟩
  · exact h.elim


theorem rof_spec {n : Int} (h : Wd n) : SFun Try.prog 30 [u64 n] (w4 (L n.toNat)) := by
  have e : L n.toNat = [n, 0, 0, 0] := by
    have := L_N (L4.of h ⟨Int.le_refl 0, by decide⟩ ⟨Int.le_refl 0, by decide⟩ ⟨Int.le_refl 0, by decide⟩)
    rwa [N4] at this
  rw [e]
  refine SFun.inl [] SOK.nil tok mixed [] IOK.nil true [] [] Try.call30 Try.func30 rfl (by rfl) ?_
  refine Eq.mp (α := (And (M.agg [SV.ints IntKind.u64 (4 : Nat) (List.set (List.replicate (4 : Nat) (0 : Int)) ((0 : Nat) * (1 : Nat)) n)] = M.agg [SV.ints IntKind.u64 (4 : Nat) [n, (0 : Int), (0 : Int), (0 : Int)]]) ((true : Bool) = true))) (by kernel_rfl) ?_
  repeat' first | exact trivial | refine And.intro ?_ ?_ | with_reducible refine bif_dt (by assumption) ?_ | with_reducible refine bif_df (by assumption) ?_ | with_reducible refine bif_dec (fun _ => ?_) (fun _ => ?_) | with_reducible refine bif_not ?_ | with_reducible refine bif_and ?_ | with_reducible refine bif_or ?_ | with_reducible refine bif_t (by assumption) ?_ | with_reducible refine bif_f (by assumption) ?_ | with_reducible refine bif_t (beq_self_eq_true _) ?_ | with_reducible refine bif_b (fun _ => ?_) (fun _ => ?_) | with_reducible refine ⟨_, Eq.refl (List.map _ _), ?_⟩ | (with_reducible refine Exists.intro (by omega) ?_) | rfl | (intro h0; omega) | omega
def rofT : List M → (M → Prop) → Prop
  | [.one (.v (.int .u64 n))], K => Wd n ∧ K (w4 (L n.toNat))
  | _, _ => False
theorem rof_ok : POK Try.prog 30 rofT := by
  intro ms K h
  unfold rofT at h ⊢
  split at h
  · exact ⟨_, h.2, (rof_spec h.1), rfl, fun _ hk => ⟨h.1, hk⟩⟩
  · exact h.elim


theorem rlow_spec {a : List Int} (ha : L4 a) : SFun Try.prog 27 [w4 a] (.tup [u64 (lowR (N a)).1, bool (lowR (N a)).2]) := by
  refine SFun.inl [] SOK.nil tok mixed [] IOK.nil true [] [] Try.call27 Try.func27 rfl (by rfl) ?_
  refine Eq.mp (α := (And ((0 : Int) ≤ (1 : Int)) (And (Int.toNat (1 : Int) < (4 : Nat)) (And (Int.toNat (1 : Int) < (4 : Nat)) (@Bool.rec (fun _ => Prop) (And ((0 : Int) ≤ (2 : Int)) (And (Int.toNat (2 : Int) < (4 : Nat)) (And (Int.toNat (2 : Int) < (4 : Nat)) (@Bool.rec (fun _ => Prop) (And ((0 : Int) ≤ (3 : Int)) (And (Int.toNat (3 : Int) < (4 : Nat)) (And (Int.toNat (3 : Int) < (4 : Nat)) (@Bool.rec (fun _ => Prop) (And ((0 : Int) ≤ (0 : Int)) (And (Int.toNat (0 : Int) < (4 : Nat)) (And (Int.toNat (0 : Int) < (4 : Nat)) (And (M.tup [M.one (SV.v (Value.int IntKind.u64 (List.getD a (Int.toNat (0 : Int)) (0 : Int)))), M.one (SV.v (Value.bool true))] = M.tup [M.one (SV.v (Value.int IntKind.u64 (Prod.fst (lowR (N a))))), M.one (SV.v (Value.bool (Prod.snd (lowR (N a)))))]) ((true : Bool) = true))))) (And (M.tup [M.one (SV.v (Value.int IntKind.u64 (0 : Int))), M.one (SV.v (Value.bool false))] = M.tup [M.one (SV.v (Value.int IntKind.u64 (Prod.fst (lowR (N a))))), M.one (SV.v (Value.bool (Prod.snd (lowR (N a)))))]) ((true : Bool) = true)) (List.getD a (Int.toNat (3 : Int)) (0 : Int) != (0 : Int)))))) (And (M.tup [M.one (SV.v (Value.int IntKind.u64 (0 : Int))), M.one (SV.v (Value.bool false))] = M.tup [M.one (SV.v (Value.int IntKind.u64 (Prod.fst (lowR (N a))))), M.one (SV.v (Value.bool (Prod.snd (lowR (N a)))))]) ((true : Bool) = true)) (List.getD a (Int.toNat (2 : Int)) (0 : Int) != (0 : Int)))))) (And (M.tup [M.one (SV.v (Value.int IntKind.u64 (0 : Int))), M.one (SV.v (Value.bool false))] = M.tup [M.one (SV.v (Value.int IntKind.u64 (Prod.fst (lowR (N a))))), M.one (SV.v (Value.bool (Prod.snd (lowR (N a)))))]) ((true : Bool) = true)) (List.getD a (Int.toNat (1 : Int)) (0 : Int) != (0 : Int))))))) (by kernel_rfl) ?_
  obtain ⟨a0, a1, a2, a3, rfl, ⟨p0, p1⟩, ⟨p2, p3⟩, ⟨p4, p5⟩, ⟨p6, p7⟩⟩ := ha.four
  simp only [Int.reduceToNat, List.reduceReplicate, List.set_cons_succ, List.set_cons_zero, List.getD_cons_succ, List.getD_cons_zero]
  have bn : ∀ x : Int, (x != 0) = decide (x ≠ 0) := fun x => by by_cases h : x = 0 <;> simp [h]
  simp only [bn]
  unfold lowR
  have hN := N4 a0 a1 a2 a3
  repeat' first | exact trivial | refine And.intro ?_ ?_ | with_reducible refine bif_dt (by assumption) ?_ | with_reducible refine bif_df (by assumption) ?_ | with_reducible refine bif_dec (fun _ => ?_) (fun _ => ?_) | with_reducible refine bif_not ?_ | with_reducible refine bif_and ?_ | with_reducible refine bif_or ?_ | with_reducible refine bif_t (by assumption) ?_ | with_reducible refine bif_f (by assumption) ?_ | with_reducible refine bif_t (beq_self_eq_true _) ?_ | with_reducible refine bif_b (fun _ => ?_) (fun _ => ?_) | with_reducible refine ⟨_, Eq.refl (List.map _ _), ?_⟩ | (with_reducible refine Exists.intro (by omega) ?_) | rfl | (intro h0; omega) | omega
  all_goals simp only [N64] at *
  all_goals first
    | (rw [decide_eq_false (show ¬ N [a0, a1, a2, a3] < 18446744073709551616 by omega)]; rfl)
    | (rw [decide_eq_true (show N [a0, a1, a2, a3] < 18446744073709551616 by omega), cond_true, show ((N [a0, a1, a2, a3] : Nat) : Int) = a0 by omega])
def rlowT : List M → (M → Prop) → Prop
  | [.agg [.ints .u64 4 a]], K => L4 a ∧ K (.tup [u64 (lowR (N a)).1, bool (lowR (N a)).2])
  | _, _ => False
theorem rlow_ok : POK Try.prog 27 rlowT := by
  intro ms K h
  unfold rlowT at h ⊢
  split at h
  · exact ⟨_, h.2, (rlow_spec h.1), rfl, fun _ hk => ⟨h.1, hk⟩⟩
  · exact h.elim

end Go.Proofs.Ytjdlefkpoggocaa
