/- The document's functions: sums and differences. -/
import Derived.Test.YtjdlefkpoggocaaQ26
import Derived.Test.YtjdlefkpoggocaaSx22
namespace Go.Proofs.Ytjdlefkpoggocaa
open Go Go.Sx Go.Wide
set_option linter.unusedVariables false
set_option linter.unusedSimpArgs false
set_option maxRecDepth 100000
set_option maxHeartbeats 4000000

def AIT (x : Nat) (Y : List Int) : Type := { p : Nat × List Int × Nat // AI x Y p.1 p.2.1 p.2.2 }
def SIT (x : Nat) (Y : List Int) : Type := { p : Nat × List Int × Nat // SI x Y p.1 p.2.1 p.2.2 }

theorem ladd {c o y : Nat} (ho : o < N32) (hy : y < N32) (hc : c ≤ 1) : IntKind.u64.wrap (IntKind.u64.wrap ((c : Int) + (o : Int)) + (y : Int)) = ((c + o + y : Nat) : Int) := by
  simp only [N32] at *
  rw [wrap_u64, wrap_u64]
  omega
theorem ltmod (n : Nat) : Int.tmod (n : Int) 4294967296 = ((n % N32 : Nat) : Int) := rfl
theorem ltdiv {n : Nat} (h : n < 18446744073709551616) : IntKind.u64.wrap (Int.tdiv (n : Int) 4294967296) = ((n / N32 : Nat) : Int) := by
  have : Int.tdiv (n : Int) 4294967296 = ((n / 4294967296 : Nat) : Int) := rfl
  rw [this, wrapn (by omega)]
theorem lsub {c o y : Nat} (ho : o < N32) (hy : y < N32) (hc : c ≤ 1) : IntKind.u64.wrap (IntKind.u64.wrap (IntKind.u64.wrap ((o : Int) + 4294967296) - (y : Int)) - (c : Int)) = ((o + N32 - y - c : Nat) : Int) := by
  simp only [N32] at *
  rw [wrap_u64, wrap_u64, wrap_u64]
  omega
theorem lone {q : Nat} (h : q ≤ 1) : IntKind.u64.wrap (1 - (q : Int)) = ((1 - q : Nat) : Int) := by
  rw [wrap_u64]
  omega
theorem lnext {i : Nat} (h : i < 8) : IntKind.i64.wrap ((i : Int) + 1) = ((i + 1 : Nat) : Int) := by rw [wrap64 (by omega) (by omega)]; omega

theorem radd_spec {a b : List Int} (ha : L4 a) (hb : L4 b) : SFun Try.prog 24 [w4 a, w4 b] (.tup [w4 (L (addR (N a) (N b)).1), int (addR (N a) (N b)).2]) := by
  refine SFun.inl [(55, halvesT), (56, wholeT)] (SOK.cons halves_ok (SOK.cons whole_ok SOK.nil)) tok mixed [] IOK.nil true [(5, ⟨AIT (N a) (H (N b)), fun p => ⟨5, [(2, .one (.ptr 0 0)), (3, .one (.ptr 1 0)), (4, .one (.ptr 2 0)), (5, int 0), (6, .one (.ptr 3 0)), (7, .one (.ptr 4 0)), (8, u64 p.1.2.2), (9, int p.1.1)], [(2, .cells [.ints .u64 4 [0, 0, 0, 0]]), (3, .cells [.ints .u64 8 p.1.2.1]), (4, .cells [.ints .u64 8 (H (N b))])]⟩, fun p => 8 - p.1.1, fun _ _ => True⟩)] [] Try.call24 Try.func24 rfl (by rfl) ?_
  refine Eq.mp (α := (And (And (List.length a = (4 : Nat)) (∀ x : Int, (∀ a_1 : x ∈ a, (And ((0 : Int) ≤ x) (x < (↑N64 : Int)))))) (And (And (List.length b = (4 : Nat)) (∀ x : Int, (∀ a_1 : x ∈ b, (And ((0 : Int) ≤ x) (x < (↑N64 : Int)))))) (∃ i0 : AIT (N a) (H (N b)), (And (And True (And (And (And ((true : Bool) = true) ((0 : Nat) = (0 : Nat))) (And (And ((true : Bool) = true) ((0 : Nat) = (0 : Nat))) (And (And ((true : Bool) = true) ((0 : Nat) = (0 : Nat))) (And ((0 : Int) = (0 : Int)) (And (And ((true : Bool) = true) ((0 : Nat) = (0 : Nat))) (And (And ((true : Bool) = true) ((0 : Nat) = (0 : Nat))) (And ((↑(Prod.snd (Prod.snd (Subtype.val i0))) : Int) = (0 : Int)) (And ((↑(Prod.fst (Subtype.val i0)) : Int) = (0 : Int)) True)))))))) (And (And (And ([(0 : Int), (0 : Int), (0 : Int), (0 : Int)] = List.replicate (4 : Nat) (0 : Int)) True) (And ((true : Bool) = true) (And (And (Prod.fst (Prod.snd (Subtype.val i0)) = H (N a)) True) (And ((true : Bool) = true) (And (And (H (N b) = H (N b)) True) (And ((true : Bool) = true) True)))))) ((true : Bool) = true)))) (∀ i : AIT (N a) (H (N b)), (∀ a_1 : True, (@Bool.rec (fun _ => Prop) (@Bool.rec (fun _ => Prop) (And (And (List.length (Prod.fst (Prod.snd (Subtype.val i))) = (8 : Nat)) (∀ x : Int, (∀ a_2 : x ∈ Prod.fst (Prod.snd (Subtype.val i)), (And ((0 : Int) ≤ x) (x < (↑N32 : Int)))))) (And (M.tup [M.agg [SV.ints IntKind.u64 (4 : Nat) (L (num N32 (Prod.fst (Prod.snd (Subtype.val i)))))], M.one (SV.v (Value.int IntKind.i64 (0 : Int)))] = M.tup [M.agg [SV.ints IntKind.u64 (4 : Nat) (L (Prod.fst (addR (N a) (N b))))], M.one (SV.v (Value.int IntKind.i64 (Prod.snd (addR (N a) (N b)))))]) ((true : Bool) = true))) (And (M.tup [M.agg [SV.ints IntKind.u64 (4 : Nat) (List.replicate (4 : Nat) (0 : Int))], M.one (SV.v (Value.int IntKind.i64 (30 : Int)))] = M.tup [M.agg [SV.ints IntKind.u64 (4 : Nat) (L (Prod.fst (addR (N a) (N b))))], M.one (SV.v (Value.int IntKind.i64 (Prod.snd (addR (N a) (N b)))))]) ((true : Bool) = true)) (decide ((0 : Int) < (↑(Prod.snd (Prod.snd (Subtype.val i))) : Int)))) (And ((0 : Int) ≤ (↑(Prod.fst (Subtype.val i)) : Int)) (And (Int.toNat (↑(Prod.fst (Subtype.val i)) : Int) < (8 : Nat)) (And (Int.toNat (↑(Prod.fst (Subtype.val i)) : Int) < (8 : Nat)) (And ((0 : Int) ≤ (↑(Prod.fst (Subtype.val i)) : Int)) (And (Int.toNat (↑(Prod.fst (Subtype.val i)) : Int) < (8 : Nat)) (And (Int.toNat (↑(Prod.fst (Subtype.val i)) : Int) < (8 : Nat)) (And ((4294967296 : Int) ≠ (0 : Int)) (And ((0 : Int) ≤ (↑(Prod.fst (Subtype.val i)) : Int)) (And (Int.toNat (↑(Prod.fst (Subtype.val i)) : Int) < (8 : Nat)) (And (Int.toNat (↑(Prod.fst (Subtype.val i)) : Int) < (8 : Nat)) (And ((4294967296 : Int) ≠ (0 : Int)) (∃ i' : AIT (N a) (H (N b)), (And (And ((8 : Nat) - Prod.fst (Subtype.val i') < (8 : Nat) - Prod.fst (Subtype.val i)) True) (And (And (And ((true : Bool) = true) ((0 : Nat) = (0 : Nat))) (And (And ((true : Bool) = true) ((0 : Nat) = (0 : Nat))) (And (And ((true : Bool) = true) ((0 : Nat) = (0 : Nat))) (And ((0 : Int) = (0 : Int)) (And (And ((true : Bool) = true) ((0 : Nat) = (0 : Nat))) (And (And ((true : Bool) = true) ((0 : Nat) = (0 : Nat))) (And ((↑(Prod.snd (Prod.snd (Subtype.val i'))) : Int) = IntKind.wrap IntKind.u64 (Int.tdiv (IntKind.wrap IntKind.u64 (IntKind.wrap IntKind.u64 ((↑(Prod.snd (Prod.snd (Subtype.val i))) : Int) + List.getD (Prod.fst (Prod.snd (Subtype.val i))) (Int.toNat (↑(Prod.fst (Subtype.val i)) : Int)) (0 : Int)) + List.getD (H (N b)) (Int.toNat (↑(Prod.fst (Subtype.val i)) : Int)) (0 : Int))) (4294967296 : Int))) (And ((↑(Prod.fst (Subtype.val i')) : Int) = IntKind.wrap IntKind.i64 ((↑(Prod.fst (Subtype.val i)) : Int) + (1 : Int))) True)))))))) (And (And (And ([(0 : Int), (0 : Int), (0 : Int), (0 : Int)] = [(0 : Int), (0 : Int), (0 : Int), (0 : Int)]) True) (And ((true : Bool) = true) (And (And (Prod.fst (Prod.snd (Subtype.val i')) = List.set (Prod.fst (Prod.snd (Subtype.val i))) (Int.toNat (↑(Prod.fst (Subtype.val i)) : Int)) (Int.tmod (IntKind.wrap IntKind.u64 (IntKind.wrap IntKind.u64 ((↑(Prod.snd (Prod.snd (Subtype.val i))) : Int) + List.getD (Prod.fst (Prod.snd (Subtype.val i))) (Int.toNat (↑(Prod.fst (Subtype.val i)) : Int)) (0 : Int)) + List.getD (H (N b)) (Int.toNat (↑(Prod.fst (Subtype.val i)) : Int)) (0 : Int))) (4294967296 : Int))) True) (And ((true : Bool) = true) (And (And (H (N b) = H (N b)) True) (And ((true : Bool) = true) True)))))) ((true : Bool) = true)))))))))))))))) (decide ((↑(Prod.fst (Subtype.val i)) : Int) < (8 : Int))))))))))) (by kernel_rfl) ?_
  have hNa := num_H (N_lt ha)
  have hNb := num_H (N_lt hb)
  refine ⟨ha, hb, ⟨(0, H (N a), 0), by have := AI.start (Y := H (N b)) (H8_H (N a)).1 (H8_H (N a)).2; rwa [hNa] at this⟩, ?_, ?_⟩
  ·
    repeat' first | exact trivial | refine And.intro ?_ ?_ | with_reducible refine bif_dt (by assumption) ?_ | with_reducible refine bif_df (by assumption) ?_ | with_reducible refine bif_dec (fun _ => ?_) (fun _ => ?_) | with_reducible refine bif_not ?_ | with_reducible refine bif_and ?_ | with_reducible refine bif_or ?_ | with_reducible refine bif_t (by assumption) ?_ | with_reducible refine bif_f (by assumption) ?_ | with_reducible refine bif_t (beq_self_eq_true _) ?_ | with_reducible refine bif_b (fun _ => ?_) (fun _ => ?_) | with_reducible refine ⟨_, Eq.refl (List.map _ _), ?_⟩ | (with_reducible refine Exists.intro (by omega) ?_) | rfl | (intro h0; omega) | omega
  rintro ⟨⟨i, l, c⟩, hI⟩ -
  have hI' : AI (N a) (H (N b)) i l c := hI
  dsimp only
  have hi8 := hI'.1
  have hl8 := hI'.2.1
  refine bif_dec (fun hi => ?_) (fun hi => ?_)
  · obtain ⟨o, y, ho, hy, ho', hy', hc, hn⟩ := hI'.step (H8_H _).1 (H8_H _).2 (by omega)
    have hlen := (H8_H (N b)).1
    simp only [Int.toNat_natCast, ho, hy, ladd ho' hy' hc, ltmod, ltdiv (show c + o + y < 18446744073709551616 by simp only [N32] at *; omega), lnext (show i < 8 by omega)]
    refine ⟨by omega, by omega, by omega, by omega, by omega, by omega, by decide, by omega, by omega, by omega, by decide, ⟨(i + 1, _, _), hn⟩, ⟨show 8 - (i + 1) < 8 - i by omega, trivial⟩, ?_⟩
    repeat' first | exact trivial | refine And.intro ?_ ?_ | with_reducible refine bif_dt (by assumption) ?_ | with_reducible refine bif_df (by assumption) ?_ | with_reducible refine bif_dec (fun _ => ?_) (fun _ => ?_) | with_reducible refine bif_not ?_ | with_reducible refine bif_and ?_ | with_reducible refine bif_or ?_ | with_reducible refine bif_t (by assumption) ?_ | with_reducible refine bif_f (by assumption) ?_ | with_reducible refine bif_t (beq_self_eq_true _) ?_ | with_reducible refine bif_b (fun _ => ?_) (fun _ => ?_) | with_reducible refine ⟨_, Eq.refl (List.map _ _), ?_⟩ | (with_reducible refine Exists.intro (by omega) ?_) | rfl | (intro h0; omega) | omega
  · have he := hI'.end (H8_H _).1 (by omega)
    rw [hNb] at he
    have hlt := num8_lt ⟨hl8, hI'.2.2.1⟩
    unfold addR
    refine bif_dec (fun h0 => ?_) (fun h0 => ?_)
    · have hc1 : c = 1 := by have := hI'.2.2.2.1; omega
      subst hc1
      rw [decide_eq_false (show ¬ N a + N b < T256 by omega)]
      simp only [cond_false, L_zero]
      repeat' first | exact trivial | refine And.intro ?_ ?_ | with_reducible refine bif_dt (by assumption) ?_ | with_reducible refine bif_df (by assumption) ?_ | with_reducible refine bif_dec (fun _ => ?_) (fun _ => ?_) | with_reducible refine bif_not ?_ | with_reducible refine bif_and ?_ | with_reducible refine bif_or ?_ | with_reducible refine bif_t (by assumption) ?_ | with_reducible refine bif_f (by assumption) ?_ | with_reducible refine bif_t (beq_self_eq_true _) ?_ | with_reducible refine bif_b (fun _ => ?_) (fun _ => ?_) | with_reducible refine ⟨_, Eq.refl (List.map _ _), ?_⟩ | (with_reducible refine Exists.intro (by omega) ?_) | rfl | (intro h0; omega) | omega
    · have hc0 : c = 0 := by omega
      subst hc0
      rw [decide_eq_true (show N a + N b < T256 by omega)]
      simp only [cond_true]
      rw [show N a + N b = num N32 l by omega]
      repeat' first | exact ⟨hl8, hI'.2.2.1⟩ | exact trivial | refine And.intro ?_ ?_ | with_reducible refine bif_dt (by assumption) ?_ | with_reducible refine bif_df (by assumption) ?_ | with_reducible refine bif_dec (fun _ => ?_) (fun _ => ?_) | with_reducible refine bif_not ?_ | with_reducible refine bif_and ?_ | with_reducible refine bif_or ?_ | with_reducible refine bif_t (by assumption) ?_ | with_reducible refine bif_f (by assumption) ?_ | with_reducible refine bif_t (beq_self_eq_true _) ?_ | with_reducible refine bif_b (fun _ => ?_) (fun _ => ?_) | with_reducible refine ⟨_, Eq.refl (List.map _ _), ?_⟩ | (with_reducible refine Exists.intro (by omega) ?_) | rfl | (intro h0; omega) | omega
def raddT : List M → (M → Prop) → Prop
  | [.agg [.ints .u64 4 a], .agg [.ints .u64 4 b]], K => (L4 a ∧ L4 b) ∧ K (.tup [w4 (L (addR (N a) (N b)).1), int (addR (N a) (N b)).2])
  | _, _ => False
theorem radd_ok : POK Try.prog 24 raddT := by
  intro ms K h
  unfold raddT at h ⊢
  split at h
  · exact ⟨_, h.2, (radd_spec h.1.1 h.1.2), rfl, fun _ hk => ⟨h.1, hk⟩⟩
  · exact h.elim


theorem rsub_spec {a b : List Int} (ha : L4 a) (hb : L4 b) : SFun Try.prog 25 [w4 a, w4 b] (.tup [w4 (L (subR (N a) (N b)).1), int (subR (N a) (N b)).2]) := by
  refine SFun.inl [(55, halvesT), (56, wholeT), (28, rcmpT)] (SOK.cons halves_ok (SOK.cons whole_ok (SOK.cons rcmp_ok SOK.nil))) tok mixed [] IOK.nil true [(7, ⟨SIT (N a) (H (N b)), fun p => ⟨5, [(2, .one (.ptr 0 0)), (3, .one (.ptr 1 0)), (4, .one (.ptr 2 0)), (5, int 0), (6, .one (.ptr 3 0)), (7, .one (.ptr 4 0)), (8, u64 p.1.2.2), (9, int p.1.1)], [(2, .cells [.ints .u64 4 [0, 0, 0, 0]]), (3, .cells [.ints .u64 8 p.1.2.1]), (4, .cells [.ints .u64 8 (H (N b))])]⟩, fun p => 8 - p.1.1, fun _ _ => True⟩)] [] Try.call25 Try.func25 rfl (by rfl) ?_
  refine Eq.mp (α := (And (And (And (List.length a = (4 : Nat)) (∀ x : Int, (∀ a_1 : x ∈ a, (And ((0 : Int) ≤ x) (x < (↑N64 : Int)))))) (And (List.length b = (4 : Nat)) (∀ x : Int, (∀ a_1 : x ∈ b, (And ((0 : Int) ≤ x) (x < (↑N64 : Int))))))) (@Bool.rec (fun _ => Prop) (And (And (List.length a = (4 : Nat)) (∀ x : Int, (∀ a_1 : x ∈ a, (And ((0 : Int) ≤ x) (x < (↑N64 : Int)))))) (And (And (List.length b = (4 : Nat)) (∀ x : Int, (∀ a_1 : x ∈ b, (And ((0 : Int) ≤ x) (x < (↑N64 : Int)))))) (∃ i0 : SIT (N a) (H (N b)), (And (And True (And (And (And ((true : Bool) = true) ((0 : Nat) = (0 : Nat))) (And (And ((true : Bool) = true) ((0 : Nat) = (0 : Nat))) (And (And ((true : Bool) = true) ((0 : Nat) = (0 : Nat))) (And ((0 : Int) = (0 : Int)) (And (And ((true : Bool) = true) ((0 : Nat) = (0 : Nat))) (And (And ((true : Bool) = true) ((0 : Nat) = (0 : Nat))) (And ((↑(Prod.snd (Prod.snd (Subtype.val i0))) : Int) = (0 : Int)) (And ((↑(Prod.fst (Subtype.val i0)) : Int) = (0 : Int)) True)))))))) (And (And (And ([(0 : Int), (0 : Int), (0 : Int), (0 : Int)] = List.replicate (4 : Nat) (0 : Int)) True) (And ((true : Bool) = true) (And (And (Prod.fst (Prod.snd (Subtype.val i0)) = H (N a)) True) (And ((true : Bool) = true) (And (And (H (N b) = H (N b)) True) (And ((true : Bool) = true) True)))))) ((true : Bool) = true)))) (∀ i : SIT (N a) (H (N b)), (∀ a_1 : True, (@Bool.rec (fun _ => Prop) (And (And (List.length (Prod.fst (Prod.snd (Subtype.val i))) = (8 : Nat)) (∀ x : Int, (∀ a_2 : x ∈ Prod.fst (Prod.snd (Subtype.val i)), (And ((0 : Int) ≤ x) (x < (↑N32 : Int)))))) (And (M.tup [M.agg [SV.ints IntKind.u64 (4 : Nat) (L (num N32 (Prod.fst (Prod.snd (Subtype.val i)))))], M.one (SV.v (Value.int IntKind.i64 (0 : Int)))] = M.tup [M.agg [SV.ints IntKind.u64 (4 : Nat) (L (Prod.fst (subR (N a) (N b))))], M.one (SV.v (Value.int IntKind.i64 (Prod.snd (subR (N a) (N b)))))]) ((true : Bool) = true))) (And ((0 : Int) ≤ (↑(Prod.fst (Subtype.val i)) : Int)) (And (Int.toNat (↑(Prod.fst (Subtype.val i)) : Int) < (8 : Nat)) (And (Int.toNat (↑(Prod.fst (Subtype.val i)) : Int) < (8 : Nat)) (And ((0 : Int) ≤ (↑(Prod.fst (Subtype.val i)) : Int)) (And (Int.toNat (↑(Prod.fst (Subtype.val i)) : Int) < (8 : Nat)) (And (Int.toNat (↑(Prod.fst (Subtype.val i)) : Int) < (8 : Nat)) (And ((4294967296 : Int) ≠ (0 : Int)) (And ((0 : Int) ≤ (↑(Prod.fst (Subtype.val i)) : Int)) (And (Int.toNat (↑(Prod.fst (Subtype.val i)) : Int) < (8 : Nat)) (And (Int.toNat (↑(Prod.fst (Subtype.val i)) : Int) < (8 : Nat)) (And ((4294967296 : Int) ≠ (0 : Int)) (∃ i' : SIT (N a) (H (N b)), (And (And ((8 : Nat) - Prod.fst (Subtype.val i') < (8 : Nat) - Prod.fst (Subtype.val i)) True) (And (And (And ((true : Bool) = true) ((0 : Nat) = (0 : Nat))) (And (And ((true : Bool) = true) ((0 : Nat) = (0 : Nat))) (And (And ((true : Bool) = true) ((0 : Nat) = (0 : Nat))) (And ((0 : Int) = (0 : Int)) (And (And ((true : Bool) = true) ((0 : Nat) = (0 : Nat))) (And (And ((true : Bool) = true) ((0 : Nat) = (0 : Nat))) (And ((↑(Prod.snd (Prod.snd (Subtype.val i'))) : Int) = IntKind.wrap IntKind.u64 ((1 : Int) - IntKind.wrap IntKind.u64 (Int.tdiv (IntKind.wrap IntKind.u64 (IntKind.wrap IntKind.u64 (IntKind.wrap IntKind.u64 (List.getD (Prod.fst (Prod.snd (Subtype.val i))) (Int.toNat (↑(Prod.fst (Subtype.val i)) : Int)) (0 : Int) + (4294967296 : Int)) - List.getD (H (N b)) (Int.toNat (↑(Prod.fst (Subtype.val i)) : Int)) (0 : Int)) - (↑(Prod.snd (Prod.snd (Subtype.val i))) : Int))) (4294967296 : Int)))) (And ((↑(Prod.fst (Subtype.val i')) : Int) = IntKind.wrap IntKind.i64 ((↑(Prod.fst (Subtype.val i)) : Int) + (1 : Int))) True)))))))) (And (And (And ([(0 : Int), (0 : Int), (0 : Int), (0 : Int)] = [(0 : Int), (0 : Int), (0 : Int), (0 : Int)]) True) (And ((true : Bool) = true) (And (And (Prod.fst (Prod.snd (Subtype.val i')) = List.set (Prod.fst (Prod.snd (Subtype.val i))) (Int.toNat (↑(Prod.fst (Subtype.val i)) : Int)) (Int.tmod (IntKind.wrap IntKind.u64 (IntKind.wrap IntKind.u64 (IntKind.wrap IntKind.u64 (List.getD (Prod.fst (Prod.snd (Subtype.val i))) (Int.toNat (↑(Prod.fst (Subtype.val i)) : Int)) (0 : Int) + (4294967296 : Int)) - List.getD (H (N b)) (Int.toNat (↑(Prod.fst (Subtype.val i)) : Int)) (0 : Int)) - (↑(Prod.snd (Prod.snd (Subtype.val i))) : Int))) (4294967296 : Int))) True) (And ((true : Bool) = true) (And (And (H (N b) = H (N b)) True) (And ((true : Bool) = true) True)))))) ((true : Bool) = true)))))))))))))))) (decide ((↑(Prod.fst (Subtype.val i)) : Int) < (8 : Int)))))))))) (And (M.tup [M.agg [SV.ints IntKind.u64 (4 : Nat) (List.replicate (4 : Nat) (0 : Int))], M.one (SV.v (Value.int IntKind.i64 (31 : Int)))] = M.tup [M.agg [SV.ints IntKind.u64 (4 : Nat) (L (Prod.fst (subR (N a) (N b))))], M.one (SV.v (Value.int IntKind.i64 (Prod.snd (subR (N a) (N b)))))]) ((true : Bool) = true)) (decide (cmpR (N a) (N b) < (0 : Int)))))) (by kernel_rfl) ?_
  have hNa := num_H (N_lt ha)
  have hNb := num_H (N_lt hb)
  refine ⟨⟨ha, hb⟩, ?_⟩
  unfold subR
  refine bif_dec (fun h0 => ?_) (fun h0 => ?_)
  · have hlt : N a < N b := by
      unfold cmpR at h0
      by_cases h1 : N a = N b
      · rw [decide_eq_true h1] at h0; simp at h0
      · rw [decide_eq_false h1] at h0
        by_cases h2 : N a < N b
        · exact h2
        · rw [decide_eq_false h2] at h0; simp at h0
    rw [decide_eq_true hlt]
    simp only [cond_true, L_zero]
    repeat' first | exact trivial | refine And.intro ?_ ?_ | with_reducible refine bif_dt (by assumption) ?_ | with_reducible refine bif_df (by assumption) ?_ | with_reducible refine bif_dec (fun _ => ?_) (fun _ => ?_) | with_reducible refine bif_not ?_ | with_reducible refine bif_and ?_ | with_reducible refine bif_or ?_ | with_reducible refine bif_t (by assumption) ?_ | with_reducible refine bif_f (by assumption) ?_ | with_reducible refine bif_t (beq_self_eq_true _) ?_ | with_reducible refine bif_b (fun _ => ?_) (fun _ => ?_) | with_reducible refine ⟨_, Eq.refl (List.map _ _), ?_⟩ | (with_reducible refine Exists.intro (by omega) ?_) | rfl | (intro h0; omega) | omega
  have hge : ¬ N a < N b := by
    intro h1
    unfold cmpR at h0
    rw [decide_eq_false (by omega), decide_eq_true h1] at h0
    simp at h0
  rw [decide_eq_false hge]
  refine ⟨ha, hb, ⟨(0, H (N a), 0), by have := SI.start (Y := H (N b)) (H8_H (N a)).1 (H8_H (N a)).2; rwa [hNa] at this⟩, ?_, ?_⟩
  ·
    repeat' first | exact trivial | refine And.intro ?_ ?_ | with_reducible refine bif_dt (by assumption) ?_ | with_reducible refine bif_df (by assumption) ?_ | with_reducible refine bif_dec (fun _ => ?_) (fun _ => ?_) | with_reducible refine bif_not ?_ | with_reducible refine bif_and ?_ | with_reducible refine bif_or ?_ | with_reducible refine bif_t (by assumption) ?_ | with_reducible refine bif_f (by assumption) ?_ | with_reducible refine bif_t (beq_self_eq_true _) ?_ | with_reducible refine bif_b (fun _ => ?_) (fun _ => ?_) | with_reducible refine ⟨_, Eq.refl (List.map _ _), ?_⟩ | (with_reducible refine Exists.intro (by omega) ?_) | rfl | (intro h0; omega) | omega
  rintro ⟨⟨i, l, c⟩, hI⟩ -
  have hI' : SI (N a) (H (N b)) i l c := hI
  dsimp only
  have hi8 := hI'.1
  have hl8 := hI'.2.1
  refine bif_dec (fun hi => ?_) (fun hi => ?_)
  · obtain ⟨o, y, ho, hy, ho', hy', hc, hq, hn⟩ := hI'.step (H8_H _).1 (H8_H _).2 (by omega)
    have hlen := (H8_H (N b)).1
    simp only [Int.toNat_natCast, ho, hy, lsub ho' hy' hc, ltmod, ltdiv (show o + N32 - y - c < 18446744073709551616 by simp only [N32] at *; omega), lone hq, lnext (show i < 8 by omega)]
    refine ⟨by omega, by omega, by omega, by omega, by omega, by omega, by decide, by omega, by omega, by omega, by decide, ⟨(i + 1, _, _), hn⟩, ⟨show 8 - (i + 1) < 8 - i by omega, trivial⟩, ?_⟩
    repeat' first | exact trivial | refine And.intro ?_ ?_ | with_reducible refine bif_dt (by assumption) ?_ | with_reducible refine bif_df (by assumption) ?_ | with_reducible refine bif_dec (fun _ => ?_) (fun _ => ?_) | with_reducible refine bif_not ?_ | with_reducible refine bif_and ?_ | with_reducible refine bif_or ?_ | with_reducible refine bif_t (by assumption) ?_ | with_reducible refine bif_f (by assumption) ?_ | with_reducible refine bif_t (beq_self_eq_true _) ?_ | with_reducible refine bif_b (fun _ => ?_) (fun _ => ?_) | with_reducible refine ⟨_, Eq.refl (List.map _ _), ?_⟩ | (with_reducible refine Exists.intro (by omega) ?_) | rfl | (intro h0; omega) | omega
  · have he := hI'.end (H8_H _).1 (by omega)
    rw [hNb] at he
    have hlt := num8_lt ⟨hl8, hI'.2.2.1⟩
    have hc1 := hI'.2.2.2.1
    have hc0 : c = 0 := by
      rcases Nat.lt_or_ge 0 c with h | h
      · have : c = 1 := by omega
        subst this
        omega
      · omega
    subst hc0
    simp only [cond_false]
    rw [show N a - N b = num N32 l by omega]
    repeat' first | exact ⟨hl8, hI'.2.2.1⟩ | exact trivial | refine And.intro ?_ ?_ | with_reducible refine bif_dt (by assumption) ?_ | with_reducible refine bif_df (by assumption) ?_ | with_reducible refine bif_dec (fun _ => ?_) (fun _ => ?_) | with_reducible refine bif_not ?_ | with_reducible refine bif_and ?_ | with_reducible refine bif_or ?_ | with_reducible refine bif_t (by assumption) ?_ | with_reducible refine bif_f (by assumption) ?_ | with_reducible refine bif_t (beq_self_eq_true _) ?_ | with_reducible refine bif_b (fun _ => ?_) (fun _ => ?_) | with_reducible refine ⟨_, Eq.refl (List.map _ _), ?_⟩ | (with_reducible refine Exists.intro (by omega) ?_) | rfl | (intro h0; omega) | omega
def rsubT : List M → (M → Prop) → Prop
  | [.agg [.ints .u64 4 a], .agg [.ints .u64 4 b]], K => (L4 a ∧ L4 b) ∧ K (.tup [w4 (L (subR (N a) (N b)).1), int (subR (N a) (N b)).2])
  | _, _ => False
theorem rsub_ok : POK Try.prog 25 rsubT := by
  intro ms K h
  unfold rsubT at h ⊢
  split at h
  · exact ⟨_, h.2, (rsub_spec h.1.1 h.1.2), rfl, fun _ hk => ⟨h.1, hk⟩⟩
  · exact h.elim


theorem rless_spec {a b : List Int} (ha : L4 a) (hb : L4 b) : SFun Try.prog 58 [w4 a, w4 b] (w4 (L (lessR (N a) (N b)))) := by
  refine SFun.inl [(55, halvesT), (56, wholeT)] (SOK.cons halves_ok (SOK.cons whole_ok SOK.nil)) tok mixed [] IOK.nil true [(5, ⟨SIT (N a) (H (N b)), fun p => ⟨5, [(2, .one (.ptr 0 0)), (3, .one (.ptr 1 0)), (4, .one (.ptr 2 0)), (5, .one (.ptr 3 0)), (6, .one (.ptr 4 0)), (7, u64 p.1.2.2), (8, int p.1.1)], [(2, .cells [.ints .u64 4 [0, 0, 0, 0]]), (3, .cells [.ints .u64 8 p.1.2.1]), (4, .cells [.ints .u64 8 (H (N b))])]⟩, fun p => 8 - p.1.1, fun _ _ => True⟩)] [] Try.call58 Try.func58 rfl (by rfl) ?_
  refine Eq.mp (α := (And (And (List.length a = (4 : Nat)) (∀ x : Int, (∀ a_1 : x ∈ a, (And ((0 : Int) ≤ x) (x < (↑N64 : Int)))))) (And (And (List.length b = (4 : Nat)) (∀ x : Int, (∀ a_1 : x ∈ b, (And ((0 : Int) ≤ x) (x < (↑N64 : Int)))))) (∃ i0 : SIT (N a) (H (N b)), (And (And True (And (And (And ((true : Bool) = true) ((0 : Nat) = (0 : Nat))) (And (And ((true : Bool) = true) ((0 : Nat) = (0 : Nat))) (And (And ((true : Bool) = true) ((0 : Nat) = (0 : Nat))) (And (And ((true : Bool) = true) ((0 : Nat) = (0 : Nat))) (And (And ((true : Bool) = true) ((0 : Nat) = (0 : Nat))) (And ((↑(Prod.snd (Prod.snd (Subtype.val i0))) : Int) = (0 : Int)) (And ((↑(Prod.fst (Subtype.val i0)) : Int) = (0 : Int)) True))))))) (And (And (And ([(0 : Int), (0 : Int), (0 : Int), (0 : Int)] = List.replicate (4 : Nat) (0 : Int)) True) (And ((true : Bool) = true) (And (And (Prod.fst (Prod.snd (Subtype.val i0)) = H (N a)) True) (And ((true : Bool) = true) (And (And (H (N b) = H (N b)) True) (And ((true : Bool) = true) True)))))) ((true : Bool) = true)))) (∀ i : SIT (N a) (H (N b)), (∀ a_1 : True, (@Bool.rec (fun _ => Prop) (And (And (List.length (Prod.fst (Prod.snd (Subtype.val i))) = (8 : Nat)) (∀ x : Int, (∀ a_2 : x ∈ Prod.fst (Prod.snd (Subtype.val i)), (And ((0 : Int) ≤ x) (x < (↑N32 : Int)))))) (And (M.agg [SV.ints IntKind.u64 (4 : Nat) (L (num N32 (Prod.fst (Prod.snd (Subtype.val i)))))] = M.agg [SV.ints IntKind.u64 (4 : Nat) (L (lessR (N a) (N b)))]) ((true : Bool) = true))) (And ((0 : Int) ≤ (↑(Prod.fst (Subtype.val i)) : Int)) (And (Int.toNat (↑(Prod.fst (Subtype.val i)) : Int) < (8 : Nat)) (And (Int.toNat (↑(Prod.fst (Subtype.val i)) : Int) < (8 : Nat)) (And ((0 : Int) ≤ (↑(Prod.fst (Subtype.val i)) : Int)) (And (Int.toNat (↑(Prod.fst (Subtype.val i)) : Int) < (8 : Nat)) (And (Int.toNat (↑(Prod.fst (Subtype.val i)) : Int) < (8 : Nat)) (And ((4294967296 : Int) ≠ (0 : Int)) (And ((0 : Int) ≤ (↑(Prod.fst (Subtype.val i)) : Int)) (And (Int.toNat (↑(Prod.fst (Subtype.val i)) : Int) < (8 : Nat)) (And (Int.toNat (↑(Prod.fst (Subtype.val i)) : Int) < (8 : Nat)) (And ((4294967296 : Int) ≠ (0 : Int)) (∃ i' : SIT (N a) (H (N b)), (And (And ((8 : Nat) - Prod.fst (Subtype.val i') < (8 : Nat) - Prod.fst (Subtype.val i)) True) (And (And (And ((true : Bool) = true) ((0 : Nat) = (0 : Nat))) (And (And ((true : Bool) = true) ((0 : Nat) = (0 : Nat))) (And (And ((true : Bool) = true) ((0 : Nat) = (0 : Nat))) (And (And ((true : Bool) = true) ((0 : Nat) = (0 : Nat))) (And (And ((true : Bool) = true) ((0 : Nat) = (0 : Nat))) (And ((↑(Prod.snd (Prod.snd (Subtype.val i'))) : Int) = IntKind.wrap IntKind.u64 ((1 : Int) - IntKind.wrap IntKind.u64 (Int.tdiv (IntKind.wrap IntKind.u64 (IntKind.wrap IntKind.u64 (IntKind.wrap IntKind.u64 (List.getD (Prod.fst (Prod.snd (Subtype.val i))) (Int.toNat (↑(Prod.fst (Subtype.val i)) : Int)) (0 : Int) + (4294967296 : Int)) - List.getD (H (N b)) (Int.toNat (↑(Prod.fst (Subtype.val i)) : Int)) (0 : Int)) - (↑(Prod.snd (Prod.snd (Subtype.val i))) : Int))) (4294967296 : Int)))) (And ((↑(Prod.fst (Subtype.val i')) : Int) = IntKind.wrap IntKind.i64 ((↑(Prod.fst (Subtype.val i)) : Int) + (1 : Int))) True))))))) (And (And (And ([(0 : Int), (0 : Int), (0 : Int), (0 : Int)] = [(0 : Int), (0 : Int), (0 : Int), (0 : Int)]) True) (And ((true : Bool) = true) (And (And (Prod.fst (Prod.snd (Subtype.val i')) = List.set (Prod.fst (Prod.snd (Subtype.val i))) (Int.toNat (↑(Prod.fst (Subtype.val i)) : Int)) (Int.tmod (IntKind.wrap IntKind.u64 (IntKind.wrap IntKind.u64 (IntKind.wrap IntKind.u64 (List.getD (Prod.fst (Prod.snd (Subtype.val i))) (Int.toNat (↑(Prod.fst (Subtype.val i)) : Int)) (0 : Int) + (4294967296 : Int)) - List.getD (H (N b)) (Int.toNat (↑(Prod.fst (Subtype.val i)) : Int)) (0 : Int)) - (↑(Prod.snd (Prod.snd (Subtype.val i))) : Int))) (4294967296 : Int))) True) (And ((true : Bool) = true) (And (And (H (N b) = H (N b)) True) (And ((true : Bool) = true) True)))))) ((true : Bool) = true)))))))))))))))) (decide ((↑(Prod.fst (Subtype.val i)) : Int) < (8 : Int))))))))))) (by kernel_rfl) ?_
  have hNa := num_H (N_lt ha)
  have hNb := num_H (N_lt hb)
  refine ⟨ha, hb, ⟨(0, H (N a), 0), by have := SI.start (Y := H (N b)) (H8_H (N a)).1 (H8_H (N a)).2; rwa [hNa] at this⟩, ?_, ?_⟩
  ·
    repeat' first | exact trivial | refine And.intro ?_ ?_ | with_reducible refine bif_dt (by assumption) ?_ | with_reducible refine bif_df (by assumption) ?_ | with_reducible refine bif_dec (fun _ => ?_) (fun _ => ?_) | with_reducible refine bif_not ?_ | with_reducible refine bif_and ?_ | with_reducible refine bif_or ?_ | with_reducible refine bif_t (by assumption) ?_ | with_reducible refine bif_f (by assumption) ?_ | with_reducible refine bif_t (beq_self_eq_true _) ?_ | with_reducible refine bif_b (fun _ => ?_) (fun _ => ?_) | with_reducible refine ⟨_, Eq.refl (List.map _ _), ?_⟩ | (with_reducible refine Exists.intro (by omega) ?_) | rfl | (intro h0; omega) | omega
  rintro ⟨⟨i, l, c⟩, hI⟩ -
  have hI' : SI (N a) (H (N b)) i l c := hI
  dsimp only
  have hi8 := hI'.1
  have hl8 := hI'.2.1
  refine bif_dec (fun hi => ?_) (fun hi => ?_)
  · obtain ⟨o, y, ho, hy, ho', hy', hc, hq, hn⟩ := hI'.step (H8_H _).1 (H8_H _).2 (by omega)
    have hlen := (H8_H (N b)).1
    simp only [Int.toNat_natCast, ho, hy, lsub ho' hy' hc, ltmod, ltdiv (show o + N32 - y - c < 18446744073709551616 by simp only [N32] at *; omega), lone hq, lnext (show i < 8 by omega)]
    refine ⟨by omega, by omega, by omega, by omega, by omega, by omega, by decide, by omega, by omega, by omega, by decide, ⟨(i + 1, _, _), hn⟩, ⟨show 8 - (i + 1) < 8 - i by omega, trivial⟩, ?_⟩
    repeat' first | exact trivial | refine And.intro ?_ ?_ | with_reducible refine bif_dt (by assumption) ?_ | with_reducible refine bif_df (by assumption) ?_ | with_reducible refine bif_dec (fun _ => ?_) (fun _ => ?_) | with_reducible refine bif_not ?_ | with_reducible refine bif_and ?_ | with_reducible refine bif_or ?_ | with_reducible refine bif_t (by assumption) ?_ | with_reducible refine bif_f (by assumption) ?_ | with_reducible refine bif_t (beq_self_eq_true _) ?_ | with_reducible refine bif_b (fun _ => ?_) (fun _ => ?_) | with_reducible refine ⟨_, Eq.refl (List.map _ _), ?_⟩ | (with_reducible refine Exists.intro (by omega) ?_) | rfl | (intro h0; omega) | omega
  · have he := hI'.end (H8_H _).1 (by omega)
    rw [hNb] at he
    have hlt := num8_lt ⟨hl8, hI'.2.2.1⟩
    have hc1 := hI'.2.2.2.1
    have hbl := N_lt hb
    have : lessR (N a) (N b) = num N32 l := by
      unfold lessR
      rcases Nat.lt_or_ge 0 c with h | h
      · have : c = 1 := by omega
        subst this
        rw [decide_eq_true (by omega), cond_true]
        omega
      · have : c = 0 := by omega
        subst this
        rw [decide_eq_false (by omega), cond_false]
        omega
    rw [this]
    repeat' first | exact ⟨hl8, hI'.2.2.1⟩ | exact trivial | refine And.intro ?_ ?_ | with_reducible refine bif_dt (by assumption) ?_ | with_reducible refine bif_df (by assumption) ?_ | with_reducible refine bif_dec (fun _ => ?_) (fun _ => ?_) | with_reducible refine bif_not ?_ | with_reducible refine bif_and ?_ | with_reducible refine bif_or ?_ | with_reducible refine bif_t (by assumption) ?_ | with_reducible refine bif_f (by assumption) ?_ | with_reducible refine bif_t (beq_self_eq_true _) ?_ | with_reducible refine bif_b (fun _ => ?_) (fun _ => ?_) | with_reducible refine ⟨_, Eq.refl (List.map _ _), ?_⟩ | (with_reducible refine Exists.intro (by omega) ?_) | rfl | (intro h0; omega) | omega
def rlessT : List M → (M → Prop) → Prop
  | [.agg [.ints .u64 4 a], .agg [.ints .u64 4 b]], K => (L4 a ∧ L4 b) ∧ K (w4 (L (lessR (N a) (N b))))
  | _, _ => False
theorem rless_ok : POK Try.prog 58 rlessT := by
  intro ms K h
  unfold rlessT at h ⊢
  split at h
  · exact ⟨_, h.2, (rless_spec h.1.1 h.1.2), rfl, fun _ hk => ⟨h.1, hk⟩⟩
  · exact h.elim

end Go.Proofs.Ytjdlefkpoggocaa
