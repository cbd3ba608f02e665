/- Powers and roots, by the program. -/
import Derived.Test.YtblapbjafbmndaaDoorP9
import Derived.Test.YtblapbjafbmndaaDoorD5
import Derived.Test.YtblapbjafbmndaaDoorSx24
namespace Go.Proofs.YtblapbjafbmndaaDoor
open Go Go.Sx Go.Sha
set_option linter.unusedVariables false
set_option linter.unusedSimpArgs false
set_option maxRecDepth 100000
set_option maxHeartbeats 4000000

/-- Naturals as integers. -/
def ic (l : List Nat) : List Int := l.map Int.ofNat
theorem ic_getD (l : List Nat) (i : Nat) : (ic l).getD i 0 = ((l.getD i 0 : Nat) : Int) := by
  unfold ic
  rw [List.getD_eq_getElem?_getD, List.getElem?_map, List.getD_eq_getElem?_getD]
  cases l[i]? <;> rfl
theorem ic_set (l : List Nat) (i : Nat) (v : Nat) : ic (l.set i v) = (ic l).set i (v : Int) := by
  unfold ic
  rw [List.map_set]
  rfl
theorem ic_length (l : List Nat) : (ic l).length = l.length := by unfold ic; simp
theorem lsum_int (a : Nat) (p : List Nat) (i : Nat) (s : List Nat × Nat) (j : Nat) : IntKind.u64.wrap (IntKind.u64.wrap (((s.2 : Nat) : Int) + ((s.1.getD (i + j) 0 : Nat) : Int)) + IntKind.u64.wrap (((a : Nat) : Int) * ((p.getD j 0 : Nat) : Int))) = ((lsum a p i s j : Nat) : Int) := by
  simp only [wrapU64, lsum, Int.natCast_emod, Int.natCast_add, Int.natCast_mul]
  rfl
theorem limb_get (x : Nat) {b : Nat} (h : b < 2) : (ic [limb x 0, limb x 1]).getD b 0 = ((limb x b : Nat) : Int) := by
  rw [ic_getD]
  match b, h with
  | 0, _ => rfl
  | 1, _ => rfl
theorem lsum_lt (a : Nat) (p : List Nat) (i : Nat) (s : List Nat × Nat) (j : Nat) : lsum a p i s j < 18446744073709551616 := Nat.mod_lt _ (by decide)
structure P1T (k : Nat) where
  i : Nat
  hi : i ≤ k
structure P2T (k : Nat) where
  i : Nat
  b : Nat
  hi : i < k
  hb : b ≤ 2
structure P3T (k : Nat) where
  i : Nat
  b : Nat
  j : Nat
  hi : i < k
  hb : b < 2
  hj : b + j ≤ 6
abbrev l6 (l : List Nat) : SV := .ints .u64 6 (ic l)
theorem power_spec (x k : Nat) (hx : x < 18446744073709551616) (hk : k < 9223372036854775807) : SFun Tryd.prog 120 [u64 x, int k] (.agg [l6 (mA x k)]) := by
  refine SFun.inl [] SOK.nil tok mixed [] IOK.nil false [(3, ⟨P1T k, fun p => ⟨2, [(0, u64 x), (1, int k), (4, .one (.ptr 0 0)), (5, .one (.ptr 1 0)), (6, int p.i)], [(0, .cells [.ints .u64 6 (List.replicate 6 0)]), (1, .cells [l6 (mA x p.i)])]⟩, fun p => k - p.i, fun _ _ => True⟩), (8, ⟨P2T k, fun p => ⟨4, [(0, u64 x), (1, int k), (4, .one (.ptr 0 0)), (5, .one (.ptr 1 0)), (6, int p.i), (7, .one (.ptr 2 0)), (8, .one (.ptr 3 0)), (9, int p.b)], [(0, .cells [.ints .u64 6 (List.replicate 6 0)]), (1, .cells [l6 (mA x p.i)]), (2, .cells [.ints .u64 2 (ic [limb x 0, limb x 1])]), (3, .cells [l6 (mB x (mA x p.i) p.b)])]⟩, fun p => 2 - p.b, fun p q => q.i = p.i⟩), (12, ⟨P3T k, fun p => ⟨4, [(0, u64 x), (1, int k), (4, .one (.ptr 0 0)), (5, .one (.ptr 1 0)), (6, int p.i), (7, .one (.ptr 2 0)), (8, .one (.ptr 3 0)), (9, int p.b), (10, u64 (mC (limb x p.b) (mA x p.i) p.b (mB x (mA x p.i) p.b) p.j).2), (11, int p.j)], [(0, .cells [.ints .u64 6 (List.replicate 6 0)]), (1, .cells [l6 (mA x p.i)]), (2, .cells [.ints .u64 2 (ic [limb x 0, limb x 1])]), (3, .cells [l6 (mC (limb x p.b) (mA x p.i) p.b (mB x (mA x p.i) p.b) p.j).1])]⟩, fun p => 6 - p.j, fun p q => q.i = p.i ∧ q.b = p.b⟩)] [] Tryd.call120 Tryd.func120 rfl (by rfl) ?_
  refine Eq.mp (α := (∃ i0 : P1T k, (And (And True (And (And ((↑x : Int) = (↑x : Int)) (And ((↑k : Int) = (↑k : Int)) (And (And ((true : Bool) = true) ((0 : Nat) = (0 : Nat))) (And (And ((true : Bool) = true) ((0 : Nat) = (0 : Nat))) (And ((↑(P1T.i i0) : Int) = (0 : Int)) True))))) (And (And (And (List.replicate (6 : Nat) (0 : Int) = List.replicate (6 : Nat) (0 : Int)) True) (And ((true : Bool) = true) (And (And (ic (mA x (P1T.i i0)) = List.set (List.replicate (6 : Nat) (0 : Int)) ((0 : Nat) * (1 : Nat)) (1 : Int)) True) (And ((true : Bool) = true) True)))) ((true : Bool) = true)))) (∀ i : P1T k, (∀ a : True, (@Bool.rec (fun _ => Prop) (And (M.agg [SV.ints IntKind.u64 (6 : Nat) (ic (mA x (P1T.i i)))] = M.agg [SV.ints IntKind.u64 (6 : Nat) (ic (mA x k))]) ((true : Bool) = true)) (And ((4294967296 : Int) ≠ (0 : Int)) (And ((4294967296 : Int) ≠ (0 : Int)) (∃ i0_1 : P2T k, (And (And (P2T.i i0_1 = P2T.i i0_1) (And (And ((↑x : Int) = (↑x : Int)) (And ((↑k : Int) = (↑k : Int)) (And (And ((true : Bool) = true) ((0 : Nat) = (0 : Nat))) (And (And ((true : Bool) = true) ((0 : Nat) = (0 : Nat))) (And ((↑(P2T.i i0_1) : Int) = (↑(P1T.i i) : Int)) (And (And ((true : Bool) = true) ((0 : Nat) = (0 : Nat))) (And (And ((true : Bool) = true) ((0 : Nat) = (0 : Nat))) (And ((↑(P2T.b i0_1) : Int) = (0 : Int)) True)))))))) (And (And (And (List.replicate (6 : Nat) (0 : Int) = List.replicate (6 : Nat) (0 : Int)) True) (And ((true : Bool) = true) (And (And (ic (mA x (P2T.i i0_1)) = ic (mA x (P1T.i i))) True) (And ((true : Bool) = true) (And (And (ic [limb x (0 : Nat), limb x (1 : Nat)] = List.set (List.set (List.replicate (2 : Nat) (0 : Int)) ((0 : Nat) * (1 : Nat)) (Int.tmod (↑x : Int) (4294967296 : Int))) ((1 : Nat) * (1 : Nat)) (IntKind.wrap IntKind.u64 (Int.tdiv (↑x : Int) (4294967296 : Int)))) True) (And ((true : Bool) = true) (And (And (ic (mB x (mA x (P2T.i i0_1)) (P2T.b i0_1)) = List.replicate (6 : Nat) (0 : Int)) True) (And ((true : Bool) = true) True)))))))) ((true : Bool) = true)))) (∀ i_1 : P2T k, (∀ a_1 : P2T.i i_1 = P2T.i i0_1, (@Bool.rec (fun _ => Prop) (∃ i' : P1T k, (And (And (k - P1T.i i' < k - P1T.i i) True) (And (And ((↑x : Int) = (↑x : Int)) (And ((↑k : Int) = (↑k : Int)) (And (And ((true : Bool) = true) ((0 : Nat) = (0 : Nat))) (And (And ((true : Bool) = true) ((0 : Nat) = (0 : Nat))) (And ((↑(P1T.i i') : Int) = IntKind.wrap IntKind.i64 ((↑(P2T.i i_1) : Int) + (1 : Int))) True))))) (And (And (And (List.replicate (6 : Nat) (0 : Int) = List.replicate (6 : Nat) (0 : Int)) True) (And ((true : Bool) = true) (And (And (ic (mA x (P1T.i i')) = ic (mB x (mA x (P2T.i i_1)) (P2T.b i_1))) True) (And ((true : Bool) = true) True)))) ((true : Bool) = true))))) (∃ i0_2 : P3T k, (And (And (And (P3T.i i0_2 = P3T.i i0_2) (P3T.b i0_2 = P3T.b i0_2)) (And (And ((↑x : Int) = (↑x : Int)) (And ((↑k : Int) = (↑k : Int)) (And (And ((true : Bool) = true) ((0 : Nat) = (0 : Nat))) (And (And ((true : Bool) = true) ((0 : Nat) = (0 : Nat))) (And ((↑(P3T.i i0_2) : Int) = (↑(P2T.i i_1) : Int)) (And (And ((true : Bool) = true) ((0 : Nat) = (0 : Nat))) (And (And ((true : Bool) = true) ((0 : Nat) = (0 : Nat))) (And ((↑(P3T.b i0_2) : Int) = (↑(P2T.b i_1) : Int)) (And ((↑(Prod.snd (mC (limb x (P3T.b i0_2)) (mA x (P3T.i i0_2)) (P3T.b i0_2) (mB x (mA x (P3T.i i0_2)) (P3T.b i0_2)) (P3T.j i0_2))) : Int) = (0 : Int)) (And ((↑(P3T.j i0_2) : Int) = (0 : Int)) True)))))))))) (And (And (And (List.replicate (6 : Nat) (0 : Int) = List.replicate (6 : Nat) (0 : Int)) True) (And ((true : Bool) = true) (And (And (ic (mA x (P3T.i i0_2)) = ic (mA x (P2T.i i_1))) True) (And ((true : Bool) = true) (And (And (ic [limb x (0 : Nat), limb x (1 : Nat)] = ic [limb x (0 : Nat), limb x (1 : Nat)]) True) (And ((true : Bool) = true) (And (And (ic (Prod.fst (mC (limb x (P3T.b i0_2)) (mA x (P3T.i i0_2)) (P3T.b i0_2) (mB x (mA x (P3T.i i0_2)) (P3T.b i0_2)) (P3T.j i0_2))) = ic (mB x (mA x (P2T.i i_1)) (P2T.b i_1))) True) (And ((true : Bool) = true) True)))))))) ((true : Bool) = true)))) (∀ i_2 : P3T k, (∀ a_2 : P3T.i i_2 = P3T.i i0_2 ∧ P3T.b i_2 = P3T.b i0_2, (@Bool.rec (fun _ => Prop) (∃ i' : P2T k, (And (And ((2 : Nat) - P2T.b i' < (2 : Nat) - P2T.b i_1) (P2T.i i' = P2T.i i0_1)) (And (And ((↑x : Int) = (↑x : Int)) (And ((↑k : Int) = (↑k : Int)) (And (And ((true : Bool) = true) ((0 : Nat) = (0 : Nat))) (And (And ((true : Bool) = true) ((0 : Nat) = (0 : Nat))) (And ((↑(P2T.i i') : Int) = (↑(P3T.i i_2) : Int)) (And (And ((true : Bool) = true) ((0 : Nat) = (0 : Nat))) (And (And ((true : Bool) = true) ((0 : Nat) = (0 : Nat))) (And ((↑(P2T.b i') : Int) = IntKind.wrap IntKind.i64 ((↑(P3T.b i_2) : Int) + (1 : Int))) True)))))))) (And (And (And (List.replicate (6 : Nat) (0 : Int) = List.replicate (6 : Nat) (0 : Int)) True) (And ((true : Bool) = true) (And (And (ic (mA x (P2T.i i')) = ic (mA x (P3T.i i_2))) True) (And ((true : Bool) = true) (And (And (ic [limb x (0 : Nat), limb x (1 : Nat)] = ic [limb x (0 : Nat), limb x (1 : Nat)]) True) (And ((true : Bool) = true) (And (And (ic (mB x (mA x (P2T.i i')) (P2T.b i')) = ic (Prod.fst (mC (limb x (P3T.b i_2)) (mA x (P3T.i i_2)) (P3T.b i_2) (mB x (mA x (P3T.i i_2)) (P3T.b i_2)) (P3T.j i_2)))) True) (And ((true : Bool) = true) True)))))))) ((true : Bool) = true))))) (And ((0 : Int) ≤ IntKind.wrap IntKind.i64 ((↑(P3T.b i_2) : Int) + (↑(P3T.j i_2) : Int))) (And (Int.toNat (IntKind.wrap IntKind.i64 ((↑(P3T.b i_2) : Int) + (↑(P3T.j i_2) : Int))) < (6 : Nat)) (And (Int.toNat (IntKind.wrap IntKind.i64 ((↑(P3T.b i_2) : Int) + (↑(P3T.j i_2) : Int))) < (6 : Nat)) (And ((0 : Int) ≤ (↑(P3T.b i_2) : Int)) (And (Int.toNat (↑(P3T.b i_2) : Int) < (2 : Nat)) (And (Int.toNat (↑(P3T.b i_2) : Int) < (2 : Nat)) (And ((0 : Int) ≤ (↑(P3T.j i_2) : Int)) (And (Int.toNat (↑(P3T.j i_2) : Int) < (6 : Nat)) (And (Int.toNat (↑(P3T.j i_2) : Int) < (6 : Nat)) (And ((4294967296 : Int) ≠ (0 : Int)) (And ((0 : Int) ≤ IntKind.wrap IntKind.i64 ((↑(P3T.b i_2) : Int) + (↑(P3T.j i_2) : Int))) (And (Int.toNat (IntKind.wrap IntKind.i64 ((↑(P3T.b i_2) : Int) + (↑(P3T.j i_2) : Int))) < (6 : Nat)) (And (Int.toNat (IntKind.wrap IntKind.i64 ((↑(P3T.b i_2) : Int) + (↑(P3T.j i_2) : Int))) < (6 : Nat)) (And ((4294967296 : Int) ≠ (0 : Int)) (∃ i' : P3T k, (And (And ((6 : Nat) - P3T.j i' < (6 : Nat) - P3T.j i_2) (And (P3T.i i' = P3T.i i0_2) (P3T.b i' = P3T.b i0_2))) (And (And ((↑x : Int) = (↑x : Int)) (And ((↑k : Int) = (↑k : Int)) (And (And ((true : Bool) = true) ((0 : Nat) = (0 : Nat))) (And (And ((true : Bool) = true) ((0 : Nat) = (0 : Nat))) (And ((↑(P3T.i i') : Int) = (↑(P3T.i i_2) : Int)) (And (And ((true : Bool) = true) ((0 : Nat) = (0 : Nat))) (And (And ((true : Bool) = true) ((0 : Nat) = (0 : Nat))) (And ((↑(P3T.b i') : Int) = (↑(P3T.b i_2) : Int)) (And ((↑(Prod.snd (mC (limb x (P3T.b i')) (mA x (P3T.i i')) (P3T.b i') (mB x (mA x (P3T.i i')) (P3T.b i')) (P3T.j i'))) : Int) = IntKind.wrap IntKind.u64 (Int.tdiv (IntKind.wrap IntKind.u64 (IntKind.wrap IntKind.u64 ((↑(Prod.snd (mC (limb x (P3T.b i_2)) (mA x (P3T.i i_2)) (P3T.b i_2) (mB x (mA x (P3T.i i_2)) (P3T.b i_2)) (P3T.j i_2))) : Int) + List.getD (ic (Prod.fst (mC (limb x (P3T.b i_2)) (mA x (P3T.i i_2)) (P3T.b i_2) (mB x (mA x (P3T.i i_2)) (P3T.b i_2)) (P3T.j i_2)))) (Int.toNat (IntKind.wrap IntKind.i64 ((↑(P3T.b i_2) : Int) + (↑(P3T.j i_2) : Int)))) (0 : Int)) + IntKind.wrap IntKind.u64 (List.getD (ic [limb x (0 : Nat), limb x (1 : Nat)]) (Int.toNat (↑(P3T.b i_2) : Int)) (0 : Int) * List.getD (ic (mA x (P3T.i i_2))) (Int.toNat (↑(P3T.j i_2) : Int)) (0 : Int)))) (4294967296 : Int))) (And ((↑(P3T.j i') : Int) = IntKind.wrap IntKind.i64 ((↑(P3T.j i_2) : Int) + (1 : Int))) True)))))))))) (And (And (And (List.replicate (6 : Nat) (0 : Int) = List.replicate (6 : Nat) (0 : Int)) True) (And ((true : Bool) = true) (And (And (ic (mA x (P3T.i i')) = ic (mA x (P3T.i i_2))) True) (And ((true : Bool) = true) (And (And (ic [limb x (0 : Nat), limb x (1 : Nat)] = ic [limb x (0 : Nat), limb x (1 : Nat)]) True) (And ((true : Bool) = true) (And (And (ic (Prod.fst (mC (limb x (P3T.b i')) (mA x (P3T.i i')) (P3T.b i') (mB x (mA x (P3T.i i')) (P3T.b i')) (P3T.j i'))) = List.set (ic (Prod.fst (mC (limb x (P3T.b i_2)) (mA x (P3T.i i_2)) (P3T.b i_2) (mB x (mA x (P3T.i i_2)) (P3T.b i_2)) (P3T.j i_2)))) (Int.toNat (IntKind.wrap IntKind.i64 ((↑(P3T.b i_2) : Int) + (↑(P3T.j i_2) : Int)))) (Int.tmod (IntKind.wrap IntKind.u64 (IntKind.wrap IntKind.u64 ((↑(Prod.snd (mC (limb x (P3T.b i_2)) (mA x (P3T.i i_2)) (P3T.b i_2) (mB x (mA x (P3T.i i_2)) (P3T.b i_2)) (P3T.j i_2))) : Int) + List.getD (ic (Prod.fst (mC (limb x (P3T.b i_2)) (mA x (P3T.i i_2)) (P3T.b i_2) (mB x (mA x (P3T.i i_2)) (P3T.b i_2)) (P3T.j i_2)))) (Int.toNat (IntKind.wrap IntKind.i64 ((↑(P3T.b i_2) : Int) + (↑(P3T.j i_2) : Int)))) (0 : Int)) + IntKind.wrap IntKind.u64 (List.getD (ic [limb x (0 : Nat), limb x (1 : Nat)]) (Int.toNat (↑(P3T.b i_2) : Int)) (0 : Int) * List.getD (ic (mA x (P3T.i i_2))) (Int.toNat (↑(P3T.j i_2) : Int)) (0 : Int)))) (4294967296 : Int))) True) (And ((true : Bool) = true) True)))))))) ((true : Bool) = true))))))))))))))))))) (decide (IntKind.wrap IntKind.i64 ((↑(P3T.b i_2) : Int) + (↑(P3T.j i_2) : Int)) < (6 : Int)))))))) (decide ((↑(P2T.b i_1) : Int) < (2 : Int)))))))))) (decide ((↑(P1T.i i) : Int) < (↑k : Int))))))))) (by kernel_rfl) ?_
  refine ⟨⟨0, Nat.zero_le _⟩, ?_, ?_⟩
  ·
    repeat' first | exact trivial | refine And.intro ?_ ?_ | with_reducible refine bif_dt (by assumption) ?_ | with_reducible refine bif_df (by assumption) ?_ | with_reducible refine bif_dec (fun _ => ?_) (fun _ => ?_) | with_reducible refine bif_not ?_ | with_reducible refine bif_and ?_ | with_reducible refine bif_or ?_ | with_reducible refine bif_t (by assumption) ?_ | with_reducible refine bif_f (by assumption) ?_ | with_reducible refine bif_t (beq_self_eq_true _) ?_ | with_reducible refine bif_b (fun _ => ?_) (fun _ => ?_) | with_reducible refine ⟨_, Eq.refl (List.map _ _), ?_⟩ | (with_reducible refine Exists.intro (by omega) ?_) | rfl | (intro h0; omega) | omega
  rintro ⟨i, hi⟩ -
  dsimp only
  refine bif_dec (fun h => ?_) (fun h => ?_)
  rotate_left
  · have : i = k := by omega
    subst this
    repeat' first | exact trivial | refine And.intro ?_ ?_ | with_reducible refine bif_dt (by assumption) ?_ | with_reducible refine bif_df (by assumption) ?_ | with_reducible refine bif_dec (fun _ => ?_) (fun _ => ?_) | with_reducible refine bif_not ?_ | with_reducible refine bif_and ?_ | with_reducible refine bif_or ?_ | with_reducible refine bif_t (by assumption) ?_ | with_reducible refine bif_f (by assumption) ?_ | with_reducible refine bif_t (beq_self_eq_true _) ?_ | with_reducible refine bif_b (fun _ => ?_) (fun _ => ?_) | with_reducible refine ⟨_, Eq.refl (List.map _ _), ?_⟩ | (with_reducible refine Exists.intro (by omega) ?_) | rfl | (intro h0; omega) | omega
  have hi' : i < k := by omega
  have hl0 : ((List.replicate 2 (0 : Int)).set (0 * 1) ((x : Int).tmod 4294967296)).set (1 * 1) (IntKind.u64.wrap ((x : Int).tdiv 4294967296)) = ic [limb x 0, limb x 1] := by
    rw [wrapU64, show (x : Int).tmod 4294967296 = ((x % 4294967296 : Nat) : Int) from rfl, show (x : Int).tdiv 4294967296 = ((x / 4294967296 : Nat) : Int) from rfl, show ((x / 4294967296 : Nat) : Int) % 18446744073709551616 = ((x / 4294967296 : Nat) : Int) by omega]
    rfl
  refine ⟨by decide, by decide, ⟨i, 0, hi', by decide⟩, ?_, ?_⟩
  ·
    repeat' first | exact hl0.symm | exact trivial | refine And.intro ?_ ?_ | with_reducible refine bif_dt (by assumption) ?_ | with_reducible refine bif_df (by assumption) ?_ | with_reducible refine bif_dec (fun _ => ?_) (fun _ => ?_) | with_reducible refine bif_not ?_ | with_reducible refine bif_and ?_ | with_reducible refine bif_or ?_ | with_reducible refine bif_t (by assumption) ?_ | with_reducible refine bif_f (by assumption) ?_ | with_reducible refine bif_t (beq_self_eq_true _) ?_ | with_reducible refine bif_b (fun _ => ?_) (fun _ => ?_) | with_reducible refine ⟨_, Eq.refl (List.map _ _), ?_⟩ | (with_reducible refine Exists.intro (by omega) ?_) | rfl | (intro h0; omega) | omega
  rintro ⟨i2, b, hi2, hb⟩ he
  obtain rfl : i2 = i := he
  dsimp only
  refine bif_dec (fun h2 => ?_) (fun h2 => ?_)
  · have hb' : b < 2 := by omega
    refine ⟨⟨i2, b, 0, hi', hb', by omega⟩, ?_, ?_⟩
    ·
      repeat' first | exact trivial | refine And.intro ?_ ?_ | with_reducible refine bif_dt (by assumption) ?_ | with_reducible refine bif_df (by assumption) ?_ | with_reducible refine bif_dec (fun _ => ?_) (fun _ => ?_) | with_reducible refine bif_not ?_ | with_reducible refine bif_and ?_ | with_reducible refine bif_or ?_ | with_reducible refine bif_t (by assumption) ?_ | with_reducible refine bif_f (by assumption) ?_ | with_reducible refine bif_t (beq_self_eq_true _) ?_ | with_reducible refine bif_b (fun _ => ?_) (fun _ => ?_) | with_reducible refine ⟨_, Eq.refl (List.map _ _), ?_⟩ | (with_reducible refine Exists.intro (by omega) ?_) | rfl | (intro h0; omega) | omega
    rintro ⟨i3, b3, j, hi3, hb3, hj⟩ he
    obtain ⟨e1, e2⟩ := he
    obtain rfl : i3 = i2 := e1
    obtain rfl : b3 = b := e2
    dsimp only
    have ebj : IntKind.i64.wrap ((b3 : Int) + (j : Int)) = ((b3 + j : Nat) : Int) := by rw [wrap64 (by omega) (by omega)]; omega
    have nat2 : ∀ n : Nat, (n : Int).toNat = n := fun n => rfl
    simp only [ebj, nat2, ic_getD, limb_get x hb', lsum_int]
    have hX := lsum_lt (limb x b3) (mA x i3) b3 (mC (limb x b3) (mA x i3) b3 (mB x (mA x i3) b3) j) j
    generalize hG : lsum (limb x b3) (mA x i3) b3 (mC (limb x b3) (mA x i3) b3 (mB x (mA x i3) b3) j) j = X at *
    have em : ((X : Nat) : Int).tmod 4294967296 = ((X % 4294967296 : Nat) : Int) := rfl
    have ed : IntKind.u64.wrap (((X : Nat) : Int).tdiv 4294967296) = ((X / 4294967296 : Nat) : Int) := by
      rw [show ((X : Nat) : Int).tdiv 4294967296 = ((X / 4294967296 : Nat) : Int) from rfl, wrapU64]
      omega
    simp only [em, ed, ← ic_set, inext (show j < 9223372036854775807 by omega), inext (show b3 < 9223372036854775807 by omega)]
    have hs : mC (limb x b3) (mA x i3) b3 (mB x (mA x i3) b3) (j + 1) = ((mC (limb x b3) (mA x i3) b3 (mB x (mA x i3) b3) j).1.set (b3 + j) (X % 4294967296), X / 4294967296) := by
      rw [← hG]
      rfl
    refine bif_dec (fun h3 => ?_) (fun h3 => ?_)
    ·
      repeat (with_reducible refine And.intro (by first | exact trivial | omega | decide) ?_)
      refine ⟨⟨i3, b3, j + 1, hi', hb', by omega⟩, ⟨show 6 - (j + 1) < 6 - j by omega, rfl, rfl⟩, ?_⟩
      dsimp only
      rw [hs]
      repeat' first | exact trivial | refine And.intro ?_ ?_ | with_reducible refine bif_dt (by assumption) ?_ | with_reducible refine bif_df (by assumption) ?_ | with_reducible refine bif_dec (fun _ => ?_) (fun _ => ?_) | with_reducible refine bif_not ?_ | with_reducible refine bif_and ?_ | with_reducible refine bif_or ?_ | with_reducible refine bif_t (by assumption) ?_ | with_reducible refine bif_f (by assumption) ?_ | with_reducible refine bif_t (beq_self_eq_true _) ?_ | with_reducible refine bif_b (fun _ => ?_) (fun _ => ?_) | with_reducible refine ⟨_, Eq.refl (List.map _ _), ?_⟩ | (with_reducible refine Exists.intro (by omega) ?_) | rfl | (intro h0; omega) | omega
    · have : j = 6 - b3 := by omega
      subst this
      refine ⟨⟨i3, b3 + 1, hi', by omega⟩, ⟨show 2 - (b3 + 1) < 2 - b3 by omega, rfl⟩, ?_⟩
      repeat' first | exact trivial | refine And.intro ?_ ?_ | with_reducible refine bif_dt (by assumption) ?_ | with_reducible refine bif_df (by assumption) ?_ | with_reducible refine bif_dec (fun _ => ?_) (fun _ => ?_) | with_reducible refine bif_not ?_ | with_reducible refine bif_and ?_ | with_reducible refine bif_or ?_ | with_reducible refine bif_t (by assumption) ?_ | with_reducible refine bif_f (by assumption) ?_ | with_reducible refine bif_t (beq_self_eq_true _) ?_ | with_reducible refine bif_b (fun _ => ?_) (fun _ => ?_) | with_reducible refine ⟨_, Eq.refl (List.map _ _), ?_⟩ | (with_reducible refine Exists.intro (by omega) ?_) | rfl | (intro h0; omega) | omega
  · have : b = 2 := by omega
    subst this
    rw [inext (show i2 < 9223372036854775807 by omega)]
    refine ⟨⟨i2 + 1, hi'⟩, ⟨show k - (i2 + 1) < k - i2 by omega, trivial⟩, ?_⟩
    repeat' first | exact trivial | refine And.intro ?_ ?_ | with_reducible refine bif_dt (by assumption) ?_ | with_reducible refine bif_df (by assumption) ?_ | with_reducible refine bif_dec (fun _ => ?_) (fun _ => ?_) | with_reducible refine bif_not ?_ | with_reducible refine bif_and ?_ | with_reducible refine bif_or ?_ | with_reducible refine bif_t (by assumption) ?_ | with_reducible refine bif_f (by assumption) ?_ | with_reducible refine bif_t (beq_self_eq_true _) ?_ | with_reducible refine bif_b (fun _ => ?_) (fun _ => ?_) | with_reducible refine ⟨_, Eq.refl (List.map _ _), ?_⟩ | (with_reducible refine Exists.intro (by omega) ?_) | rfl | (intro h0; omega) | omega
theorem power_spec' {x k : Int} (h : (0 ≤ x ∧ x < 18446744073709551616) ∧ 0 ≤ k ∧ k < 9223372036854775807) : SFun Tryd.prog 120 [u64 x, int k] (.agg [l6 (mA x.toNat k.toNat)]) := by
  have := power_spec x.toNat k.toNat (by omega) (by omega)
  rwa [show ((x.toNat : Nat) : Int) = x by omega, show ((k.toNat : Nat) : Int) = k by omega] at this
def powerT : List M → (M → Prop) → Prop
  | [.one (.v (.int .u64 x)), .one (.v (.int .i64 k))], K => ((0 ≤ x ∧ x < 18446744073709551616) ∧ 0 ≤ k ∧ k < 9223372036854775807) ∧ K (.agg [l6 (mA x.toNat k.toNat)])
  | _, _ => False
theorem power_ok : POK Tryd.prog 120 powerT := by
  intro ms K h
  unfold powerT at h ⊢
  split at h
  · exact ⟨_, h.2, (power_spec' h.1), rfl, fun _ hk => ⟨h.1, hk⟩⟩
  · exact h.elim

theorem bitI (s : Nat) (hs : s < 38) : shl .u64 1 (IntKind.u64.wrap (37 - (s : Int))) = ((2 ^ (37 - s) : Nat) : Int) :=
  (by decide +kernel : ∀ s : Fin 38, shl .u64 1 (IntKind.u64.wrap (37 - (s.val : Int))) = ((2 ^ (37 - s.val) : Nat) : Int)) ⟨s, hs⟩
structure R1T where
  s : Nat
  hs : s ≤ 38
abbrev candF (p k s : Nat) : Nat := (rt p k s + 2 ^ (37 - s)) % 18446744073709551616
structure R2T (p k : Nat) where
  s : Nat
  w : Nat
  hs : s < 38
  hw : w ≤ 6
  he : leF (mA (candF p k s) k) (wantF p k) 6 = leF (mA (candF p k s) k) (wantF p k) w
theorem root_spec (p k : Nat) (hp : p < 18446744073709551616) (hk : k < 6) : SFun Tryd.prog 105 [u64 p, int k] (u32 (rootN p k : Nat)) := by
  refine SFun.inl [(120, powerT)] (SOK.cons power_ok SOK.nil) tok mixed [] IOK.nil false [(5, ⟨R1T, fun q => ⟨1, [(1, int k), (5, u64 (rt p k q.s : Nat)), (6, .one (.ptr 0 0)), (7, int (37 - (q.s : Int)))], [(0, .cells [l6 (wantF p k)])]⟩, fun q => 38 - q.s, fun _ _ => True⟩), (11, ⟨R2T p k, fun q => ⟨2, [(1, int k), (5, u64 (rt p k q.s : Nat)), (6, .one (.ptr 0 0)), (7, int (37 - (q.s : Int))), (8, u64 (candF p k q.s : Nat)), (9, .one (.ptr 1 0)), (10, bool true), (11, int ((q.w : Int) - 1))], [(0, .cells [l6 (wantF p k)]), (1, .cells [l6 (mA (candF p k q.s) k)])]⟩, fun q => q.w, fun p q => q.s = p.s⟩)] [] Tryd.call105 Tryd.func105 rfl (by rfl) ?_
  refine Eq.mp (α := (And ((0 : Int) ≤ (↑k : Int)) (And (Int.toNat (↑k : Int) < (6 : Nat)) (And (Int.toNat (↑k : Int) < (6 : Nat)) (∃ i0 : R1T, (And (And True (And (And ((↑k : Int) = (↑k : Int)) (And ((↑(rt p k (R1T.s i0)) : Int) = (0 : Int)) (And (And ((true : Bool) = true) ((0 : Nat) = (0 : Nat))) (And ((37 : Int) - (↑(R1T.s i0) : Int) = (37 : Int)) True)))) (And (And (And (ic (wantF p k) = List.set (List.replicate (6 : Nat) (0 : Int)) (Int.toNat (↑k : Int)) (↑p : Int)) True) (And ((true : Bool) = true) True)) ((true : Bool) = true)))) (∀ i : R1T, (∀ a : True, (@Bool.rec (fun _ => Prop) (And ((4294967296 : Int) ≠ (0 : Int)) (And (M.one (SV.v (Value.int IntKind.u32 (IntKind.wrap IntKind.u32 (Int.tmod (↑(rt p k (R1T.s i)) : Int) (4294967296 : Int))))) = M.one (SV.v (Value.int IntKind.u32 (↑(rootN p k) : Int)))) ((true : Bool) = true))) (And ((0 : Int) ≤ IntKind.wrap IntKind.u64 ((37 : Int) - (↑(R1T.s i) : Int))) (And (And (And ((0 : Int) ≤ IntKind.wrap IntKind.u64 ((↑(rt p k (R1T.s i)) : Int) + shl IntKind.u64 (1 : Int) (IntKind.wrap IntKind.u64 ((37 : Int) - (↑(R1T.s i) : Int))))) (IntKind.wrap IntKind.u64 ((↑(rt p k (R1T.s i)) : Int) + shl IntKind.u64 (1 : Int) (IntKind.wrap IntKind.u64 ((37 : Int) - (↑(R1T.s i) : Int)))) < (18446744073709551616 : Int))) (And ((0 : Int) ≤ (↑k : Int)) ((↑k : Int) < (9223372036854775807 : Int)))) (∃ i0_1 : R2T p k, (And (And (R2T.s i0_1 = R2T.s i0_1) (And (And ((↑k : Int) = (↑k : Int)) (And ((↑(rt p k (R2T.s i0_1)) : Int) = (↑(rt p k (R1T.s i)) : Int)) (And (And ((true : Bool) = true) ((0 : Nat) = (0 : Nat))) (And ((37 : Int) - (↑(R2T.s i0_1) : Int) = (37 : Int) - (↑(R1T.s i) : Int)) (And ((↑(candF p k (R2T.s i0_1)) : Int) = IntKind.wrap IntKind.u64 ((↑(rt p k (R1T.s i)) : Int) + shl IntKind.u64 (1 : Int) (IntKind.wrap IntKind.u64 ((37 : Int) - (↑(R1T.s i) : Int))))) (And (And ((true : Bool) = true) ((0 : Nat) = (0 : Nat))) (And ((true : Bool) = true) (And ((↑(R2T.w i0_1) : Int) - (1 : Int) = (5 : Int)) True)))))))) (And (And (And (ic (wantF p k) = ic (wantF p k)) True) (And ((true : Bool) = true) (And (And (ic (mA (candF p k (R2T.s i0_1)) k) = ic (mA (Int.toNat (IntKind.wrap IntKind.u64 ((↑(rt p k (R1T.s i)) : Int) + shl IntKind.u64 (1 : Int) (IntKind.wrap IntKind.u64 ((37 : Int) - (↑(R1T.s i) : Int)))))) (Int.toNat (↑k : Int)))) True) (And ((true : Bool) = true) True)))) ((true : Bool) = true)))) (∀ i_1 : R2T p k, (∀ a_1 : R2T.s i_1 = R2T.s i0_1, (@Bool.rec (fun _ => Prop) (∃ i' : R1T, (And (And ((38 : Nat) - R1T.s i' < (38 : Nat) - R1T.s i) True) (And (And ((↑k : Int) = (↑k : Int)) (And ((↑(rt p k (R1T.s i')) : Int) = (↑(candF p k (R2T.s i_1)) : Int)) (And (And ((true : Bool) = true) ((0 : Nat) = (0 : Nat))) (And ((37 : Int) - (↑(R1T.s i') : Int) = IntKind.wrap IntKind.i64 ((37 : Int) - (↑(R2T.s i_1) : Int) - (1 : Int))) True)))) (And (And (And (ic (wantF p k) = ic (wantF p k)) True) (And ((true : Bool) = true) True)) ((true : Bool) = true))))) (And ((0 : Int) ≤ (↑(R2T.w i_1) : Int) - (1 : Int)) (And (Int.toNat ((↑(R2T.w i_1) : Int) - (1 : Int)) < (6 : Nat)) (And (Int.toNat ((↑(R2T.w i_1) : Int) - (1 : Int)) < (6 : Nat)) (And ((0 : Int) ≤ (↑(R2T.w i_1) : Int) - (1 : Int)) (And (Int.toNat ((↑(R2T.w i_1) : Int) - (1 : Int)) < (6 : Nat)) (And (Int.toNat ((↑(R2T.w i_1) : Int) - (1 : Int)) < (6 : Nat)) (@Bool.rec (fun _ => Prop) (∃ i' : R2T p k, (And (And (R2T.w i' < R2T.w i_1) (R2T.s i' = R2T.s i0_1)) (And (And ((↑k : Int) = (↑k : Int)) (And ((↑(rt p k (R2T.s i')) : Int) = (↑(rt p k (R2T.s i_1)) : Int)) (And (And ((true : Bool) = true) ((0 : Nat) = (0 : Nat))) (And ((37 : Int) - (↑(R2T.s i') : Int) = (37 : Int) - (↑(R2T.s i_1) : Int)) (And ((↑(candF p k (R2T.s i')) : Int) = (↑(candF p k (R2T.s i_1)) : Int)) (And (And ((true : Bool) = true) ((0 : Nat) = (0 : Nat))) (And ((true : Bool) = true) (And ((↑(R2T.w i') : Int) - (1 : Int) = IntKind.wrap IntKind.i64 ((↑(R2T.w i_1) : Int) - (1 : Int) - (1 : Int))) True)))))))) (And (And (And (ic (wantF p k) = ic (wantF p k)) True) (And ((true : Bool) = true) (And (And (ic (mA (candF p k (R2T.s i')) k) = ic (mA (candF p k (R2T.s i_1)) k)) True) (And ((true : Bool) = true) True)))) ((true : Bool) = true))))) (And ((0 : Int) ≤ (↑(R2T.w i_1) : Int) - (1 : Int)) (And (Int.toNat ((↑(R2T.w i_1) : Int) - (1 : Int)) < (6 : Nat)) (And (Int.toNat ((↑(R2T.w i_1) : Int) - (1 : Int)) < (6 : Nat)) (And ((0 : Int) ≤ (↑(R2T.w i_1) : Int) - (1 : Int)) (And (Int.toNat ((↑(R2T.w i_1) : Int) - (1 : Int)) < (6 : Nat)) (And (Int.toNat ((↑(R2T.w i_1) : Int) - (1 : Int)) < (6 : Nat)) (@Bool.rec (fun _ => Prop) (∃ i' : R1T, (And (And ((38 : Nat) - R1T.s i' < (38 : Nat) - R1T.s i) True) (And (And ((↑k : Int) = (↑k : Int)) (And ((↑(rt p k (R1T.s i')) : Int) = (↑(rt p k (R2T.s i_1)) : Int)) (And (And ((true : Bool) = true) ((0 : Nat) = (0 : Nat))) (And ((37 : Int) - (↑(R1T.s i') : Int) = IntKind.wrap IntKind.i64 ((37 : Int) - (↑(R2T.s i_1) : Int) - (1 : Int))) True)))) (And (And (And (ic (wantF p k) = ic (wantF p k)) True) (And ((true : Bool) = true) True)) ((true : Bool) = true))))) (∃ i' : R1T, (And (And ((38 : Nat) - R1T.s i' < (38 : Nat) - R1T.s i) True) (And (And ((↑k : Int) = (↑k : Int)) (And ((↑(rt p k (R1T.s i')) : Int) = (↑(candF p k (R2T.s i_1)) : Int)) (And (And ((true : Bool) = true) ((0 : Nat) = (0 : Nat))) (And ((37 : Int) - (↑(R1T.s i') : Int) = IntKind.wrap IntKind.i64 ((37 : Int) - (↑(R2T.s i_1) : Int) - (1 : Int))) True)))) (And (And (And (ic (wantF p k) = ic (wantF p k)) True) (And ((true : Bool) = true) True)) ((true : Bool) = true))))) (decide (List.getD (ic (mA (candF p k (R2T.s i_1)) k)) (Int.toNat ((↑(R2T.w i_1) : Int) - (1 : Int))) (0 : Int) < List.getD (ic (wantF p k)) (Int.toNat ((↑(R2T.w i_1) : Int) - (1 : Int))) (0 : Int)))))))))) (List.getD (ic (mA (candF p k (R2T.s i_1)) k)) (Int.toNat ((↑(R2T.w i_1) : Int) - (1 : Int))) (0 : Int) != List.getD (ic (wantF p k)) (Int.toNat ((↑(R2T.w i_1) : Int) - (1 : Int))) (0 : Int))))))))) (decide ((0 : Int) ≤ (↑(R2T.w i_1) : Int) - (1 : Int)))))))))) (decide ((0 : Int) ≤ (37 : Int) - (↑(R1T.s i) : Int)))))))))))) (by kernel_rfl) ?_
  have nat2 : ∀ n : Nat, (n : Int).toNat = n := fun n => rfl
  have hw : ic (wantF p k) = (List.replicate 6 (0 : Int)).set k (p : Int) := ic_set _ _ _
  simp only [nat2]
  refine ⟨by omega, hk, hk, ⟨0, Nat.zero_le _⟩, ?_, ?_⟩
  ·
    repeat' first | exact hw | exact trivial | refine And.intro ?_ ?_ | with_reducible refine bif_dt (by assumption) ?_ | with_reducible refine bif_df (by assumption) ?_ | with_reducible refine bif_dec (fun _ => ?_) (fun _ => ?_) | with_reducible refine bif_not ?_ | with_reducible refine bif_and ?_ | with_reducible refine bif_or ?_ | with_reducible refine bif_t (by assumption) ?_ | with_reducible refine bif_f (by assumption) ?_ | with_reducible refine bif_t (beq_self_eq_true _) ?_ | with_reducible refine bif_b (fun _ => ?_) (fun _ => ?_) | with_reducible refine ⟨_, Eq.refl (List.map _ _), ?_⟩ | (with_reducible refine Exists.intro (by omega) ?_) | rfl | (intro h0; omega) | omega
  rintro ⟨s, hs⟩ -
  dsimp only
  refine bif_dec (fun h => ?_) (fun h => ?_)
  rotate_left
  · have : s = 38 := by omega
    subst this
    refine ⟨by decide, ?_, trivial⟩
    rw [show IntKind.u32.wrap (((rt p k 38 : Nat) : Int).tmod 4294967296) = ((rootN p k : Nat) : Int) by
      rw [show ((rt p k 38 : Nat) : Int).tmod 4294967296 = ((rt p k 38 % 4294967296 : Nat) : Int) from rfl, wrap_u32]
      unfold rootN
      omega]
  have hs' : s < 38 := by omega
  have ec : IntKind.u64.wrap (((rt p k s : Nat) : Int) + shl .u64 1 (IntKind.u64.wrap (37 - (s : Int)))) = ((candF p k s : Nat) : Int) := by
    rw [bitI s hs', wrapU64]
    rfl
  have hc : candF p k s < 18446744073709551616 := Nat.mod_lt _ (by decide)
  simp only [ec, nat2]
  refine ⟨by rw [wrapU64]; omega, ⟨⟨by omega, by omega⟩, by omega, by omega⟩, ⟨s, 6, hs', by decide, rfl⟩, ?_, ?_⟩
  ·
    repeat' first | exact trivial | refine And.intro ?_ ?_ | with_reducible refine bif_dt (by assumption) ?_ | with_reducible refine bif_df (by assumption) ?_ | with_reducible refine bif_dec (fun _ => ?_) (fun _ => ?_) | with_reducible refine bif_not ?_ | with_reducible refine bif_and ?_ | with_reducible refine bif_or ?_ | with_reducible refine bif_t (by assumption) ?_ | with_reducible refine bif_f (by assumption) ?_ | with_reducible refine bif_t (beq_self_eq_true _) ?_ | with_reducible refine bif_b (fun _ => ?_) (fun _ => ?_) | with_reducible refine ⟨_, Eq.refl (List.map _ _), ?_⟩ | (with_reducible refine Exists.intro (by omega) ?_) | rfl | (intro h0; omega) | omega
  rintro ⟨s2, w, hs2, hw6, he⟩ e
  obtain rfl : s2 = s := e
  dsimp only
  have ew : IntKind.i64.wrap (37 - (s2 : Int) - 1) = 37 - ((s2 + 1 : Nat) : Int) := by rw [wrap64 (by omega) (by omega)]; omega
  have hrt : rt p k (s2 + 1) = bif leF (mA (candF p k s2) k) (wantF p k) 6 then candF p k s2 else rt p k s2 := rfl
  simp only [ew]
  refine bif_dec (fun h1 => ?_) (fun h1 => ?_)
  · obtain ⟨v, rfl⟩ : ∃ v, w = v + 1 := ⟨w - 1, by omega⟩
    have ev : ((v + 1 : Nat) : Int) - 1 = (v : Int) := by omega
    have ev2 : IntKind.i64.wrap ((v : Int) - 1) = (v : Int) - 1 := by rw [wrap64 (by omega) (by omega)]
    simp only [ev, nat2, ic_getD, ev2]
    refine ⟨by omega, by omega, by omega, by omega, by omega, by omega, ?_⟩
    have hle : leF (mA (candF p k s2) k) (wantF p k) (v + 1) = if (mA (candF p k s2) k).getD v 0 = (wantF p k).getD v 0 then leF (mA (candF p k s2) k) (wantF p k) v else decide ((mA (candF p k s2) k).getD v 0 < (wantF p k).getD v 0) := rfl
    refine bif_b (fun h2 => ?_) (fun h2 => ?_)
    · have hne : ¬ (mA (candF p k s2) k).getD v 0 = (wantF p k).getD v 0 := fun e => by rw [e] at h2; simp at h2
      rw [if_neg hne] at hle
      refine ⟨by omega, by omega, by omega, by omega, by omega, by omega, ?_⟩
      refine bif_dec (fun h3 => ?_) (fun h3 => ?_)
      · rw [decide_eq_true (by omega)] at hle
        rw [he, hle] at hrt
        refine ⟨⟨s2 + 1, hs'⟩, ⟨show 38 - (s2 + 1) < 38 - s2 by omega, trivial⟩, ?_⟩
        dsimp only
        rw [hrt]
        repeat' first | exact trivial | refine And.intro ?_ ?_ | with_reducible refine bif_dt (by assumption) ?_ | with_reducible refine bif_df (by assumption) ?_ | with_reducible refine bif_dec (fun _ => ?_) (fun _ => ?_) | with_reducible refine bif_not ?_ | with_reducible refine bif_and ?_ | with_reducible refine bif_or ?_ | with_reducible refine bif_t (by assumption) ?_ | with_reducible refine bif_f (by assumption) ?_ | with_reducible refine bif_t (beq_self_eq_true _) ?_ | with_reducible refine bif_b (fun _ => ?_) (fun _ => ?_) | with_reducible refine ⟨_, Eq.refl (List.map _ _), ?_⟩ | (with_reducible refine Exists.intro (by omega) ?_) | rfl | (intro h0; omega) | omega
      · rw [decide_eq_false (by omega)] at hle
        rw [he, hle] at hrt
        refine ⟨⟨s2 + 1, hs'⟩, ⟨show 38 - (s2 + 1) < 38 - s2 by omega, trivial⟩, ?_⟩
        dsimp only
        rw [hrt]
        repeat' first | exact trivial | refine And.intro ?_ ?_ | with_reducible refine bif_dt (by assumption) ?_ | with_reducible refine bif_df (by assumption) ?_ | with_reducible refine bif_dec (fun _ => ?_) (fun _ => ?_) | with_reducible refine bif_not ?_ | with_reducible refine bif_and ?_ | with_reducible refine bif_or ?_ | with_reducible refine bif_t (by assumption) ?_ | with_reducible refine bif_f (by assumption) ?_ | with_reducible refine bif_t (beq_self_eq_true _) ?_ | with_reducible refine bif_b (fun _ => ?_) (fun _ => ?_) | with_reducible refine ⟨_, Eq.refl (List.map _ _), ?_⟩ | (with_reducible refine Exists.intro (by omega) ?_) | rfl | (intro h0; omega) | omega
    · have heq : (mA (candF p k s2) k).getD v 0 = (wantF p k).getD v 0 := by
        have h3 : (((mA (candF p k s2) k).getD v 0 : Nat) : Int) = (((wantF p k).getD v 0 : Nat) : Int) := by simpa using h2
        omega
      rw [if_pos heq] at hle
      refine ⟨⟨s2, v, hs', by omega, he.trans hle⟩, ⟨Nat.lt_succ_self _, rfl⟩, ?_⟩
      repeat' first | exact trivial | refine And.intro ?_ ?_ | with_reducible refine bif_dt (by assumption) ?_ | with_reducible refine bif_df (by assumption) ?_ | with_reducible refine bif_dec (fun _ => ?_) (fun _ => ?_) | with_reducible refine bif_not ?_ | with_reducible refine bif_and ?_ | with_reducible refine bif_or ?_ | with_reducible refine bif_t (by assumption) ?_ | with_reducible refine bif_f (by assumption) ?_ | with_reducible refine bif_t (beq_self_eq_true _) ?_ | with_reducible refine bif_b (fun _ => ?_) (fun _ => ?_) | with_reducible refine ⟨_, Eq.refl (List.map _ _), ?_⟩ | (with_reducible refine Exists.intro (by omega) ?_) | rfl | (intro h0; omega) | omega
  · have : w = 0 := by omega
    subst this
    rw [show leF (mA (candF p k s2) k) (wantF p k) 0 = true from rfl] at he
    rw [he] at hrt
    refine ⟨⟨s2 + 1, hs'⟩, ⟨show 38 - (s2 + 1) < 38 - s2 by omega, trivial⟩, ?_⟩
    dsimp only
    rw [hrt]
    repeat' first | exact trivial | refine And.intro ?_ ?_ | with_reducible refine bif_dt (by assumption) ?_ | with_reducible refine bif_df (by assumption) ?_ | with_reducible refine bif_dec (fun _ => ?_) (fun _ => ?_) | with_reducible refine bif_not ?_ | with_reducible refine bif_and ?_ | with_reducible refine bif_or ?_ | with_reducible refine bif_t (by assumption) ?_ | with_reducible refine bif_f (by assumption) ?_ | with_reducible refine bif_t (beq_self_eq_true _) ?_ | with_reducible refine bif_b (fun _ => ?_) (fun _ => ?_) | with_reducible refine ⟨_, Eq.refl (List.map _ _), ?_⟩ | (with_reducible refine Exists.intro (by omega) ?_) | rfl | (intro h0; omega) | omega
theorem root_spec' {p k : Int} (h : (0 ≤ p ∧ p < 18446744073709551616) ∧ 0 ≤ k ∧ k < 6) : SFun Tryd.prog 105 [u64 p, int k] (u32 (rootN p.toNat k.toNat : Nat)) := by
  have := root_spec p.toNat k.toNat (by omega) (by omega)
  rwa [show ((p.toNat : Nat) : Int) = p by omega, show ((k.toNat : Nat) : Int) = k by omega] at this
def rootT : List M → (M → Prop) → Prop
  | [.one (.v (.int .u64 p)), .one (.v (.int .i64 k))], K => ((0 ≤ p ∧ p < 18446744073709551616) ∧ 0 ≤ k ∧ k < 6) ∧ K (u32 (rootN p.toNat k.toNat : Nat))
  | _, _ => False
theorem root_ok : POK Tryd.prog 105 rootT := by
  intro ms K h
  unfold rootT at h ⊢
  split at h
  · exact ⟨_, h.2, (root_spec' h.1), rfl, fun _ hk => ⟨h.1, hk⟩⟩
  · exact h.elim

end Go.Proofs.YtblapbjafbmndaaDoor
