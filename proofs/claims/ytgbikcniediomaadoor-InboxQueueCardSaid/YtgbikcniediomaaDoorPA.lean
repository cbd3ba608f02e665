/- A word turned to the right, by the program and by the document. -/
import Derived.Test.YtgbikcniediomaaDoorTab5
import Derived.Test.YtgbikcniediomaaDoorDD
import Derived.Test.YtgbikcniediomaaDoorSx24
namespace Go.Proofs.YtgbikcniediomaaDoor.Dg
open Go Go.Sx Go.Sha
set_option linter.unusedVariables false
set_option linter.unusedSimpArgs false
set_option maxRecDepth 100000
set_option maxHeartbeats 4000000

abbrev u64 (x : Int) : M := .one (.v (.int .u64 x))
abbrev u32 (x : Int) : M := .one (.v (.int .u32 x))
abbrev int (x : Int) : M := .one (.v (.int .i64 x))
abbrev bool (b : Bool) : M := .one (.v (.bool b))
abbrev str (s : ByteArray) : M := .one (.v (.string s))
abbrev eB : Int → List SV := (encInt .u8).enc
abbrev byV (x : Value) (b : List Int) : M := .one (.view x 1 (encInt .u8).enc b)
abbrev h32 (l : List Int) : M := .agg [.ints .u8 32 l]

theorem wrap64 {x : Int} (h1 : -9223372036854775808 ≤ x) (h2 : x < 9223372036854775808) : IntKind.i64.wrap x = x := by
  simp [IntKind.wrap, IntKind.bits, IntKind.signed]
  omega
theorem wrapU64 (x : Int) : IntKind.u64.wrap x = x % 18446744073709551616 := by
  simp [IntKind.wrap, IntKind.bits, IntKind.signed]

theorem turn_spec {x n : Int} (h1 : 0 ≤ n) (h2 : n ≤ 32) : SFun Tryd.prog 51 [u32 x, int n] (u32 (rot x n)) := by
  refine SFun.inl [] SOK.nil tok mixed [] IOK.nil true [] [] Tryd.call51 Tryd.func51 rfl (by rfl) ?_
  refine Eq.mp (α := (And ((0 : Int) ≤ n) (And ((0 : Int) ≤ IntKind.wrap IntKind.i64 ((32 : Int) - n)) (And (M.one (SV.v (Value.int IntKind.u32 (Sx.bits BinOp.or IntKind.u32 (shr IntKind.u32 x n) (shl IntKind.u32 x (IntKind.wrap IntKind.i64 ((32 : Int) - n)))))) = M.one (SV.v (Value.int IntKind.u32 (rot x n)))) ((true : Bool) = true))))) (by kernel_rfl) ?_
  rw [wrap64 (x := 32 - n) (by omega) (by omega)]
  repeat' first | exact trivial | refine And.intro ?_ ?_ | with_reducible refine bif_dt (by assumption) ?_ | with_reducible refine bif_df (by assumption) ?_ | with_reducible refine bif_dec (fun _ => ?_) (fun _ => ?_) | with_reducible refine bif_not ?_ | with_reducible refine bif_and ?_ | with_reducible refine bif_or ?_ | with_reducible refine bif_t (by assumption) ?_ | with_reducible refine bif_f (by assumption) ?_ | with_reducible refine bif_t (beq_self_eq_true _) ?_ | with_reducible refine bif_b (fun _ => ?_) (fun _ => ?_) | with_reducible refine ⟨_, Eq.refl (List.map _ _), ?_⟩ | (with_reducible refine Exists.intro (by omega) ?_) | rfl | (intro h0; omega) | omega
def turnT : List M → (M → Prop) → Prop
  | [.one (.v (.int .u32 x)), .one (.v (.int .i64 n))], K => (0 ≤ n ∧ n ≤ 32) ∧ K (u32 (rot x n))
  | _, _ => False
theorem turn_ok : POK Tryd.prog 51 turnT := by
  intro ms K h
  unfold turnT at h ⊢
  split at h
  · exact ⟨_, h.2, (turn_spec h.1.1 h.1.2), rfl, fun _ hk => ⟨h.1, hk⟩⟩
  · exact h.elim

open Go Go.Sx Go.Sha

structure NiT (n : Nat) where
  i : Nat
  h : i ≤ n
theorem block_spec (x : Value) {s b : List Int} (hs : s.length = 8) (hb : By b) (hl : 64 ≤ b.length) : SMem Tryd.prog 49 [.one (.ptr 0 0), byV x b] 1 [(0, .cells [.ints .u32 8 s])]
    (fun _ : Unit => ⟨2, .tup [], [(0, .cells [.ints .u32 8 (blockF roundsL s b)])]⟩) := by
  refine SMem.inm [(51, turnT)] (SOK.cons turn_ok SOK.nil) [] MSOK.nil tok mixed [] IOK.nil true [(2, ⟨NiT 64, fun p => ⟨2, [(0, .one (.ptr 0 0)), (1, byV x b), (4, .one (.ptr 1 0)), (22, int p.i)], [(0, .cells [.ints .u32 8 s]), (1, .cells [.ints .u32 64 (wsF b p.i)])]⟩, fun p => 64 - p.i, fun _ _ => True⟩), (11, ⟨NiT 64, fun p => ⟨2, [(0, .one (.ptr 0 0)), (8, u32 (rnds roundsL (wsF b 64) (r8 s) p.i).a), (9, u32 (rnds roundsL (wsF b 64) (r8 s) p.i).b), (10, u32 (rnds roundsL (wsF b 64) (r8 s) p.i).c), (11, u32 (rnds roundsL (wsF b 64) (r8 s) p.i).d), (12, u32 (rnds roundsL (wsF b 64) (r8 s) p.i).e), (13, u32 (rnds roundsL (wsF b 64) (r8 s) p.i).f), (14, u32 (rnds roundsL (wsF b 64) (r8 s) p.i).g), (15, u32 (rnds roundsL (wsF b 64) (r8 s) p.i).h), (132, .agg [.ints .u32 64 (wsF b 64)]), (133, int p.i)], [(0, .cells [.ints .u32 8 s])]⟩, fun p => 64 - p.i, fun _ _ => True⟩), (18, ⟨NiT 8, fun p => ⟨1, [(0, .one (.ptr 0 0)), (203, .agg [.ints .u32 8 (rnds roundsL (wsF b 64) (r8 s) 64).l]), (204, int p.i)], [(0, .cells [.ints .u32 8 (mixF s (rnds roundsL (wsF b 64) (r8 s) 64) p.i)])]⟩, fun p => 8 - p.i, fun _ _ => True⟩)] [] Tryd.call49 Tryd.func49 rfl (by rfl) ?_
  refine Eq.mp (α := (∃ i0 : NiT (64 : Nat), (And (And True (And (And (And ((true : Bool) = true) ((0 : Nat) = (0 : Nat))) (And (SV.view x (1 : Nat) (Enc.enc (encInt IntKind.u8)) b = SV.view x (1 : Nat) (Enc.enc (encInt IntKind.u8)) b) (And (And ((true : Bool) = true) ((0 : Nat) = (0 : Nat))) (And ((↑(NiT.i i0) : Int) = (0 : Int)) True)))) (And (And (And (s = s) True) (And ((true : Bool) = true) (And (And (wsF b (NiT.i i0) = List.replicate (64 : Nat) (0 : Int)) True) (And ((true : Bool) = true) True)))) ((true : Bool) = true)))) (∀ i : NiT (64 : Nat), (∀ a : True, (@Bool.rec (fun _ => Prop) (And ((0 : Int) ≤ (0 : Int)) (And (Int.toNat (0 : Int) < (8 : Nat)) (And (Int.toNat (0 : Int) < (8 : Nat)) (And ((0 : Int) ≤ (1 : Int)) (And (Int.toNat (1 : Int) < (8 : Nat)) (And (Int.toNat (1 : Int) < (8 : Nat)) (And ((0 : Int) ≤ (2 : Int)) (And (Int.toNat (2 : Int) < (8 : Nat)) (And (Int.toNat (2 : Int) < (8 : Nat)) (And ((0 : Int) ≤ (3 : Int)) (And (Int.toNat (3 : Int) < (8 : Nat)) (And (Int.toNat (3 : Int) < (8 : Nat)) (And ((0 : Int) ≤ (4 : Int)) (And (Int.toNat (4 : Int) < (8 : Nat)) (And (Int.toNat (4 : Int) < (8 : Nat)) (And ((0 : Int) ≤ (5 : Int)) (And (Int.toNat (5 : Int) < (8 : Nat)) (And (Int.toNat (5 : Int) < (8 : Nat)) (And ((0 : Int) ≤ (6 : Int)) (And (Int.toNat (6 : Int) < (8 : Nat)) (And (Int.toNat (6 : Int) < (8 : Nat)) (And ((0 : Int) ≤ (7 : Int)) (And (Int.toNat (7 : Int) < (8 : Nat)) (And (Int.toNat (7 : Int) < (8 : Nat)) (∃ i0_1 : NiT (64 : Nat), (And (And True (And (And (And ((true : Bool) = true) ((0 : Nat) = (0 : Nat))) (And (R8.a (rnds roundsL (wsF b (64 : Nat)) (r8 s) (NiT.i i0_1)) = List.getD s (Int.toNat (0 : Int)) (0 : Int)) (And (R8.b (rnds roundsL (wsF b (64 : Nat)) (r8 s) (NiT.i i0_1)) = List.getD s (Int.toNat (1 : Int)) (0 : Int)) (And (R8.c (rnds roundsL (wsF b (64 : Nat)) (r8 s) (NiT.i i0_1)) = List.getD s (Int.toNat (2 : Int)) (0 : Int)) (And (R8.d (rnds roundsL (wsF b (64 : Nat)) (r8 s) (NiT.i i0_1)) = List.getD s (Int.toNat (3 : Int)) (0 : Int)) (And (R8.e (rnds roundsL (wsF b (64 : Nat)) (r8 s) (NiT.i i0_1)) = List.getD s (Int.toNat (4 : Int)) (0 : Int)) (And (R8.f (rnds roundsL (wsF b (64 : Nat)) (r8 s) (NiT.i i0_1)) = List.getD s (Int.toNat (5 : Int)) (0 : Int)) (And (R8.g (rnds roundsL (wsF b (64 : Nat)) (r8 s) (NiT.i i0_1)) = List.getD s (Int.toNat (6 : Int)) (0 : Int)) (And (R8.h (rnds roundsL (wsF b (64 : Nat)) (r8 s) (NiT.i i0_1)) = List.getD s (Int.toNat (7 : Int)) (0 : Int)) (And (And (wsF b (64 : Nat) = wsF b (NiT.i i)) True) (And ((↑(NiT.i i0_1) : Int) = (0 : Int)) True))))))))))) (And (And (And (s = s) True) (And ((true : Bool) = true) True)) ((true : Bool) = true)))) (∀ i_1 : NiT (64 : Nat), (∀ a_1 : True, (@Bool.rec (fun _ => Prop) (∃ i0_2 : NiT (8 : Nat), (And (And True (And (And (And ((true : Bool) = true) ((0 : Nat) = (0 : Nat))) (And (And (R8.l (rnds roundsL (wsF b (64 : Nat)) (r8 s) (64 : Nat)) = List.set (List.set (List.set (List.set (List.set (List.set (List.set (List.set (List.replicate (8 : Nat) (0 : Int)) ((0 : Nat) * (1 : Nat)) (R8.a (rnds roundsL (wsF b (64 : Nat)) (r8 s) (NiT.i i_1)))) ((1 : Nat) * (1 : Nat)) (R8.b (rnds roundsL (wsF b (64 : Nat)) (r8 s) (NiT.i i_1)))) ((2 : Nat) * (1 : Nat)) (R8.c (rnds roundsL (wsF b (64 : Nat)) (r8 s) (NiT.i i_1)))) ((3 : Nat) * (1 : Nat)) (R8.d (rnds roundsL (wsF b (64 : Nat)) (r8 s) (NiT.i i_1)))) ((4 : Nat) * (1 : Nat)) (R8.e (rnds roundsL (wsF b (64 : Nat)) (r8 s) (NiT.i i_1)))) ((5 : Nat) * (1 : Nat)) (R8.f (rnds roundsL (wsF b (64 : Nat)) (r8 s) (NiT.i i_1)))) ((6 : Nat) * (1 : Nat)) (R8.g (rnds roundsL (wsF b (64 : Nat)) (r8 s) (NiT.i i_1)))) ((7 : Nat) * (1 : Nat)) (R8.h (rnds roundsL (wsF b (64 : Nat)) (r8 s) (NiT.i i_1)))) True) (And ((↑(NiT.i i0_2) : Int) = (0 : Int)) True))) (And (And (And (mixF s (rnds roundsL (wsF b (64 : Nat)) (r8 s) (64 : Nat)) (NiT.i i0_2) = s) True) (And ((true : Bool) = true) True)) ((true : Bool) = true)))) (∀ i_2 : NiT (8 : Nat), (∀ a_2 : True, (@Bool.rec (fun _ => Prop) (∃ o : Unit, (And (And True True) (And (And (And (blockF roundsL s b = mixF s (rnds roundsL (wsF b (64 : Nat)) (r8 s) (64 : Nat)) (NiT.i i_2)) True) (And ((true : Bool) = true) True)) ((true : Bool) = true)))) (And ((0 : Int) ≤ (↑(NiT.i i_2) : Int)) (And (Int.toNat (↑(NiT.i i_2) : Int) < (8 : Nat)) (And (Int.toNat (↑(NiT.i i_2) : Int) < (8 : Nat)) (And ((0 : Int) ≤ (↑(NiT.i i_2) : Int)) (And (Int.toNat (↑(NiT.i i_2) : Int) < (8 : Nat)) (And (Int.toNat (↑(NiT.i i_2) : Int) < (8 : Nat)) (And ((0 : Int) ≤ (↑(NiT.i i_2) : Int)) (And (Int.toNat (↑(NiT.i i_2) : Int) < (8 : Nat)) (And (Int.toNat (↑(NiT.i i_2) : Int) < (8 : Nat)) (∃ i' : NiT (8 : Nat), (And (And ((8 : Nat) - NiT.i i' < (8 : Nat) - NiT.i i_2) True) (And (And (And ((true : Bool) = true) ((0 : Nat) = (0 : Nat))) (And (And (R8.l (rnds roundsL (wsF b (64 : Nat)) (r8 s) (64 : Nat)) = R8.l (rnds roundsL (wsF b (64 : Nat)) (r8 s) (64 : Nat))) True) (And ((↑(NiT.i i') : Int) = IntKind.wrap IntKind.i64 ((↑(NiT.i i_2) : Int) + (1 : Int))) True))) (And (And (And (mixF s (rnds roundsL (wsF b (64 : Nat)) (r8 s) (64 : Nat)) (NiT.i i') = List.set (mixF s (rnds roundsL (wsF b (64 : Nat)) (r8 s) (64 : Nat)) (NiT.i i_2)) (Int.toNat (↑(NiT.i i_2) : Int)) (IntKind.wrap IntKind.u32 (List.getD (mixF s (rnds roundsL (wsF b (64 : Nat)) (r8 s) (64 : Nat)) (NiT.i i_2)) (Int.toNat (↑(NiT.i i_2) : Int)) (0 : Int) + List.getD (R8.l (rnds roundsL (wsF b (64 : Nat)) (r8 s) (64 : Nat))) (Int.toNat (↑(NiT.i i_2) : Int)) (0 : Int)))) True) (And ((true : Bool) = true) True)) ((true : Bool) = true)))))))))))))) (decide ((↑(NiT.i i_2) : Int) < (8 : Int)))))))) (And ((0 : Int) ≤ (↑(NiT.i i_1) : Int)) (And (Int.toNat (↑(NiT.i i_1) : Int) < (64 : Nat)) (And (Int.toNat (↑(NiT.i i_1) : Int) < (64 : Nat)) (And (And ((0 : Int) ≤ (6 : Int)) ((6 : Int) ≤ (32 : Int))) (And (And ((0 : Int) ≤ (11 : Int)) ((11 : Int) ≤ (32 : Int))) (And (And ((0 : Int) ≤ (25 : Int)) ((25 : Int) ≤ (32 : Int))) (And ((0 : Int) ≤ (↑(NiT.i i_1) : Int)) (And (Int.toNat (↑(NiT.i i_1) : Int) < (64 : Nat)) (And (Int.toNat (↑(NiT.i i_1) : Int) < (64 : Nat)) (And (And ((0 : Int) ≤ (2 : Int)) ((2 : Int) ≤ (32 : Int))) (And (And ((0 : Int) ≤ (13 : Int)) ((13 : Int) ≤ (32 : Int))) (And (And ((0 : Int) ≤ (22 : Int)) ((22 : Int) ≤ (32 : Int))) (∃ i' : NiT (64 : Nat), (And (And ((64 : Nat) - NiT.i i' < (64 : Nat) - NiT.i i_1) True) (And (And (And ((true : Bool) = true) ((0 : Nat) = (0 : Nat))) (And (R8.a (rnds roundsL (wsF b (64 : Nat)) (r8 s) (NiT.i i')) = IntKind.wrap IntKind.u32 (IntKind.wrap IntKind.u32 (IntKind.wrap IntKind.u32 (IntKind.wrap IntKind.u32 (IntKind.wrap IntKind.u32 (R8.h (rnds roundsL (wsF b (64 : Nat)) (r8 s) (NiT.i i_1)) + Sx.bits BinOp.xor IntKind.u32 (Sx.bits BinOp.xor IntKind.u32 (rot (R8.e (rnds roundsL (wsF b (64 : Nat)) (r8 s) (NiT.i i_1))) (6 : Int)) (rot (R8.e (rnds roundsL (wsF b (64 : Nat)) (r8 s) (NiT.i i_1))) (11 : Int))) (rot (R8.e (rnds roundsL (wsF b (64 : Nat)) (r8 s) (NiT.i i_1))) (25 : Int))) + Sx.bits BinOp.xor IntKind.u32 (Sx.bits BinOp.and IntKind.u32 (R8.e (rnds roundsL (wsF b (64 : Nat)) (r8 s) (NiT.i i_1))) (R8.f (rnds roundsL (wsF b (64 : Nat)) (r8 s) (NiT.i i_1)))) (Sx.bits BinOp.and IntKind.u32 (Sx.bits BinOp.xor IntKind.u32 (if IntKind.signed IntKind.u32 = true then (-1 : Int) else IntKind.max IntKind.u32) (R8.e (rnds roundsL (wsF b (64 : Nat)) (r8 s) (NiT.i i_1)))) (R8.g (rnds roundsL (wsF b (64 : Nat)) (r8 s) (NiT.i i_1))))) + List.getD roundsL (Int.toNat (↑(NiT.i i_1) : Int)) (0 : Int)) + List.getD (wsF b (64 : Nat)) (Int.toNat (↑(NiT.i i_1) : Int)) (0 : Int)) + IntKind.wrap IntKind.u32 (Sx.bits BinOp.xor IntKind.u32 (Sx.bits BinOp.xor IntKind.u32 (rot (R8.a (rnds roundsL (wsF b (64 : Nat)) (r8 s) (NiT.i i_1))) (2 : Int)) (rot (R8.a (rnds roundsL (wsF b (64 : Nat)) (r8 s) (NiT.i i_1))) (13 : Int))) (rot (R8.a (rnds roundsL (wsF b (64 : Nat)) (r8 s) (NiT.i i_1))) (22 : Int)) + Sx.bits BinOp.xor IntKind.u32 (Sx.bits BinOp.xor IntKind.u32 (Sx.bits BinOp.and IntKind.u32 (R8.a (rnds roundsL (wsF b (64 : Nat)) (r8 s) (NiT.i i_1))) (R8.b (rnds roundsL (wsF b (64 : Nat)) (r8 s) (NiT.i i_1)))) (Sx.bits BinOp.and IntKind.u32 (R8.a (rnds roundsL (wsF b (64 : Nat)) (r8 s) (NiT.i i_1))) (R8.c (rnds roundsL (wsF b (64 : Nat)) (r8 s) (NiT.i i_1))))) (Sx.bits BinOp.and IntKind.u32 (R8.b (rnds roundsL (wsF b (64 : Nat)) (r8 s) (NiT.i i_1))) (R8.c (rnds roundsL (wsF b (64 : Nat)) (r8 s) (NiT.i i_1))))))) (And (R8.b (rnds roundsL (wsF b (64 : Nat)) (r8 s) (NiT.i i')) = R8.a (rnds roundsL (wsF b (64 : Nat)) (r8 s) (NiT.i i_1))) (And (R8.c (rnds roundsL (wsF b (64 : Nat)) (r8 s) (NiT.i i')) = R8.b (rnds roundsL (wsF b (64 : Nat)) (r8 s) (NiT.i i_1))) (And (R8.d (rnds roundsL (wsF b (64 : Nat)) (r8 s) (NiT.i i')) = R8.c (rnds roundsL (wsF b (64 : Nat)) (r8 s) (NiT.i i_1))) (And (R8.e (rnds roundsL (wsF b (64 : Nat)) (r8 s) (NiT.i i')) = IntKind.wrap IntKind.u32 (R8.d (rnds roundsL (wsF b (64 : Nat)) (r8 s) (NiT.i i_1)) + IntKind.wrap IntKind.u32 (IntKind.wrap IntKind.u32 (IntKind.wrap IntKind.u32 (IntKind.wrap IntKind.u32 (R8.h (rnds roundsL (wsF b (64 : Nat)) (r8 s) (NiT.i i_1)) + Sx.bits BinOp.xor IntKind.u32 (Sx.bits BinOp.xor IntKind.u32 (rot (R8.e (rnds roundsL (wsF b (64 : Nat)) (r8 s) (NiT.i i_1))) (6 : Int)) (rot (R8.e (rnds roundsL (wsF b (64 : Nat)) (r8 s) (NiT.i i_1))) (11 : Int))) (rot (R8.e (rnds roundsL (wsF b (64 : Nat)) (r8 s) (NiT.i i_1))) (25 : Int))) + Sx.bits BinOp.xor IntKind.u32 (Sx.bits BinOp.and IntKind.u32 (R8.e (rnds roundsL (wsF b (64 : Nat)) (r8 s) (NiT.i i_1))) (R8.f (rnds roundsL (wsF b (64 : Nat)) (r8 s) (NiT.i i_1)))) (Sx.bits BinOp.and IntKind.u32 (Sx.bits BinOp.xor IntKind.u32 (if IntKind.signed IntKind.u32 = true then (-1 : Int) else IntKind.max IntKind.u32) (R8.e (rnds roundsL (wsF b (64 : Nat)) (r8 s) (NiT.i i_1)))) (R8.g (rnds roundsL (wsF b (64 : Nat)) (r8 s) (NiT.i i_1))))) + List.getD roundsL (Int.toNat (↑(NiT.i i_1) : Int)) (0 : Int)) + List.getD (wsF b (64 : Nat)) (Int.toNat (↑(NiT.i i_1) : Int)) (0 : Int)))) (And (R8.f (rnds roundsL (wsF b (64 : Nat)) (r8 s) (NiT.i i')) = R8.e (rnds roundsL (wsF b (64 : Nat)) (r8 s) (NiT.i i_1))) (And (R8.g (rnds roundsL (wsF b (64 : Nat)) (r8 s) (NiT.i i')) = R8.f (rnds roundsL (wsF b (64 : Nat)) (r8 s) (NiT.i i_1))) (And (R8.h (rnds roundsL (wsF b (64 : Nat)) (r8 s) (NiT.i i')) = R8.g (rnds roundsL (wsF b (64 : Nat)) (r8 s) (NiT.i i_1))) (And (And (wsF b (64 : Nat) = wsF b (64 : Nat)) True) (And ((↑(NiT.i i') : Int) = IntKind.wrap IntKind.i64 ((↑(NiT.i i_1) : Int) + (1 : Int))) True))))))))))) (And (And (And (s = s) True) (And ((true : Bool) = true) True)) ((true : Bool) = true))))))))))))))))) (decide ((↑(NiT.i i_1) : Int) < (64 : Int)))))))))))))))))))))))))))))))) (@Bool.rec (fun _ => Prop) (And ((0 : Int) ≤ IntKind.wrap IntKind.i64 ((↑(NiT.i i) : Int) - (15 : Int))) (And (Int.toNat (IntKind.wrap IntKind.i64 ((↑(NiT.i i) : Int) - (15 : Int))) < (64 : Nat)) (And (Int.toNat (IntKind.wrap IntKind.i64 ((↑(NiT.i i) : Int) - (15 : Int))) < (64 : Nat)) (And ((0 : Int) ≤ IntKind.wrap IntKind.i64 ((↑(NiT.i i) : Int) - (2 : Int))) (And (Int.toNat (IntKind.wrap IntKind.i64 ((↑(NiT.i i) : Int) - (2 : Int))) < (64 : Nat)) (And (Int.toNat (IntKind.wrap IntKind.i64 ((↑(NiT.i i) : Int) - (2 : Int))) < (64 : Nat)) (And ((0 : Int) ≤ IntKind.wrap IntKind.i64 ((↑(NiT.i i) : Int) - (16 : Int))) (And (Int.toNat (IntKind.wrap IntKind.i64 ((↑(NiT.i i) : Int) - (16 : Int))) < (64 : Nat)) (And (Int.toNat (IntKind.wrap IntKind.i64 ((↑(NiT.i i) : Int) - (16 : Int))) < (64 : Nat)) (And (And ((0 : Int) ≤ (7 : Int)) ((7 : Int) ≤ (32 : Int))) (And (And ((0 : Int) ≤ (18 : Int)) ((18 : Int) ≤ (32 : Int))) (And ((0 : Int) ≤ (3 : Int)) (And ((0 : Int) ≤ IntKind.wrap IntKind.i64 ((↑(NiT.i i) : Int) - (7 : Int))) (And (Int.toNat (IntKind.wrap IntKind.i64 ((↑(NiT.i i) : Int) - (7 : Int))) < (64 : Nat)) (And (Int.toNat (IntKind.wrap IntKind.i64 ((↑(NiT.i i) : Int) - (7 : Int))) < (64 : Nat)) (And (And ((0 : Int) ≤ (17 : Int)) ((17 : Int) ≤ (32 : Int))) (And (And ((0 : Int) ≤ (19 : Int)) ((19 : Int) ≤ (32 : Int))) (And ((0 : Int) ≤ (10 : Int)) (And ((0 : Int) ≤ (↑(NiT.i i) : Int)) (And (Int.toNat (↑(NiT.i i) : Int) < (64 : Nat)) (And (Int.toNat (↑(NiT.i i) : Int) < (64 : Nat)) (∃ i' : NiT (64 : Nat), (And (And ((64 : Nat) - NiT.i i' < (64 : Nat) - NiT.i i) True) (And (And (And ((true : Bool) = true) ((0 : Nat) = (0 : Nat))) (And (SV.view x (1 : Nat) (Enc.enc (encInt IntKind.u8)) b = SV.view x (1 : Nat) (Enc.enc (encInt IntKind.u8)) b) (And (And ((true : Bool) = true) ((0 : Nat) = (0 : Nat))) (And ((↑(NiT.i i') : Int) = IntKind.wrap IntKind.i64 ((↑(NiT.i i) : Int) + (1 : Int))) True)))) (And (And (And (s = s) True) (And ((true : Bool) = true) (And (And (wsF b (NiT.i i') = List.set (wsF b (NiT.i i)) (Int.toNat (↑(NiT.i i) : Int)) (IntKind.wrap IntKind.u32 (IntKind.wrap IntKind.u32 (IntKind.wrap IntKind.u32 (List.getD (wsF b (NiT.i i)) (Int.toNat (IntKind.wrap IntKind.i64 ((↑(NiT.i i) : Int) - (16 : Int)))) (0 : Int) + Sx.bits BinOp.xor IntKind.u32 (Sx.bits BinOp.xor IntKind.u32 (rot (List.getD (wsF b (NiT.i i)) (Int.toNat (IntKind.wrap IntKind.i64 ((↑(NiT.i i) : Int) - (15 : Int)))) (0 : Int)) (7 : Int)) (rot (List.getD (wsF b (NiT.i i)) (Int.toNat (IntKind.wrap IntKind.i64 ((↑(NiT.i i) : Int) - (15 : Int)))) (0 : Int)) (18 : Int))) (shr IntKind.u32 (List.getD (wsF b (NiT.i i)) (Int.toNat (IntKind.wrap IntKind.i64 ((↑(NiT.i i) : Int) - (15 : Int)))) (0 : Int)) (3 : Int))) + List.getD (wsF b (NiT.i i)) (Int.toNat (IntKind.wrap IntKind.i64 ((↑(NiT.i i) : Int) - (7 : Int)))) (0 : Int)) + Sx.bits BinOp.xor IntKind.u32 (Sx.bits BinOp.xor IntKind.u32 (rot (List.getD (wsF b (NiT.i i)) (Int.toNat (IntKind.wrap IntKind.i64 ((↑(NiT.i i) : Int) - (2 : Int)))) (0 : Int)) (17 : Int)) (rot (List.getD (wsF b (NiT.i i)) (Int.toNat (IntKind.wrap IntKind.i64 ((↑(NiT.i i) : Int) - (2 : Int)))) (0 : Int)) (19 : Int))) (shr IntKind.u32 (List.getD (wsF b (NiT.i i)) (Int.toNat (IntKind.wrap IntKind.i64 ((↑(NiT.i i) : Int) - (2 : Int)))) (0 : Int)) (10 : Int))))) True) (And ((true : Bool) = true) True)))) ((true : Bool) = true)))))))))))))))))))))))))) (And ((0 : Int) ≤ IntKind.wrap IntKind.i64 ((4 : Int) * (↑(NiT.i i) : Int))) (∃ hk : Int.toNat (IntKind.wrap IntKind.i64 ((4 : Int) * (↑(NiT.i i) : Int))) < List.length b, (And ((0 : Int) ≤ (24 : Int)) (And ((0 : Int) ≤ IntKind.wrap IntKind.i64 (IntKind.wrap IntKind.i64 ((4 : Int) * (↑(NiT.i i) : Int)) + (1 : Int))) (∃ hk_1 : Int.toNat (IntKind.wrap IntKind.i64 (IntKind.wrap IntKind.i64 ((4 : Int) * (↑(NiT.i i) : Int)) + (1 : Int))) < List.length b, (And ((0 : Int) ≤ (16 : Int)) (And ((0 : Int) ≤ IntKind.wrap IntKind.i64 (IntKind.wrap IntKind.i64 ((4 : Int) * (↑(NiT.i i) : Int)) + (2 : Int))) (∃ hk_2 : Int.toNat (IntKind.wrap IntKind.i64 (IntKind.wrap IntKind.i64 ((4 : Int) * (↑(NiT.i i) : Int)) + (2 : Int))) < List.length b, (And ((0 : Int) ≤ (8 : Int)) (And ((0 : Int) ≤ IntKind.wrap IntKind.i64 (IntKind.wrap IntKind.i64 ((4 : Int) * (↑(NiT.i i) : Int)) + (3 : Int))) (∃ hk_3 : Int.toNat (IntKind.wrap IntKind.i64 (IntKind.wrap IntKind.i64 ((4 : Int) * (↑(NiT.i i) : Int)) + (3 : Int))) < List.length b, (And ((0 : Int) ≤ (↑(NiT.i i) : Int)) (And (Int.toNat (↑(NiT.i i) : Int) < (64 : Nat)) (And (Int.toNat (↑(NiT.i i) : Int) < (64 : Nat)) (∃ i' : NiT (64 : Nat), (And (And ((64 : Nat) - NiT.i i' < (64 : Nat) - NiT.i i) True) (And (And (And ((true : Bool) = true) ((0 : Nat) = (0 : Nat))) (And (SV.view x (1 : Nat) (Enc.enc (encInt IntKind.u8)) b = SV.view x (1 : Nat) (Enc.enc (encInt IntKind.u8)) b) (And (And ((true : Bool) = true) ((0 : Nat) = (0 : Nat))) (And ((↑(NiT.i i') : Int) = IntKind.wrap IntKind.i64 ((↑(NiT.i i) : Int) + (1 : Int))) True)))) (And (And (And (s = s) True) (And ((true : Bool) = true) (And (And (wsF b (NiT.i i') = List.set (wsF b (NiT.i i)) (Int.toNat (↑(NiT.i i) : Int)) (Sx.bits BinOp.or IntKind.u32 (Sx.bits BinOp.or IntKind.u32 (Sx.bits BinOp.or IntKind.u32 (shl IntKind.u32 (IntKind.wrap IntKind.u32 b[Int.toNat (IntKind.wrap IntKind.i64 ((4 : Int) * (↑(NiT.i i) : Int)))]) (24 : Int)) (shl IntKind.u32 (IntKind.wrap IntKind.u32 b[Int.toNat (IntKind.wrap IntKind.i64 (IntKind.wrap IntKind.i64 ((4 : Int) * (↑(NiT.i i) : Int)) + (1 : Int)))]) (16 : Int))) (shl IntKind.u32 (IntKind.wrap IntKind.u32 b[Int.toNat (IntKind.wrap IntKind.i64 (IntKind.wrap IntKind.i64 ((4 : Int) * (↑(NiT.i i) : Int)) + (2 : Int)))]) (8 : Int))) (IntKind.wrap IntKind.u32 b[Int.toNat (IntKind.wrap IntKind.i64 (IntKind.wrap IntKind.i64 ((4 : Int) * (↑(NiT.i i) : Int)) + (3 : Int)))]))) True) (And ((true : Bool) = true) True)))) ((true : Bool) = true))))))))))))))))))) (decide ((↑(NiT.i i) : Int) < (16 : Int)))) (decide ((↑(NiT.i i) : Int) < (64 : Int))))))))) (by kernel_rfl) ?_
  refine ⟨⟨0, Nat.zero_le _⟩, ?_, ?_⟩
  ·
    repeat' first | exact trivial | refine And.intro ?_ ?_ | with_reducible refine bif_dt (by assumption) ?_ | with_reducible refine bif_df (by assumption) ?_ | with_reducible refine bif_dec (fun _ => ?_) (fun _ => ?_) | with_reducible refine bif_not ?_ | with_reducible refine bif_and ?_ | with_reducible refine bif_or ?_ | with_reducible refine bif_t (by assumption) ?_ | with_reducible refine bif_f (by assumption) ?_ | with_reducible refine bif_t (beq_self_eq_true _) ?_ | with_reducible refine bif_b (fun _ => ?_) (fun _ => ?_) | with_reducible refine ⟨_, Eq.refl (List.map _ _), ?_⟩ | (with_reducible refine Exists.intro (by omega) ?_) | rfl | (intro h0; omega) | omega
  rintro ⟨i, hi⟩ -
  dsimp only
  have hi4 : IntKind.i64.wrap ((i : Int) + 1) = ((i + 1 : Nat) : Int) := by rw [wrap64 (by omega) (by omega)]; omega
  refine bif_dec (fun h => ?_) (fun h => ?_)
  · have hi' : i < 64 := by omega
    refine bif_dec (fun h2 => ?_) (fun h2 => ?_)
    · have h2' : i < 16 := by omega
      have e0 : IntKind.i64.wrap (4 * (i : Int)) = ((4 * i : Nat) : Int) := by rw [wrap64 (by omega) (by omega)]; omega
      have e1 : IntKind.i64.wrap (((4 * i : Nat) : Int) + 1) = ((4 * i + 1 : Nat) : Int) := by rw [wrap64 (by omega) (by omega)]; omega
      have e2 : IntKind.i64.wrap (((4 * i : Nat) : Int) + 2) = ((4 * i + 2 : Nat) : Int) := by rw [wrap64 (by omega) (by omega)]; omega
      have e3 : IntKind.i64.wrap (((4 * i : Nat) : Int) + 3) = ((4 * i + 3 : Nat) : Int) := by rw [wrap64 (by omega) (by omega)]; omega
      simp only [e0, e1, e2, e3, hi4, Int.toNat_natCast]
      have key : ∀ j (hj : j < b.length), IntKind.u32.wrap b[j] = b.getD j 0 := fun j hj => by
        have := hb _ (List.getElem_mem hj)
        rw [wrap_id ⟨this.1, by omega⟩, List.getD_eq_getElem?_getD, List.getElem?_eq_getElem hj]
        rfl
      refine ⟨by omega, by omega, by omega, by omega, by omega, by omega, by omega, by omega, by omega, by omega, by omega, by omega, by omega, by omega, ⟨i + 1, by omega⟩, ⟨by show 64 - (i + 1) < 64 - i; omega, trivial⟩, ?_⟩
      have hw : wsF b (i + 1) = (wsF b i).set i (be4 b i) := by simp only [wsF, if_pos h2']
      simp only [key, or4 (hb.getD _) (hb.getD _) (hb.getD _) (hb.getD _)]
      repeat' first | exact hw | exact trivial | refine And.intro ?_ ?_ | with_reducible refine bif_dt (by assumption) ?_ | with_reducible refine bif_df (by assumption) ?_ | with_reducible refine bif_dec (fun _ => ?_) (fun _ => ?_) | with_reducible refine bif_not ?_ | with_reducible refine bif_and ?_ | with_reducible refine bif_or ?_ | with_reducible refine bif_t (by assumption) ?_ | with_reducible refine bif_f (by assumption) ?_ | with_reducible refine bif_t (beq_self_eq_true _) ?_ | with_reducible refine bif_b (fun _ => ?_) (fun _ => ?_) | with_reducible refine ⟨_, Eq.refl (List.map _ _), ?_⟩ | (with_reducible refine Exists.intro (by omega) ?_) | rfl | (intro h0; omega) | omega
    · have e15 : IntKind.i64.wrap ((i : Int) - 15) = ((i - 15 : Nat) : Int) := by rw [wrap64 (by omega) (by omega)]; omega
      have e2 : IntKind.i64.wrap ((i : Int) - 2) = ((i - 2 : Nat) : Int) := by rw [wrap64 (by omega) (by omega)]; omega
      have e16 : IntKind.i64.wrap ((i : Int) - 16) = ((i - 16 : Nat) : Int) := by rw [wrap64 (by omega) (by omega)]; omega
      have e7 : IntKind.i64.wrap ((i : Int) - 7) = ((i - 7 : Nat) : Int) := by rw [wrap64 (by omega) (by omega)]; omega
      simp only [e15, e2, e16, e7, hi4, Int.toNat_natCast]
      have hw : wsF b (i + 1) = (wsF b i).set i (sch (wsF b i) i) := by simp only [wsF, if_neg (show ¬ i < 16 by omega)]
      repeat (with_reducible refine And.intro (by first | exact trivial | omega | decide) ?_)
      refine ⟨⟨i + 1, by omega⟩, ⟨by show 64 - (i + 1) < 64 - i; omega, trivial⟩, ?_⟩
      repeat' first | exact hw | exact trivial | refine And.intro ?_ ?_ | with_reducible refine bif_dt (by assumption) ?_ | with_reducible refine bif_df (by assumption) ?_ | with_reducible refine bif_dec (fun _ => ?_) (fun _ => ?_) | with_reducible refine bif_not ?_ | with_reducible refine bif_and ?_ | with_reducible refine bif_or ?_ | with_reducible refine bif_t (by assumption) ?_ | with_reducible refine bif_f (by assumption) ?_ | with_reducible refine bif_t (beq_self_eq_true _) ?_ | with_reducible refine bif_b (fun _ => ?_) (fun _ => ?_) | with_reducible refine ⟨_, Eq.refl (List.map _ _), ?_⟩ | (with_reducible refine Exists.intro (by omega) ?_) | rfl | (intro h0; omega) | omega
  have hi64 : i = 64 := by omega
  subst hi64
  repeat (with_reducible refine And.intro (by first | exact trivial | omega | decide) ?_)
  refine ⟨⟨0, Nat.zero_le _⟩, ?_, ?_⟩
  ·
    repeat' first | exact trivial | refine And.intro ?_ ?_ | with_reducible refine bif_dt (by assumption) ?_ | with_reducible refine bif_df (by assumption) ?_ | with_reducible refine bif_dec (fun _ => ?_) (fun _ => ?_) | with_reducible refine bif_not ?_ | with_reducible refine bif_and ?_ | with_reducible refine bif_or ?_ | with_reducible refine bif_t (by assumption) ?_ | with_reducible refine bif_f (by assumption) ?_ | with_reducible refine bif_t (beq_self_eq_true _) ?_ | with_reducible refine bif_b (fun _ => ?_) (fun _ => ?_) | with_reducible refine ⟨_, Eq.refl (List.map _ _), ?_⟩ | (with_reducible refine Exists.intro (by omega) ?_) | rfl | (intro h0; omega) | omega
  rintro ⟨i, hi2⟩ -
  dsimp only
  have hi4 : IntKind.i64.wrap ((i : Int) + 1) = ((i + 1 : Nat) : Int) := by rw [wrap64 (by omega) (by omega)]; omega
  refine bif_dec (fun h => ?_) (fun h => ?_)
  · simp only [hi4, Int.toNat_natCast]
    repeat (with_reducible refine And.intro (by first | exact trivial | omega | decide) ?_)
    refine ⟨⟨i + 1, by omega⟩, ⟨by show 64 - (i + 1) < 64 - i; omega, trivial⟩, ?_⟩
    repeat' first | exact trivial | refine And.intro ?_ ?_ | with_reducible refine bif_dt (by assumption) ?_ | with_reducible refine bif_df (by assumption) ?_ | with_reducible refine bif_dec (fun _ => ?_) (fun _ => ?_) | with_reducible refine bif_not ?_ | with_reducible refine bif_and ?_ | with_reducible refine bif_or ?_ | with_reducible refine bif_t (by assumption) ?_ | with_reducible refine bif_f (by assumption) ?_ | with_reducible refine bif_t (beq_self_eq_true _) ?_ | with_reducible refine bif_b (fun _ => ?_) (fun _ => ?_) | with_reducible refine ⟨_, Eq.refl (List.map _ _), ?_⟩ | (with_reducible refine Exists.intro (by omega) ?_) | rfl | (intro h0; omega) | omega
  have hi64 : i = 64 := by omega
  subst hi64
  refine ⟨⟨0, Nat.zero_le _⟩, ?_, ?_⟩
  ·
    repeat' first | exact trivial | refine And.intro ?_ ?_ | with_reducible refine bif_dt (by assumption) ?_ | with_reducible refine bif_df (by assumption) ?_ | with_reducible refine bif_dec (fun _ => ?_) (fun _ => ?_) | with_reducible refine bif_not ?_ | with_reducible refine bif_and ?_ | with_reducible refine bif_or ?_ | with_reducible refine bif_t (by assumption) ?_ | with_reducible refine bif_f (by assumption) ?_ | with_reducible refine bif_t (beq_self_eq_true _) ?_ | with_reducible refine bif_b (fun _ => ?_) (fun _ => ?_) | with_reducible refine ⟨_, Eq.refl (List.map _ _), ?_⟩ | (with_reducible refine Exists.intro (by omega) ?_) | rfl | (intro h0; omega) | omega
  rintro ⟨i, hi3⟩ -
  dsimp only
  have hi4 : IntKind.i64.wrap ((i : Int) + 1) = ((i + 1 : Nat) : Int) := by rw [wrap64 (by omega) (by omega)]; omega
  refine bif_dec (fun h => ?_) (fun h => ?_)
  · simp only [hi4, Int.toNat_natCast]
    repeat (with_reducible refine And.intro (by first | exact trivial | omega | decide) ?_)
    refine ⟨⟨i + 1, by omega⟩, ⟨by show 8 - (i + 1) < 8 - i; omega, trivial⟩, ?_⟩
    repeat' first | exact trivial | refine And.intro ?_ ?_ | with_reducible refine bif_dt (by assumption) ?_ | with_reducible refine bif_df (by assumption) ?_ | with_reducible refine bif_dec (fun _ => ?_) (fun _ => ?_) | with_reducible refine bif_not ?_ | with_reducible refine bif_and ?_ | with_reducible refine bif_or ?_ | with_reducible refine bif_t (by assumption) ?_ | with_reducible refine bif_f (by assumption) ?_ | with_reducible refine bif_t (beq_self_eq_true _) ?_ | with_reducible refine bif_b (fun _ => ?_) (fun _ => ?_) | with_reducible refine ⟨_, Eq.refl (List.map _ _), ?_⟩ | (with_reducible refine Exists.intro (by omega) ?_) | rfl | (intro h0; omega) | omega
  have hi8 : i = 8 := by omega
  subst hi8
  refine ⟨(), ?_⟩
  have hm := (mixF_8 hs roundsL b).symm
  repeat' first | exact hm | exact trivial | refine And.intro ?_ ?_ | with_reducible refine bif_dt (by assumption) ?_ | with_reducible refine bif_df (by assumption) ?_ | with_reducible refine bif_dec (fun _ => ?_) (fun _ => ?_) | with_reducible refine bif_not ?_ | with_reducible refine bif_and ?_ | with_reducible refine bif_or ?_ | with_reducible refine bif_t (by assumption) ?_ | with_reducible refine bif_f (by assumption) ?_ | with_reducible refine bif_t (beq_self_eq_true _) ?_ | with_reducible refine bif_b (fun _ => ?_) (fun _ => ?_) | with_reducible refine ⟨_, Eq.refl (List.map _ _), ?_⟩ | (with_reducible refine Exists.intro (by omega) ?_) | rfl | (intro h0; omega) | omega
def blockT : MT := fun ms n h K => match ms with
  | [.one (.ptr P0 0), .one (.view vx0 ve0 en0 vl0)] => (match get h P0 with
    | some (.cells [.ints .u32 8 s]) => bif Nat.beq ve0 1 && noDup [P0] then ∃ b : List (Int), vl0.map en0 = b.map eB ∧ ((s.length = 8 ∧ By b ∧ 64 ≤ b.length)) ∧ (∀ o : Unit, K (n + 1) (.tup []) ([(P0, .cells [.ints .u32 8 (blockF roundsL s b)])] ++ delL [P0] h)) else False
    | _ => False)
  | _ => False
theorem block_mono : MMono blockT := by
  intro ms n h K K' hkk hk
  unfold blockT at hk ⊢
  split at hk
  · rename_i P0 vx0 ve0 va0 en0 vl0
    split at hk
    · rename_i s hg0
      try simp only [hg0]
      obtain ⟨hb, y0, z0, h1, h2⟩ := cond_false_elim hk
      rw [hb]
      exact ⟨y0, z0, h1, fun o => hkk _ _ _ (h2 o)⟩
    · exact hk.elim
  · exact hk.elim
theorem block_ok : MOK Tryd.prog 49 blockT := by
  refine ⟨?_, block_mono⟩
  intro ms n hB K hk
  unfold blockT at hk
  split at hk
  · rename_i P0 vx0 ve0 va0 en0 vl0
    split at hk
    · rename_i s hg0
      obtain ⟨hb, b, he0, h, hk2⟩ := cond_false_elim hk
      clear hk
      simp only [Bool.and_eq_true] at hb
      obtain ⟨hc0, hnd⟩ := hb
      have hs0 := Nat.eq_of_beq_eq_true hc0
      subst hs0
      refine SCall.seen ?_ (.cons (.refl _) (.cons (.view he0) .nil))
      exact (block_spec _ h.1 h.2.1 h.2.2).use (fun j => match j with | 0 => P0 | _ => 0) rfl rfl ⟨by show (match get hB P0 with | some b0 => Blk.imp _ _ _ b0 | none => False); rw [hg0]; exact ⟨rfl, rfl⟩, rfl, trivial⟩ (by exact hnd) (fun j hj => by cases j with
          | zero => exact ⟨_, rfl⟩
          | succ j => omega) (fun o => hk2 o)
    · exact hk.elim
  · exact hk.elim

open Go Go.Sx Go.Sha

theorem encB_pure (l : List Int) : ∀ x ∈ l, ∀ s ∈ (encInt .u8).enc x, s.isPure = true := fun x _ s hs => by
  have hs' : s ∈ [SV.v (.int .u8 x)] := hs
  rw [List.mem_singleton] at hs'
  subst hs'
  rfl
theorem castB (l : List Int) : castL (encInt .u8) (encInt .u8) l = l := castL_self _ _ rfl
theorem ofB (x : Int) : (encInt .u8).of (x, ()) = x := rfl
abbrev EB : Enc Int := encInt .u8
theorem bytesB (l : List Int) : bytesOf (encInt .u8).enc l = l := by
  unfold bytesOf
  exact List.map_id'' (fun _ => rfl) l
theorem isB (l : List Int) : ∀ x ∈ l, ∃ b : Int, (encInt .u8).enc x = [SV.v (.int .u8 b)] := fun x _ => ⟨x, rfl⟩

theorem sh8 (x : Int) (k : Nat) (h : k ≤ 64) : IntKind.u8.wrap (shr .u64 x (k : Int)) = x / 2 ^ k % 256 := by
  have h1 : shr .u64 x (k : Int) = x / 2 ^ k := by
    unfold shr
    rw [Int.toNat_natCast, show min k IntKind.u64.bits = k by simp [IntKind.bits]; omega, Int.fdiv_eq_ediv_of_nonneg _ (Int.le_of_lt (Int.pow_pos (by decide)))]
  rw [h1]
  simp [IntKind.wrap, IntKind.bits, IntKind.signed]
theorem e56 (x : Int) : IntKind.u8.wrap (shr .u64 x 56) = x / 72057594037927936 % 256 := sh8 x 56 (by decide)
theorem e48 (x : Int) : IntKind.u8.wrap (shr .u64 x 48) = x / 281474976710656 % 256 := sh8 x 48 (by decide)
theorem e40 (x : Int) : IntKind.u8.wrap (shr .u64 x 40) = x / 1099511627776 % 256 := sh8 x 40 (by decide)
theorem e32 (x : Int) : IntKind.u8.wrap (shr .u64 x 32) = x / 4294967296 % 256 := sh8 x 32 (by decide)
theorem e24 (x : Int) : IntKind.u8.wrap (shr .u64 x 24) = x / 16777216 % 256 := sh8 x 24 (by decide)
theorem e16 (x : Int) : IntKind.u8.wrap (shr .u64 x 16) = x / 65536 % 256 := sh8 x 16 (by decide)
theorem e08 (x : Int) : IntKind.u8.wrap (shr .u64 x 8) = x / 256 % 256 := sh8 x 8 (by decide)
theorem e00 (x : Int) : IntKind.u8.wrap (shr .u64 x 0) = x % 256 := by
  have := sh8 x 0 (by decide)
  rwa [show x / 2 ^ 0 = x by simp] at this
theorem eight_spec (x : Int) : SMem Tryd.prog 50 [u64 x] 0 [] (fun _ : Unit => ⟨1, .one (.slc 0 1 0 8 8), [(0, .row 1 (encInt .u8) (be8 x) 8)]⟩) := by
  refine SMem.inm [] SOK.nil [] MSOK.nil tok mixed [] IOK.nil true [] [] Tryd.call50 Tryd.func50 rfl (by rfl) ?_
  refine Eq.mp (α := (And ((0 : Int) ≤ (8 : Int)) (And ((0 : Int) ≤ (8 : Int)) (And (Int.toNat (8 : Int) ≤ Int.toNat (8 : Int)) (And ((1 : Nat) * Int.toNat (8 : Int) ≤ (281474976710656 : Nat)) (And (Int.toNat (8 : Int) ≤ (9223372036854775807 : Nat)) (And ((0 : Int) ≤ (56 : Int)) (And ((0 : Int) ≤ (0 : Int)) (And (Int.toNat (0 : Int) < Int.toNat (8 : Int)) (∃ hi : (0 : Nat) + Int.toNat (0 : Int) < (8 : Nat), (And ((0 : Int) ≤ (48 : Int)) (And ((0 : Int) ≤ (1 : Int)) (And (Int.toNat (1 : Int) < Int.toNat (8 : Int)) (∃ hi_1 : (0 : Nat) + Int.toNat (1 : Int) < (8 : Nat), (And ((0 : Int) ≤ (40 : Int)) (And ((0 : Int) ≤ (2 : Int)) (And (Int.toNat (2 : Int) < Int.toNat (8 : Int)) (∃ hi_2 : (0 : Nat) + Int.toNat (2 : Int) < (8 : Nat), (And ((0 : Int) ≤ (32 : Int)) (And ((0 : Int) ≤ (3 : Int)) (And (Int.toNat (3 : Int) < Int.toNat (8 : Int)) (∃ hi_3 : (0 : Nat) + Int.toNat (3 : Int) < (8 : Nat), (And ((0 : Int) ≤ (24 : Int)) (And ((0 : Int) ≤ (4 : Int)) (And (Int.toNat (4 : Int) < Int.toNat (8 : Int)) (∃ hi_4 : (0 : Nat) + Int.toNat (4 : Int) < (8 : Nat), (And ((0 : Int) ≤ (16 : Int)) (And ((0 : Int) ≤ (5 : Int)) (And (Int.toNat (5 : Int) < Int.toNat (8 : Int)) (∃ hi_5 : (0 : Nat) + Int.toNat (5 : Int) < (8 : Nat), (And ((0 : Int) ≤ (8 : Int)) (And ((0 : Int) ≤ (6 : Int)) (And (Int.toNat (6 : Int) < Int.toNat (8 : Int)) (∃ hi_6 : (0 : Nat) + Int.toNat (6 : Int) < (8 : Nat), (And ((0 : Int) ≤ (0 : Int)) (And ((0 : Int) ≤ (7 : Int)) (And (Int.toNat (7 : Int) < Int.toNat (8 : Int)) (∃ hi_7 : (0 : Nat) + Int.toNat (7 : Int) < (8 : Nat), (∃ o : Unit, (And (And (And ((true : Bool) = true) (And ((0 : Nat) = (0 : Nat)) (And ((8 : Nat) = Int.toNat (8 : Int)) ((8 : Nat) = Int.toNat (8 : Int))))) True) (And (And (And ((true : Bool) = true) (And ((8 : Nat) = Int.toNat (8 : Int)) (And (List.map (Enc.enc (encInt IntKind.u8)) (be8 x) = List.map (Enc.enc (encInt IntKind.u8)) (List.set (List.set (List.set (List.set (List.set (List.set (List.set (List.set (List.replicate (Int.toNat (8 : Int)) (Enc.of (encInt IntKind.u8) ((0 : Int), ()))) ((0 : Nat) + Int.toNat (0 : Int)) (Enc.of (encInt IntKind.u8) (IntKind.wrap IntKind.u8 (shr IntKind.u64 x (56 : Int)), ()))) ((0 : Nat) + Int.toNat (1 : Int)) (Enc.of (encInt IntKind.u8) (IntKind.wrap IntKind.u8 (shr IntKind.u64 x (48 : Int)), ()))) ((0 : Nat) + Int.toNat (2 : Int)) (Enc.of (encInt IntKind.u8) (IntKind.wrap IntKind.u8 (shr IntKind.u64 x (40 : Int)), ()))) ((0 : Nat) + Int.toNat (3 : Int)) (Enc.of (encInt IntKind.u8) (IntKind.wrap IntKind.u8 (shr IntKind.u64 x (32 : Int)), ()))) ((0 : Nat) + Int.toNat (4 : Int)) (Enc.of (encInt IntKind.u8) (IntKind.wrap IntKind.u8 (shr IntKind.u64 x (24 : Int)), ()))) ((0 : Nat) + Int.toNat (5 : Int)) (Enc.of (encInt IntKind.u8) (IntKind.wrap IntKind.u8 (shr IntKind.u64 x (16 : Int)), ()))) ((0 : Nat) + Int.toNat (6 : Int)) (Enc.of (encInt IntKind.u8) (IntKind.wrap IntKind.u8 (shr IntKind.u64 x (8 : Int)), ()))) ((0 : Nat) + Int.toNat (7 : Int)) (Enc.of (encInt IntKind.u8) (IntKind.wrap IntKind.u8 (shr IntKind.u64 x (0 : Int)), ())))) (∀ x_1 : Int, (∀ a : x_1 ∈ be8 x, (∀ s : SV, (∀ a_1 : s ∈ Enc.enc (encInt IntKind.u8) x_1, ((SV.isPure s : Bool) = (true))))))))) (And ((true : Bool) = true) True)) ((true : Bool) = true)))))))))))))))))))))))))))))))))))))))))) (by kernel_rfl) ?_
  simp only [e56, e48, e40, e32, e24, e16, e08, e00, ofB]
  repeat' first | exact encB_pure _ | (refine Exists.intro () ?_) | exact trivial | refine And.intro ?_ ?_ | with_reducible refine bif_dt (by assumption) ?_ | with_reducible refine bif_df (by assumption) ?_ | with_reducible refine bif_dec (fun _ => ?_) (fun _ => ?_) | with_reducible refine bif_not ?_ | with_reducible refine bif_and ?_ | with_reducible refine bif_or ?_ | with_reducible refine bif_t (by assumption) ?_ | with_reducible refine bif_f (by assumption) ?_ | with_reducible refine bif_t (beq_self_eq_true _) ?_ | with_reducible refine bif_b (fun _ => ?_) (fun _ => ?_) | with_reducible refine ⟨_, Eq.refl (List.map _ _), ?_⟩ | (with_reducible refine Exists.intro (by omega) ?_) | rfl | (intro h0; omega) | omega
def eightT : MT := fun ms n h K => match ms with
  | [.one (.v (.int .u64 x))] => bif true then True ∧ (∀ o : Unit, K (n + 1) (.one (.slc n 1 0 8 8)) ([(n, .row 1 (encInt .u8) (be8 x) 8)] ++ delL [] h)) else False
  | _ => False
theorem eight_mono : MMono eightT := by
  intro ms n h K K' hkk hk
  unfold eightT at hk ⊢
  split at hk
  · rename_i x
    obtain ⟨hb, h1, h2⟩ := cond_false_elim hk
    rw [hb]
    exact ⟨h1, fun o => hkk _ _ _ (h2 o)⟩
  · exact hk.elim
theorem eight_ok : MOK Tryd.prog 50 eightT := by
  refine ⟨?_, eight_mono⟩
  intro ms n hB K hk
  unfold eightT at hk
  split at hk
  · rename_i x
    obtain ⟨hb, h, hk2⟩ := cond_false_elim hk
    clear hk
    have hnd : noDup [] = true := rfl
    refine SCall.seen ?_ (.cons (.refl _) .nil)
    exact (eight_spec x).use (fun _ => 0) rfl rfl trivial (by exact hnd) (fun j hj => absurd hj (Nat.not_lt_zero j)) (fun o => hk2 o)
  · exact hk.elim

open Go Go.Sx Go.Sha

structure RsT (n : Nat) where
  i : Nat
  y : Value
  h : 64 * i ≤ n

theorem outStep (s : List Int) (i : Nat) (h : i < 32) : IntKind.i64.wrap (24 - IntKind.i64.wrap (8 * Int.tmod (i : Int) 4)) = ((24 - 8 * (i % 4) : Nat) : Int) := by
  have g2 : Int.tmod (i : Int) 4 = ((i % 4 : Nat) : Int) := rfl
  rw [g2, wrap64 (x := 8 * ((i % 4 : Nat) : Int)) (by omega) (by omega), wrap64 (by omega) (by omega)]
  omega
theorem quo4 (i : Nat) (h : i < 32) : IntKind.i64.wrap (Int.tdiv (i : Int) 4) = ((i / 4 : Nat) : Int) := by
  have g2 : Int.tdiv (i : Int) 4 = ((i / 4 : Nat) : Int) := rfl
  rw [g2, wrap64 (by omega) (by omega)]

theorem shaEx : ∃ f : List Int → List Int, f = sumF roundsL firstL := ⟨_, rfl⟩
noncomputable def shaF : List Int → List Int := Classical.choose shaEx
theorem shaF_eq (b : List Int) : shaF b = sumF roundsL firstL b := congrFun (Classical.choose_spec shaEx) b
theorem shaF_length (b : List Int) : (shaF b).length = 32 := by rw [shaF_eq]; exact sumF_length _ _ _
theorem shaF_By (b : List Int) : By (shaF b) := by rw [shaF_eq]; exact sumF_By _ _ _
open Go Go.Sx Go.Sha

theorem sum_spec (x : Value) {b : List Int} (hb : By b) (hl : b.length ≤ 140737488351232) : SFun Tryd.prog 39 [byV x b] (h32 (shaF b)) := by
  rw [shaF_eq]
  refine SFun.inm [] SOK.nil [(49, blockT), (50, eightT)] (MSOK.cons block_ok (MSOK.cons eight_ok MSOK.nil)) tok mixed [] IOK.nil false [(3, ⟨RsT b.length, fun p => ⟨2, [(0, byV x b), (2, .one (.ptr 0 0)), (3, .one (.ptr 1 0)), (4, byV p.y (b.drop (64 * p.i)))], [(0, .cells [.ints .u8 32 (List.replicate 32 0)]), (1, .cells [.ints .u32 8 (foldF roundsL firstL b p.i)])]⟩, fun p => b.length - 64 * p.i, fun _ _ => True⟩), (16, ⟨NiT 32, fun p => ⟨2, [(2, .one (.ptr 0 0)), (3, .one (.ptr 1 0)), (39, int p.i)], [(0, .cells [.ints .u8 32 (outL (foldF roundsL firstL (padF b) (padN b.length / 64)) p.i)]), (1, .cells [.ints .u32 8 (foldF roundsL firstL (padF b) (padN b.length / 64))])]⟩, fun p => 32 - p.i, fun _ _ => True⟩)] [] Tryd.call39 Tryd.func39 rfl (by rfl) ?_
  refine Eq.mp (α := (∃ i0 : RsT (List.length b), (And (And True (And (And (SV.view x (1 : Nat) (Enc.enc (encInt IntKind.u8)) b = SV.view x (1 : Nat) (Enc.enc (encInt IntKind.u8)) b) (And (And ((true : Bool) = true) ((0 : Nat) = (0 : Nat))) (And (And ((true : Bool) = true) ((0 : Nat) = (0 : Nat))) (And (SV.view (RsT.y i0) (1 : Nat) (Enc.enc (encInt IntKind.u8)) (List.drop ((64 : Nat) * RsT.i i0) b) = SV.view x (1 : Nat) (Enc.enc (encInt IntKind.u8)) b) True)))) (And (And (And (List.replicate (32 : Nat) (0 : Int) = List.replicate (32 : Nat) (0 : Int)) True) (And ((true : Bool) = true) (And (And (foldF roundsL firstL b (RsT.i i0) = firstL) True) (And ((true : Bool) = true) True)))) ((true : Bool) = true)))) (∀ i : RsT (List.length b), (∀ a : True, (@Bool.rec (fun _ => Prop) (And ((0 : Nat) ≤ (128 : Nat)) (And ((128 : Nat) ≤ (128 : Nat)) (And ((128 : Nat) ≤ (128 : Nat)) (And (∀ x_1 : Int, (∀ a_1 : x_1 ∈ List.drop ((64 : Nat) * RsT.i i) b, (∃ b_1 : Int, (Enc.enc (encInt IntKind.u8) x_1 = [SV.v (Value.int IntKind.u8 b_1)])))) (And ((if (128 : Nat) = (0 : Nat) then (0 : Nat) else (0 : Nat)) + ((128 : Nat) - (0 : Nat)) ≤ (128 : Nat)) (And ((0 : Int) ≤ (↑(min (List.length (bytesOf (Enc.enc (encInt IntKind.u8)) (List.drop ((64 : Nat) * RsT.i i) b))) ((128 : Nat) - (0 : Nat))) : Int)) (And (Int.toNat (↑(min (List.length (bytesOf (Enc.enc (encInt IntKind.u8)) (List.drop ((64 : Nat) * RsT.i i) b))) ((128 : Nat) - (0 : Nat))) : Int) < (128 : Nat)) (And (Int.toNat (↑(min (List.length (bytesOf (Enc.enc (encInt IntKind.u8)) (List.drop ((64 : Nat) * RsT.i i) b))) ((128 : Nat) - (0 : Nat))) : Int) < (128 : Nat)) (@Bool.rec (fun _ => Prop) (And ((0 : Int) ≤ (56 : Int)) (And (Int.toNat (56 : Int) ≤ (128 : Nat)) (And ((128 : Nat) ≤ (128 : Nat)) (And ((128 : Nat) ≤ (128 : Nat)) (And True (∀ o : Unit, (And ((0 : Nat) + (8 : Nat) ≤ (8 : Nat)) (And (∀ x_1 : Int, (∀ a_1 : x_1 ∈ be8 (IntKind.wrap IntKind.u64 ((8 : Int) * IntKind.wrap IntKind.u64 (↑(List.length b) : Int))), (∃ b_1 : Int, (Enc.enc (encInt IntKind.u8) x_1 = [SV.v (Value.int IntKind.u8 b_1)])))) (And ((if (128 : Nat) = Int.toNat (56 : Int) then (0 : Nat) else Int.toNat (56 : Int)) + ((128 : Nat) - Int.toNat (56 : Int)) ≤ (128 : Nat)) (And ((0 : Nat) ≤ (128 : Nat)) (And ((128 : Nat) ≤ (128 : Nat)) (And ((128 : Nat) ≤ (128 : Nat)) (And ((if (128 : Nat) = (0 : Nat) then (0 : Nat) else (0 : Nat)) + ((128 : Nat) - (0 : Nat)) ≤ (128 : Nat)) (And ((128 : Nat) - (0 : Nat) ≤ (128 : Nat) - (0 : Nat)) (∀ x_1 : Value, (∃ b_1 : List Int, (And (List.map (fun b => [SV.v (Value.int IntKind.u8 b)]) (List.take ((128 : Nat) - (0 : Nat)) (List.drop (if (128 : Nat) = (0 : Nat) then (0 : Nat) else (0 : Nat)) (lay (List.set (lay (List.replicate (128 : Nat) (0 : Int)) (if (128 : Nat) = (0 : Nat) then (0 : Nat) else (0 : Nat)) ((128 : Nat) - (0 : Nat)) (bytesOf (Enc.enc (encInt IntKind.u8)) (List.drop ((64 : Nat) * RsT.i i) b))) (Int.toNat (↑(min (List.length (bytesOf (Enc.enc (encInt IntKind.u8)) (List.drop ((64 : Nat) * RsT.i i) b))) ((128 : Nat) - (0 : Nat))) : Int)) (128 : Int)) (if (128 : Nat) = Int.toNat (56 : Int) then (0 : Nat) else Int.toNat (56 : Int)) ((128 : Nat) - Int.toNat (56 : Int)) (bytesOf (Enc.enc (encInt IntKind.u8)) (List.take (8 : Nat) (List.drop (0 : Nat) (be8 (IntKind.wrap IntKind.u64 ((8 : Int) * IntKind.wrap IntKind.u64 (↑(List.length b) : Int)))))))))) = List.map eB b_1) (And (And (List.length (foldF roundsL firstL b (RsT.i i)) = (8 : Nat)) (And (∀ x_2 : Int, (∀ a_1 : x_2 ∈ b_1, (And ((0 : Int) ≤ x_2) (x_2 < (256 : Int))))) ((64 : Nat) ≤ List.length b_1))) (∀ o_1 : Unit, (And True (And (And True (And (Sx.get (upd ([((2 : Nat) + (1 : Nat), Blk.row (1 : Nat) (encInt IntKind.u8) (be8 (IntKind.wrap IntKind.u64 ((8 : Int) * IntKind.wrap IntKind.u64 (↑(List.length b) : Int)))) (8 : Nat))] ++ delL [] (upd (upd (put [((0 : Nat), Blk.cells [SV.ints IntKind.u8 (32 : Nat) (List.replicate (32 : Nat) (0 : Int))]), ((1 : Nat), Blk.cells [SV.ints IntKind.u32 (8 : Nat) (foldF roundsL firstL b (RsT.i i))])] (2 : Nat) (Blk.cells [SV.ints IntKind.u8 (128 : Nat) (List.replicate (128 : Nat) (0 : Int))])) (2 : Nat) (Blk.cells [SV.ints IntKind.u8 (128 : Nat) (lay (List.replicate (128 : Nat) (0 : Int)) (if (128 : Nat) = (0 : Nat) then (0 : Nat) else (0 : Nat)) ((128 : Nat) - (0 : Nat)) (bytesOf (Enc.enc (encInt IntKind.u8)) (List.drop ((64 : Nat) * RsT.i i) b)))])) (2 : Nat) (Blk.cells [SV.ints IntKind.u8 (128 : Nat) (List.set (lay (List.replicate (128 : Nat) (0 : Int)) (if (128 : Nat) = (0 : Nat) then (0 : Nat) else (0 : Nat)) ((128 : Nat) - (0 : Nat)) (bytesOf (Enc.enc (encInt IntKind.u8)) (List.drop ((64 : Nat) * RsT.i i) b))) (Int.toNat (↑(min (List.length (bytesOf (Enc.enc (encInt IntKind.u8)) (List.drop ((64 : Nat) * RsT.i i) b))) ((128 : Nat) - (0 : Nat))) : Int)) (128 : Int))]))) (2 : Nat) (Blk.cells [SV.ints IntKind.u8 (128 : Nat) (lay (List.set (lay (List.replicate (128 : Nat) (0 : Int)) (if (128 : Nat) = (0 : Nat) then (0 : Nat) else (0 : Nat)) ((128 : Nat) - (0 : Nat)) (bytesOf (Enc.enc (encInt IntKind.u8)) (List.drop ((64 : Nat) * RsT.i i) b))) (Int.toNat (↑(min (List.length (bytesOf (Enc.enc (encInt IntKind.u8)) (List.drop ((64 : Nat) * RsT.i i) b))) ((128 : Nat) - (0 : Nat))) : Int)) (128 : Int)) (if (128 : Nat) = Int.toNat (56 : Int) then (0 : Nat) else Int.toNat (56 : Int)) ((128 : Nat) - Int.toNat (56 : Int)) (bytesOf (Enc.enc (encInt IntKind.u8)) (List.take (8 : Nat) (List.drop (0 : Nat) (be8 (IntKind.wrap IntKind.u64 ((8 : Int) * IntKind.wrap IntKind.u64 (↑(List.length b) : Int))))))))])) ((2 : Nat) + (1 : Nat)) = some (Blk.row (1 : Nat) (encInt IntKind.u8) (be8 (IntKind.wrap IntKind.u64 ((8 : Int) * IntKind.wrap IntKind.u64 (↑(List.length b) : Int)))) (8 : Nat))) (And True True))) (∃ i0_1 : NiT (32 : Nat), (And (And True (And (And (And ((true : Bool) = true) ((0 : Nat) = (0 : Nat))) (And (And ((true : Bool) = true) ((0 : Nat) = (0 : Nat))) (And ((↑(NiT.i i0_1) : Int) = (0 : Int)) True))) (And (And (And (outL (foldF roundsL firstL (padF b) (padN (List.length b) / (64 : Nat))) (NiT.i i0_1) = List.replicate (32 : Nat) (0 : Int)) True) (And ((true : Bool) = true) (And (And (foldF roundsL firstL (padF b) (padN (List.length b) / (64 : Nat)) = blockF roundsL (foldF roundsL firstL b (RsT.i i)) b_1) True) (And ((true : Bool) = true) True)))) ((true : Bool) = true)))) (∀ i_1 : NiT (32 : Nat), (∀ a_1 : True, (@Bool.rec (fun _ => Prop) (And (M.agg [SV.ints IntKind.u8 (32 : Nat) (outL (foldF roundsL firstL (padF b) (padN (List.length b) / (64 : Nat))) (NiT.i i_1))] = M.agg [SV.ints IntKind.u8 (32 : Nat) (sumF roundsL firstL b)]) ((true : Bool) = true)) (And ((4 : Int) ≠ (0 : Int)) (And ((0 : Int) ≤ IntKind.wrap IntKind.i64 (Int.tdiv (↑(NiT.i i_1) : Int) (4 : Int))) (And (Int.toNat (IntKind.wrap IntKind.i64 (Int.tdiv (↑(NiT.i i_1) : Int) (4 : Int))) < (8 : Nat)) (And (Int.toNat (IntKind.wrap IntKind.i64 (Int.tdiv (↑(NiT.i i_1) : Int) (4 : Int))) < (8 : Nat)) (And ((4 : Int) ≠ (0 : Int)) (And ((0 : Int) ≤ IntKind.wrap IntKind.i64 ((24 : Int) - IntKind.wrap IntKind.i64 ((8 : Int) * Int.tmod (↑(NiT.i i_1) : Int) (4 : Int)))) (And ((0 : Int) ≤ (↑(NiT.i i_1) : Int)) (And (Int.toNat (↑(NiT.i i_1) : Int) < (32 : Nat)) (And (Int.toNat (↑(NiT.i i_1) : Int) < (32 : Nat)) (∃ i' : NiT (32 : Nat), (And (And ((32 : Nat) - NiT.i i' < (32 : Nat) - NiT.i i_1) True) (And (And (And ((true : Bool) = true) ((0 : Nat) = (0 : Nat))) (And (And ((true : Bool) = true) ((0 : Nat) = (0 : Nat))) (And ((↑(NiT.i i') : Int) = IntKind.wrap IntKind.i64 ((↑(NiT.i i_1) : Int) + (1 : Int))) True))) (And (And (And (outL (foldF roundsL firstL (padF b) (padN (List.length b) / (64 : Nat))) (NiT.i i') = List.set (outL (foldF roundsL firstL (padF b) (padN (List.length b) / (64 : Nat))) (NiT.i i_1)) (Int.toNat (↑(NiT.i i_1) : Int)) (IntKind.wrap IntKind.u8 (shr IntKind.u32 (List.getD (foldF roundsL firstL (padF b) (padN (List.length b) / (64 : Nat))) (Int.toNat (IntKind.wrap IntKind.i64 (Int.tdiv (↑(NiT.i i_1) : Int) (4 : Int)))) (0 : Int)) (IntKind.wrap IntKind.i64 ((24 : Int) - IntKind.wrap IntKind.i64 ((8 : Int) * Int.tmod (↑(NiT.i i_1) : Int) (4 : Int))))))) True) (And ((true : Bool) = true) (And (And (foldF roundsL firstL (padF b) (padN (List.length b) / (64 : Nat)) = foldF roundsL firstL (padF b) (padN (List.length b) / (64 : Nat))) True) (And ((true : Bool) = true) True)))) ((true : Bool) = true)))))))))))))) (decide ((↑(NiT.i i_1) : Int) < (32 : Int))))))))))))))))))))))))))))) (And ((0 : Int) ≤ (120 : Int)) (And (Int.toNat (120 : Int) ≤ (128 : Nat)) (And ((128 : Nat) ≤ (128 : Nat)) (And ((128 : Nat) ≤ (128 : Nat)) (And True (∀ o : Unit, (And ((0 : Nat) + (8 : Nat) ≤ (8 : Nat)) (And (∀ x_1 : Int, (∀ a_1 : x_1 ∈ be8 (IntKind.wrap IntKind.u64 ((8 : Int) * IntKind.wrap IntKind.u64 (↑(List.length b) : Int))), (∃ b_1 : Int, (Enc.enc (encInt IntKind.u8) x_1 = [SV.v (Value.int IntKind.u8 b_1)])))) (And ((if (128 : Nat) = Int.toNat (120 : Int) then (0 : Nat) else Int.toNat (120 : Int)) + ((128 : Nat) - Int.toNat (120 : Int)) ≤ (128 : Nat)) (And ((0 : Nat) ≤ (128 : Nat)) (And ((128 : Nat) ≤ (128 : Nat)) (And ((128 : Nat) ≤ (128 : Nat)) (And ((if (128 : Nat) = (0 : Nat) then (0 : Nat) else (0 : Nat)) + ((128 : Nat) - (0 : Nat)) ≤ (128 : Nat)) (And ((128 : Nat) - (0 : Nat) ≤ (128 : Nat) - (0 : Nat)) (∀ x_1 : Value, (∃ b_1 : List Int, (And (List.map (fun b => [SV.v (Value.int IntKind.u8 b)]) (List.take ((128 : Nat) - (0 : Nat)) (List.drop (if (128 : Nat) = (0 : Nat) then (0 : Nat) else (0 : Nat)) (lay (List.set (lay (List.replicate (128 : Nat) (0 : Int)) (if (128 : Nat) = (0 : Nat) then (0 : Nat) else (0 : Nat)) ((128 : Nat) - (0 : Nat)) (bytesOf (Enc.enc (encInt IntKind.u8)) (List.drop ((64 : Nat) * RsT.i i) b))) (Int.toNat (↑(min (List.length (bytesOf (Enc.enc (encInt IntKind.u8)) (List.drop ((64 : Nat) * RsT.i i) b))) ((128 : Nat) - (0 : Nat))) : Int)) (128 : Int)) (if (128 : Nat) = Int.toNat (120 : Int) then (0 : Nat) else Int.toNat (120 : Int)) ((128 : Nat) - Int.toNat (120 : Int)) (bytesOf (Enc.enc (encInt IntKind.u8)) (List.take (8 : Nat) (List.drop (0 : Nat) (be8 (IntKind.wrap IntKind.u64 ((8 : Int) * IntKind.wrap IntKind.u64 (↑(List.length b) : Int)))))))))) = List.map eB b_1) (And (And (List.length (foldF roundsL firstL b (RsT.i i)) = (8 : Nat)) (And (∀ x_2 : Int, (∀ a_1 : x_2 ∈ b_1, (And ((0 : Int) ≤ x_2) (x_2 < (256 : Int))))) ((64 : Nat) ≤ List.length b_1))) (∀ o_1 : Unit, (And True (And (And True (And (Sx.get (upd ([((2 : Nat) + (1 : Nat), Blk.row (1 : Nat) (encInt IntKind.u8) (be8 (IntKind.wrap IntKind.u64 ((8 : Int) * IntKind.wrap IntKind.u64 (↑(List.length b) : Int)))) (8 : Nat))] ++ delL [] (upd (upd (put [((0 : Nat), Blk.cells [SV.ints IntKind.u8 (32 : Nat) (List.replicate (32 : Nat) (0 : Int))]), ((1 : Nat), Blk.cells [SV.ints IntKind.u32 (8 : Nat) (foldF roundsL firstL b (RsT.i i))])] (2 : Nat) (Blk.cells [SV.ints IntKind.u8 (128 : Nat) (List.replicate (128 : Nat) (0 : Int))])) (2 : Nat) (Blk.cells [SV.ints IntKind.u8 (128 : Nat) (lay (List.replicate (128 : Nat) (0 : Int)) (if (128 : Nat) = (0 : Nat) then (0 : Nat) else (0 : Nat)) ((128 : Nat) - (0 : Nat)) (bytesOf (Enc.enc (encInt IntKind.u8)) (List.drop ((64 : Nat) * RsT.i i) b)))])) (2 : Nat) (Blk.cells [SV.ints IntKind.u8 (128 : Nat) (List.set (lay (List.replicate (128 : Nat) (0 : Int)) (if (128 : Nat) = (0 : Nat) then (0 : Nat) else (0 : Nat)) ((128 : Nat) - (0 : Nat)) (bytesOf (Enc.enc (encInt IntKind.u8)) (List.drop ((64 : Nat) * RsT.i i) b))) (Int.toNat (↑(min (List.length (bytesOf (Enc.enc (encInt IntKind.u8)) (List.drop ((64 : Nat) * RsT.i i) b))) ((128 : Nat) - (0 : Nat))) : Int)) (128 : Int))]))) (2 : Nat) (Blk.cells [SV.ints IntKind.u8 (128 : Nat) (lay (List.set (lay (List.replicate (128 : Nat) (0 : Int)) (if (128 : Nat) = (0 : Nat) then (0 : Nat) else (0 : Nat)) ((128 : Nat) - (0 : Nat)) (bytesOf (Enc.enc (encInt IntKind.u8)) (List.drop ((64 : Nat) * RsT.i i) b))) (Int.toNat (↑(min (List.length (bytesOf (Enc.enc (encInt IntKind.u8)) (List.drop ((64 : Nat) * RsT.i i) b))) ((128 : Nat) - (0 : Nat))) : Int)) (128 : Int)) (if (128 : Nat) = Int.toNat (120 : Int) then (0 : Nat) else Int.toNat (120 : Int)) ((128 : Nat) - Int.toNat (120 : Int)) (bytesOf (Enc.enc (encInt IntKind.u8)) (List.take (8 : Nat) (List.drop (0 : Nat) (be8 (IntKind.wrap IntKind.u64 ((8 : Int) * IntKind.wrap IntKind.u64 (↑(List.length b) : Int))))))))])) ((2 : Nat) + (1 : Nat)) = some (Blk.row (1 : Nat) (encInt IntKind.u8) (be8 (IntKind.wrap IntKind.u64 ((8 : Int) * IntKind.wrap IntKind.u64 (↑(List.length b) : Int)))) (8 : Nat))) (And True True))) (And ((0 : Int) ≤ (64 : Int)) (And (Int.toNat (64 : Int) ≤ (128 : Nat)) (And ((128 : Nat) ≤ (128 : Nat)) (And ((128 : Nat) ≤ (128 : Nat)) (And ((if (128 : Nat) = Int.toNat (64 : Int) then (0 : Nat) else Int.toNat (64 : Int)) + ((128 : Nat) - Int.toNat (64 : Int)) ≤ (128 : Nat)) (And ((128 : Nat) - Int.toNat (64 : Int) ≤ (128 : Nat) - Int.toNat (64 : Int)) (∀ x_2 : Value, (∃ b_2 : List Int, (And (List.map (fun b => [SV.v (Value.int IntKind.u8 b)]) (List.take ((128 : Nat) - Int.toNat (64 : Int)) (List.drop (if (128 : Nat) = Int.toNat (64 : Int) then (0 : Nat) else Int.toNat (64 : Int)) (lay (List.set (lay (List.replicate (128 : Nat) (0 : Int)) (if (128 : Nat) = (0 : Nat) then (0 : Nat) else (0 : Nat)) ((128 : Nat) - (0 : Nat)) (bytesOf (Enc.enc (encInt IntKind.u8)) (List.drop ((64 : Nat) * RsT.i i) b))) (Int.toNat (↑(min (List.length (bytesOf (Enc.enc (encInt IntKind.u8)) (List.drop ((64 : Nat) * RsT.i i) b))) ((128 : Nat) - (0 : Nat))) : Int)) (128 : Int)) (if (128 : Nat) = Int.toNat (120 : Int) then (0 : Nat) else Int.toNat (120 : Int)) ((128 : Nat) - Int.toNat (120 : Int)) (bytesOf (Enc.enc (encInt IntKind.u8)) (List.take (8 : Nat) (List.drop (0 : Nat) (be8 (IntKind.wrap IntKind.u64 ((8 : Int) * IntKind.wrap IntKind.u64 (↑(List.length b) : Int)))))))))) = List.map eB b_2) (And (And ((8 : Nat) = (8 : Nat)) (And (∀ x_3 : Int, (∀ a_1 : x_3 ∈ b_2, (And ((0 : Int) ≤ x_3) (x_3 < (256 : Int))))) ((64 : Nat) ≤ List.length b_2))) (∀ o_2 : Unit, (And True (And (And True (And (Sx.get (put ([((1 : Nat), Blk.cells [SV.ints IntKind.u32 (8 : Nat) (blockF roundsL (foldF roundsL firstL b (RsT.i i)) b_1)])] ++ delL [(1 : Nat)] (delL [(2 : Nat)] (upd ([((2 : Nat) + (1 : Nat), Blk.row (1 : Nat) (encInt IntKind.u8) (be8 (IntKind.wrap IntKind.u64 ((8 : Int) * IntKind.wrap IntKind.u64 (↑(List.length b) : Int)))) (8 : Nat))] ++ delL [] (upd (upd (put [((0 : Nat), Blk.cells [SV.ints IntKind.u8 (32 : Nat) (List.replicate (32 : Nat) (0 : Int))]), ((1 : Nat), Blk.cells [SV.ints IntKind.u32 (8 : Nat) (foldF roundsL firstL b (RsT.i i))])] (2 : Nat) (Blk.cells [SV.ints IntKind.u8 (128 : Nat) (List.replicate (128 : Nat) (0 : Int))])) (2 : Nat) (Blk.cells [SV.ints IntKind.u8 (128 : Nat) (lay (List.replicate (128 : Nat) (0 : Int)) (if (128 : Nat) = (0 : Nat) then (0 : Nat) else (0 : Nat)) ((128 : Nat) - (0 : Nat)) (bytesOf (Enc.enc (encInt IntKind.u8)) (List.drop ((64 : Nat) * RsT.i i) b)))])) (2 : Nat) (Blk.cells [SV.ints IntKind.u8 (128 : Nat) (List.set (lay (List.replicate (128 : Nat) (0 : Int)) (if (128 : Nat) = (0 : Nat) then (0 : Nat) else (0 : Nat)) ((128 : Nat) - (0 : Nat)) (bytesOf (Enc.enc (encInt IntKind.u8)) (List.drop ((64 : Nat) * RsT.i i) b))) (Int.toNat (↑(min (List.length (bytesOf (Enc.enc (encInt IntKind.u8)) (List.drop ((64 : Nat) * RsT.i i) b))) ((128 : Nat) - (0 : Nat))) : Int)) (128 : Int))]))) (2 : Nat) (Blk.cells [SV.ints IntKind.u8 (128 : Nat) (lay (List.set (lay (List.replicate (128 : Nat) (0 : Int)) (if (128 : Nat) = (0 : Nat) then (0 : Nat) else (0 : Nat)) ((128 : Nat) - (0 : Nat)) (bytesOf (Enc.enc (encInt IntKind.u8)) (List.drop ((64 : Nat) * RsT.i i) b))) (Int.toNat (↑(min (List.length (bytesOf (Enc.enc (encInt IntKind.u8)) (List.drop ((64 : Nat) * RsT.i i) b))) ((128 : Nat) - (0 : Nat))) : Int)) (128 : Int)) (if (128 : Nat) = Int.toNat (120 : Int) then (0 : Nat) else Int.toNat (120 : Int)) ((128 : Nat) - Int.toNat (120 : Int)) (bytesOf (Enc.enc (encInt IntKind.u8)) (List.take (8 : Nat) (List.drop (0 : Nat) (be8 (IntKind.wrap IntKind.u64 ((8 : Int) * IntKind.wrap IntKind.u64 (↑(List.length b) : Int))))))))])))) (2 : Nat) (Blk.cells [SV.ints IntKind.u8 (128 : Nat) (lay (List.set (lay (List.replicate (128 : Nat) (0 : Int)) (if (128 : Nat) = (0 : Nat) then (0 : Nat) else (0 : Nat)) ((128 : Nat) - (0 : Nat)) (bytesOf (Enc.enc (encInt IntKind.u8)) (List.drop ((64 : Nat) * RsT.i i) b))) (Int.toNat (↑(min (List.length (bytesOf (Enc.enc (encInt IntKind.u8)) (List.drop ((64 : Nat) * RsT.i i) b))) ((128 : Nat) - (0 : Nat))) : Int)) (128 : Int)) (if (128 : Nat) = Int.toNat (120 : Int) then (0 : Nat) else Int.toNat (120 : Int)) ((128 : Nat) - Int.toNat (120 : Int)) (bytesOf (Enc.enc (encInt IntKind.u8)) (List.take (8 : Nat) (List.drop (0 : Nat) (be8 (IntKind.wrap IntKind.u64 ((8 : Int) * IntKind.wrap IntKind.u64 (↑(List.length b) : Int))))))))])) ((2 : Nat) + (1 : Nat)) = some (Blk.row (1 : Nat) (encInt IntKind.u8) (be8 (IntKind.wrap IntKind.u64 ((8 : Int) * IntKind.wrap IntKind.u64 (↑(List.length b) : Int)))) (8 : Nat))) (And True True))) (∃ i0_1 : NiT (32 : Nat), (And (And True (And (And (And ((true : Bool) = true) ((0 : Nat) = (0 : Nat))) (And (And ((true : Bool) = true) ((0 : Nat) = (0 : Nat))) (And ((↑(NiT.i i0_1) : Int) = (0 : Int)) True))) (And (And (And (outL (foldF roundsL firstL (padF b) (padN (List.length b) / (64 : Nat))) (NiT.i i0_1) = List.replicate (32 : Nat) (0 : Int)) True) (And ((true : Bool) = true) (And (And (foldF roundsL firstL (padF b) (padN (List.length b) / (64 : Nat)) = blockF roundsL (blockF roundsL (foldF roundsL firstL b (RsT.i i)) b_1) b_2) True) (And ((true : Bool) = true) True)))) ((true : Bool) = true)))) (∀ i_1 : NiT (32 : Nat), (∀ a_1 : True, (@Bool.rec (fun _ => Prop) (And (M.agg [SV.ints IntKind.u8 (32 : Nat) (outL (foldF roundsL firstL (padF b) (padN (List.length b) / (64 : Nat))) (NiT.i i_1))] = M.agg [SV.ints IntKind.u8 (32 : Nat) (sumF roundsL firstL b)]) ((true : Bool) = true)) (And ((4 : Int) ≠ (0 : Int)) (And ((0 : Int) ≤ IntKind.wrap IntKind.i64 (Int.tdiv (↑(NiT.i i_1) : Int) (4 : Int))) (And (Int.toNat (IntKind.wrap IntKind.i64 (Int.tdiv (↑(NiT.i i_1) : Int) (4 : Int))) < (8 : Nat)) (And (Int.toNat (IntKind.wrap IntKind.i64 (Int.tdiv (↑(NiT.i i_1) : Int) (4 : Int))) < (8 : Nat)) (And ((4 : Int) ≠ (0 : Int)) (And ((0 : Int) ≤ IntKind.wrap IntKind.i64 ((24 : Int) - IntKind.wrap IntKind.i64 ((8 : Int) * Int.tmod (↑(NiT.i i_1) : Int) (4 : Int)))) (And ((0 : Int) ≤ (↑(NiT.i i_1) : Int)) (And (Int.toNat (↑(NiT.i i_1) : Int) < (32 : Nat)) (And (Int.toNat (↑(NiT.i i_1) : Int) < (32 : Nat)) (∃ i' : NiT (32 : Nat), (And (And ((32 : Nat) - NiT.i i' < (32 : Nat) - NiT.i i_1) True) (And (And (And ((true : Bool) = true) ((0 : Nat) = (0 : Nat))) (And (And ((true : Bool) = true) ((0 : Nat) = (0 : Nat))) (And ((↑(NiT.i i') : Int) = IntKind.wrap IntKind.i64 ((↑(NiT.i i_1) : Int) + (1 : Int))) True))) (And (And (And (outL (foldF roundsL firstL (padF b) (padN (List.length b) / (64 : Nat))) (NiT.i i') = List.set (outL (foldF roundsL firstL (padF b) (padN (List.length b) / (64 : Nat))) (NiT.i i_1)) (Int.toNat (↑(NiT.i i_1) : Int)) (IntKind.wrap IntKind.u8 (shr IntKind.u32 (List.getD (foldF roundsL firstL (padF b) (padN (List.length b) / (64 : Nat))) (Int.toNat (IntKind.wrap IntKind.i64 (Int.tdiv (↑(NiT.i i_1) : Int) (4 : Int)))) (0 : Int)) (IntKind.wrap IntKind.i64 ((24 : Int) - IntKind.wrap IntKind.i64 ((8 : Int) * Int.tmod (↑(NiT.i i_1) : Int) (4 : Int))))))) True) (And ((true : Bool) = true) (And (And (foldF roundsL firstL (padF b) (padN (List.length b) / (64 : Nat)) = foldF roundsL firstL (padF b) (padN (List.length b) / (64 : Nat))) True) (And ((true : Bool) = true) True)))) ((true : Bool) = true)))))))))))))) (decide ((↑(NiT.i i_1) : Int) < (32 : Int)))))))))))))))))))))))))))))))))))))))))) (decide ((56 : Int) ≤ (↑(List.length (List.drop ((64 : Nat) * RsT.i i) b)) : Int)))))))))))) (∃ b_1 : List Int, (And (List.map (Enc.enc (encInt IntKind.u8)) (List.drop ((64 : Nat) * RsT.i i) b) = List.map eB b_1) (And (And (List.length (foldF roundsL firstL b (RsT.i i)) = (8 : Nat)) (And (∀ x_1 : Int, (∀ a_1 : x_1 ∈ b_1, (And ((0 : Int) ≤ x_1) (x_1 < (256 : Int))))) ((64 : Nat) ≤ List.length b_1))) (∀ o : Unit, (And ((0 : Int) ≤ (64 : Int)) (And (Int.toNat (64 : Int) ≤ List.length (List.drop ((64 : Nat) * RsT.i i) b)) (And (List.length (List.drop ((64 : Nat) * RsT.i i) b) ≤ List.length (List.drop ((64 : Nat) * RsT.i i) b)) (∃ i' : RsT (List.length b), (And (And (List.length b - (64 : Nat) * RsT.i i' < List.length b - (64 : Nat) * RsT.i i) True) (And (And (SV.view x (1 : Nat) (Enc.enc (encInt IntKind.u8)) b = SV.view x (1 : Nat) (Enc.enc (encInt IntKind.u8)) b) (And (And ((true : Bool) = true) ((0 : Nat) = (0 : Nat))) (And (And ((true : Bool) = true) ((0 : Nat) = (0 : Nat))) (And (SV.view (RsT.y i') (1 : Nat) (Enc.enc (encInt IntKind.u8)) (List.drop ((64 : Nat) * RsT.i i') b) = SV.view (vslice (RsT.y i) (1 : Nat) (Int.toNat (64 : Int)) (List.length (List.drop ((64 : Nat) * RsT.i i) b)) (vcap (RsT.y i))) (1 : Nat) (Enc.enc (encInt IntKind.u8)) (List.take (List.length (List.drop ((64 : Nat) * RsT.i i) b) - Int.toNat (64 : Int)) (List.drop (Int.toNat (64 : Int)) (List.drop ((64 : Nat) * RsT.i i) b)))) True)))) (And (And (And (List.replicate (32 : Nat) (0 : Int) = List.replicate (32 : Nat) (0 : Int)) True) (And ((true : Bool) = true) (And (And (foldF roundsL firstL b (RsT.i i') = blockF roundsL (foldF roundsL firstL b (RsT.i i)) b_1) True) (And ((true : Bool) = true) True)))) ((true : Bool) = true)))))))))))) (decide ((64 : Int) ≤ (↑(List.length (List.drop ((64 : Nat) * RsT.i i) b)) : Int))))))))) (by kernel_rfl) ?_
  refine ⟨⟨0, x, Nat.zero_le _⟩, ?_, ?_⟩
  ·
    repeat' first | exact trivial | refine And.intro ?_ ?_ | with_reducible refine bif_dt (by assumption) ?_ | with_reducible refine bif_df (by assumption) ?_ | with_reducible refine bif_dec (fun _ => ?_) (fun _ => ?_) | with_reducible refine bif_not ?_ | with_reducible refine bif_and ?_ | with_reducible refine bif_or ?_ | with_reducible refine bif_t (by assumption) ?_ | with_reducible refine bif_f (by assumption) ?_ | with_reducible refine bif_t (beq_self_eq_true _) ?_ | with_reducible refine bif_b (fun _ => ?_) (fun _ => ?_) | with_reducible refine ⟨_, Eq.refl (List.map _ _), ?_⟩ | (with_reducible refine Exists.intro (by omega) ?_) | rfl | (intro h0; omega) | omega
  rintro ⟨i, y, hi⟩ -
  dsimp only
  have hlr : (b.drop (64 * i)).length = b.length - 64 * i := List.length_drop
  have g7 : IntKind.u64.wrap (8 * IntKind.u64.wrap (b.length : Int)) = bitN b.length := by rw [wrapU64, wrapU64]; unfold bitN; omega
  have ht : List.take 8 (List.drop 0 (be8 (bitN b.length))) = be8 (bitN b.length) := rfl
  have c1 : (if (128 : Nat) = 0 then 0 else 0) = 0 := rfl
  have c2 : (if (128 : Nat) = Int.toNat 56 then 0 else Int.toNat 56) = 56 := rfl
  have c3 : (if (128 : Nat) = Int.toNat 120 then 0 else Int.toNat 120) = 120 := rfl
  have c4 : (128 : Nat) - Int.toNat 56 = 72 := rfl
  have c5 : (128 : Nat) - Int.toNat 120 = 8 := rfl
  simp only [g7, ht, bytesB, c1, c2, c3, c4, c5, Int.toNat_natCast, Nat.sub_zero]
  refine bif_dec (fun h => ?_) (fun h => ?_)
  · have hdr : List.take ((b.drop (64 * i)).length - Int.toNat 64) (List.drop (Int.toNat 64) (List.drop (64 * i) b)) = b.drop (64 * (i + 1)) := by
      rw [List.drop_drop, List.take_of_length_le (by simp only [List.length_drop]; have : Int.toNat 64 = 64 := rfl; omega)]
      congr 1
    rw [hdr]
    refine ⟨_, rfl, ⟨foldF_length rfl i, hb.drop _, by omega⟩, fun _ => ?_⟩
    repeat (with_reducible refine And.intro (by first | exact trivial | omega | decide | (have : Int.toNat 64 = 64 := rfl; omega)) ?_)
    refine ⟨⟨i + 1, vslice y 1 (Int.toNat 64) (List.drop (64 * i) b).length (vcap y), by omega⟩, ⟨by show b.length - 64 * (i + 1) < b.length - 64 * i; omega, trivial⟩, ?_⟩
    repeat' first | exact trivial | refine And.intro ?_ ?_ | with_reducible refine bif_dt (by assumption) ?_ | with_reducible refine bif_df (by assumption) ?_ | with_reducible refine bif_dec (fun _ => ?_) (fun _ => ?_) | with_reducible refine bif_not ?_ | with_reducible refine bif_and ?_ | with_reducible refine bif_or ?_ | with_reducible refine bif_t (by assumption) ?_ | with_reducible refine bif_f (by assumption) ?_ | with_reducible refine bif_t (beq_self_eq_true _) ?_ | with_reducible refine bif_b (fun _ => ?_) (fun _ => ?_) | with_reducible refine ⟨_, Eq.refl (List.map _ _), ?_⟩ | (with_reducible refine Exists.intro (by omega) ?_) | rfl | (intro h0; omega) | omega
  have fin : ∀ (S : List Int), S = foldF roundsL firstL (padF b) (padN b.length / 64) → outL S 32 = shaF b := fun S h => by rw [h, shaF_eq]; rfl
  have hE : ∀ n, n ≤ 128 → List.take 128 (List.drop 0 (lay ((lay (List.replicate 128 0) 0 128 (List.drop (64 * i) b)).set (min (List.drop (64 * i) b).length 128) 128) (n - 8) (128 - (n - 8)) (be8 (bitN b.length)))) = endF (b.drop (64 * i)) n (be8 (bitN b.length)) := fun n h8 => by
    rw [List.drop_zero]
    show List.take 128 (endF (b.drop (64 * i)) n (be8 (bitN b.length))) = _
    refine List.take_of_length_le ?_
    unfold endF
    have hl : (lay (List.replicate 128 (0 : Int)) 0 128 (b.drop (64 * i))).length = 128 := by rw [lay_length] <;> simp
    rw [lay_length (by rw [List.length_set, hl]; omega), List.length_set, hl]
    exact Nat.le_refl _
  repeat (with_reducible refine And.intro (by first | exact trivial | omega | decide | exact isB _) ?_)
  have hE1 := hE 64 (by decide)
  have hE2 := hE 128 (by decide)
  have last : ∀ (S : List Int), S = foldF roundsL firstL (padF b) (padN b.length / 64) → True := fun _ _ => trivial
  have hi4 : ∀ i : Nat, i ≤ 32 → IntKind.i64.wrap ((i : Int) + 1) = ((i + 1 : Nat) : Int) := fun i h => by rw [wrap64 (by omega) (by omega)]; omega
  refine bif_dec (fun h2 => ?_) (fun h2 => ?_)
  · have h56 : 56 ≤ b.length - 64 * i := by omega
    have hf := fold_two roundsL firstL b i hi h56 (by omega)
    have hEl : (endF (b.drop (64 * i)) 128 (be8 (bitN b.length))).length = 128 := endF_length _ _ _ (by decide) (by decide)
    have hEB := endF_By (hb.drop (64 * i)) (be8_By (bitN b.length)) 128
    repeat (with_reducible refine And.intro (by first | exact trivial | omega | decide) ?_)
    intro _
    repeat (with_reducible refine And.intro (by first | exact trivial | omega | decide | exact isB _) ?_)
    intro _
    refine ⟨_, congrArg (List.map eB) hE2, ⟨foldF_length rfl i, hEB, by omega⟩, fun _ => ?_⟩
    refine ⟨trivial, ⟨trivial, rfl, trivial, trivial⟩, ?_⟩
    repeat (with_reducible refine And.intro (by first | exact trivial | omega | decide) ?_)
    intro _
    have d2 : List.take (128 - Int.toNat 64) (List.drop (if 128 = Int.toNat 64 then 0 else Int.toNat 64) (lay ((lay (List.replicate 128 0) 0 128 (List.drop (64 * i) b)).set (min (List.drop (64 * i) b).length 128) 128) 120 8 (be8 (bitN b.length)))) = (endF (b.drop (64 * i)) 128 (be8 (bitN b.length))).drop 64 :=
      List.take_of_length_le (by
        show ((endF (b.drop (64 * i)) 128 (be8 (bitN b.length))).drop 64).length ≤ 64
        rw [List.length_drop, hEl]
        decide)
    refine ⟨_, congrArg (List.map eB) d2, ⟨trivial, hEB.drop 64, by rw [List.length_drop, hEl]; decide⟩, fun _ => ?_⟩
    refine ⟨trivial, ⟨trivial, rfl, trivial, trivial⟩, ?_⟩
    · refine ⟨⟨0, Nat.zero_le _⟩, ?_, ?_⟩
      ·
        repeat' first | exact hf | exact trivial | refine And.intro ?_ ?_ | with_reducible refine bif_dt (by assumption) ?_ | with_reducible refine bif_df (by assumption) ?_ | with_reducible refine bif_dec (fun _ => ?_) (fun _ => ?_) | with_reducible refine bif_not ?_ | with_reducible refine bif_and ?_ | with_reducible refine bif_or ?_ | with_reducible refine bif_t (by assumption) ?_ | with_reducible refine bif_f (by assumption) ?_ | with_reducible refine bif_t (beq_self_eq_true _) ?_ | with_reducible refine bif_b (fun _ => ?_) (fun _ => ?_) | with_reducible refine ⟨_, Eq.refl (List.map _ _), ?_⟩ | (with_reducible refine Exists.intro (by omega) ?_) | rfl | (intro h0; omega) | omega
      rintro ⟨j, hj⟩ -
      dsimp only
      refine bif_dec (fun h => ?_) (fun h => ?_)
      · simp only [hi4 j hj, outStep firstL j (by omega), quo4 j (by omega), Int.toNat_natCast]
        repeat (with_reducible refine And.intro (by first | exact trivial | omega | decide) ?_)
        refine ⟨⟨j + 1, by omega⟩, ⟨by show 32 - (j + 1) < 32 - j; omega, trivial⟩, ?_⟩
        repeat' first | exact trivial | refine And.intro ?_ ?_ | with_reducible refine bif_dt (by assumption) ?_ | with_reducible refine bif_df (by assumption) ?_ | with_reducible refine bif_dec (fun _ => ?_) (fun _ => ?_) | with_reducible refine bif_not ?_ | with_reducible refine bif_and ?_ | with_reducible refine bif_or ?_ | with_reducible refine bif_t (by assumption) ?_ | with_reducible refine bif_f (by assumption) ?_ | with_reducible refine bif_t (beq_self_eq_true _) ?_ | with_reducible refine bif_b (fun _ => ?_) (fun _ => ?_) | with_reducible refine ⟨_, Eq.refl (List.map _ _), ?_⟩ | (with_reducible refine Exists.intro (by omega) ?_) | rfl | (intro h0; omega) | omega
      have hj32 : j = 32 := by omega
      subst hj32
      repeat' first | exact trivial | refine And.intro ?_ ?_ | with_reducible refine bif_dt (by assumption) ?_ | with_reducible refine bif_df (by assumption) ?_ | with_reducible refine bif_dec (fun _ => ?_) (fun _ => ?_) | with_reducible refine bif_not ?_ | with_reducible refine bif_and ?_ | with_reducible refine bif_or ?_ | with_reducible refine bif_t (by assumption) ?_ | with_reducible refine bif_f (by assumption) ?_ | with_reducible refine bif_t (beq_self_eq_true _) ?_ | with_reducible refine bif_b (fun _ => ?_) (fun _ => ?_) | with_reducible refine ⟨_, Eq.refl (List.map _ _), ?_⟩ | (with_reducible refine Exists.intro (by omega) ?_) | rfl | (intro h0; omega) | omega
  · have h56 : b.length - 64 * i < 56 := by omega
    have hf := fold_one roundsL firstL b i hi h56
    have hEl : (endF (b.drop (64 * i)) 64 (be8 (bitN b.length))).length = 128 := endF_length _ _ _ (by decide) (by decide)
    have hEB := endF_By (hb.drop (64 * i)) (be8_By (bitN b.length)) 64
    repeat (with_reducible refine And.intro (by first | exact trivial | omega | decide) ?_)
    intro _
    repeat (with_reducible refine And.intro (by first | exact trivial | omega | decide | exact isB _) ?_)
    intro _
    refine ⟨_, congrArg (List.map eB) hE1, ⟨foldF_length rfl i, hEB, by omega⟩, fun _ => ?_⟩
    refine ⟨trivial, ⟨trivial, rfl, trivial, trivial⟩, ?_⟩
    · refine ⟨⟨0, Nat.zero_le _⟩, ?_, ?_⟩
      ·
        repeat' first | exact hf | exact trivial | refine And.intro ?_ ?_ | with_reducible refine bif_dt (by assumption) ?_ | with_reducible refine bif_df (by assumption) ?_ | with_reducible refine bif_dec (fun _ => ?_) (fun _ => ?_) | with_reducible refine bif_not ?_ | with_reducible refine bif_and ?_ | with_reducible refine bif_or ?_ | with_reducible refine bif_t (by assumption) ?_ | with_reducible refine bif_f (by assumption) ?_ | with_reducible refine bif_t (beq_self_eq_true _) ?_ | with_reducible refine bif_b (fun _ => ?_) (fun _ => ?_) | with_reducible refine ⟨_, Eq.refl (List.map _ _), ?_⟩ | (with_reducible refine Exists.intro (by omega) ?_) | rfl | (intro h0; omega) | omega
      rintro ⟨j, hj⟩ -
      dsimp only
      refine bif_dec (fun h => ?_) (fun h => ?_)
      · simp only [hi4 j hj, outStep firstL j (by omega), quo4 j (by omega), Int.toNat_natCast]
        repeat (with_reducible refine And.intro (by first | exact trivial | omega | decide) ?_)
        refine ⟨⟨j + 1, by omega⟩, ⟨by show 32 - (j + 1) < 32 - j; omega, trivial⟩, ?_⟩
        repeat' first | exact trivial | refine And.intro ?_ ?_ | with_reducible refine bif_dt (by assumption) ?_ | with_reducible refine bif_df (by assumption) ?_ | with_reducible refine bif_dec (fun _ => ?_) (fun _ => ?_) | with_reducible refine bif_not ?_ | with_reducible refine bif_and ?_ | with_reducible refine bif_or ?_ | with_reducible refine bif_t (by assumption) ?_ | with_reducible refine bif_f (by assumption) ?_ | with_reducible refine bif_t (beq_self_eq_true _) ?_ | with_reducible refine bif_b (fun _ => ?_) (fun _ => ?_) | with_reducible refine ⟨_, Eq.refl (List.map _ _), ?_⟩ | (with_reducible refine Exists.intro (by omega) ?_) | rfl | (intro h0; omega) | omega
      have hj32 : j = 32 := by omega
      subst hj32
      repeat' first | exact trivial | refine And.intro ?_ ?_ | with_reducible refine bif_dt (by assumption) ?_ | with_reducible refine bif_df (by assumption) ?_ | with_reducible refine bif_dec (fun _ => ?_) (fun _ => ?_) | with_reducible refine bif_not ?_ | with_reducible refine bif_and ?_ | with_reducible refine bif_or ?_ | with_reducible refine bif_t (by assumption) ?_ | with_reducible refine bif_f (by assumption) ?_ | with_reducible refine bif_t (beq_self_eq_true _) ?_ | with_reducible refine bif_b (fun _ => ?_) (fun _ => ?_) | with_reducible refine ⟨_, Eq.refl (List.map _ _), ?_⟩ | (with_reducible refine Exists.intro (by omega) ?_) | rfl | (intro h0; omega) | omega
def sumT : List M → (M → Prop) → Prop
  | [.one (.view x0 es0 en0 l0)], K => bif Nat.beq es0 1 then ∃ b : List (Int), l0.map en0 = b.map eB ∧ ((By b ∧ b.length ≤ 140737488351232) ∧ K (h32 (shaF b))) else False
  | _, _ => False
theorem sum_ok : POK Tryd.prog 39 sumT := by
  intro ms K h
  unfold sumT at h ⊢
  split at h
  · obtain ⟨hb0, b, he0, h0⟩ := cond_false_elim (b := Nat.beq _ _) h
    have hs0 := Nat.eq_of_beq_eq_true hb0
    subst hs0
    exact ⟨_, h0.2, (sum_spec _ h0.1.1 h0.1.2).seen (.cons (.view he0) .nil), rfl, fun _ hk => by show cond _ _ _; refine (show cond true _ _ from ⟨_, he0, ?_⟩); exact ⟨h0.1, hk⟩⟩
  · exact h.elim

open Go Go.Sx Go.Sha

abbrev BE : Enc (RK.TL [.sl 1 [.int .u8]]) := encRec [.sl 1 [.int .u8]]
abbrev BTy : Type := RK.TL [.sl 1 [.int .u8]]
abbrev eBl : BTy → List SV := BE.enc
abbrev bV (x : Value) (l : List BTy) : M := .one (.view x 1 BE.enc l)
def b1 (p : RK.TL [.int .u8]) : Int := Prod.fst (α := Int) (β := Unit) p
def bsl (y : BTy) : List (RK.TL [.int .u8]) := y.1.2
def bl (y : BTy) : List Int := (bsl y).map b1
def fB (y : BTy) : List Int := blb (bl y)
def mkI (y : Int) : RK.TL [.int .u8] := (Prod.mk (α := Int) (β := Unit) y ())
def mkL (l : List Int) : List (RK.TL [.int .u8]) := l.map mkI
def mkB (x : Value) (l : List Int) : BTy := ((x, mkL l), ())
theorem b1_mk : b1 ∘ mkI = id := rfl
theorem svs_mk : RK.svs [.int .u8] ∘ mkI = (encInt .u8).enc := rfl
theorem bl_mk (x : Value) (l : List Int) : bl (mkB x l) = l := by
  have : bl (mkB x l) = List.map b1 (List.map mkI l) := rfl
  rw [this, List.map_map, b1_mk]
  exact List.map_id l
theorem fB_mk (x : Value) (l : List Int) : fB (mkB x l) = blb l := by unfold fB; rw [bl_mk]
theorem encmk (l : List Int) : List.map (encInt .u8).enc l = List.map (RK.svs [.int .u8]) (mkL l) := by
  unfold mkL
  rw [List.map_map, svs_mk]
theorem bl_length (y : BTy) : (bl y).length = y.1.2.length := by
  unfold bl
  exact List.length_map _
theorem enc_b1 : (encInt .u8).enc ∘ b1 = RK.svs [.int .u8] := rfl
theorem bl_enc (y : BTy) : List.map (encInt .u8).enc (bl y) = List.map (RK.svs [.int .u8]) (bsl y) := by
  unfold bl
  rw [List.map_map, enc_b1]
theorem fB_flat (l : List BTy) : l.flatMap fB = (l.map bl).flatMap blb := by
  rw [List.flatMap_map]
  rfl
theorem fB_len : ∀ l : List BTy, 8 * l.length ≤ (l.flatMap fB).length
  | [] => Nat.zero_le _
  | y :: r => by
    have := fB_len r
    rw [List.flatMap_cons, List.length_append, List.length_cons]
    have : 8 ≤ (fB y).length := by unfold fB; rw [blb_length]; omega
    omega

def frm (t : ByteArray) (l : List BTy) : List Int := frameF (sl t) (l.map bl)
structure FrT (t : ByteArray) (l : List BTy) where
  i : Nat
  cap : Nat
  hi : i ≤ l.length
  hc : (frm t (l.take i)).length ≤ cap
theorem frm_step (t : ByteArray) (l : List BTy) {i : Nat} (h : i < l.length) : frm t (l.take i) ++ fB l[i] = frm t (l.take (i + 1)) := by
  unfold frm frameF
  rw [← fB_flat, ← fB_flat, ← flat_take fB l h]
  simp only [List.cons_append, List.append_assoc]
theorem frm_mono (t : ByteArray) (l : List BTy) (i : Nat) : (frm t (l.take i)).length ≤ 256 + (l.flatMap fB).length := by
  unfold frm
  rw [frameF_length, ← fB_flat]
  have := flat_mono fB l i
  omega
theorem inext {i : Nat} (h : i < 9223372036854775807) : IntKind.i64.wrap ((i : Int) + 1) = ((i + 1 : Nat) : Int) := by rw [wrap64 (by omega) (by omega)]; omega
theorem t8 (x : Int) : List.take 8 (List.drop 0 (be8 x)) = be8 x := rfl
theorem frm0 (t : ByteArray) : frm t [] = ((min t.size 255 : Nat) : Int) :: (sl t).take (min t.size 255) := by
  unfold frm frameF
  rw [List.map_nil, List.flatMap_nil, List.append_nil, sl_length]
  congr 1
  rw [List.take_eq_take_iff, sl_length]
  omega
theorem tagN (t : ByteArray) : (if (255 : Int) < (t.size : Int) then 255 else (t.size : Int)) = ((min t.size 255 : Nat) : Int) := by
  split <;> omega
theorem extN (t : ByteArray) : (t.extract 0 (min t.size 255)).size = min t.size 255 := by
  rw [← sl_length, sl_extract, List.length_take, sl_length]
  omega
theorem wrap8n {n : Nat} (h : n < 256) : IntKind.u8.wrap (n : Int) = (n : Int) := by rw [wrap_u8]; omega

theorem frame_spec (x : Value) (t : ByteArray) {l : List BTy} (h : (l.flatMap fB).length ≤ 140000000000000) (ht : t.size ≤ 140737488351232) :
    SMem Tryd.prog 40 [str t, bV x l] 0 [] (fun y : Value => ⟨0, byV y (frm t l), []⟩) := by
  refine SMem.inf 1 EB [] SOK.nil [(50, eightT)] (MSOK.cons eight_ok MSOK.nil) tok mixed [] IOK.nil false [(4, ⟨FrT t l, fun p => ⟨1, [(5, .one (.slc 0 1 0 (frm t (l.take p.i)).length p.cap)), (19, bV x l), (20, int l.length), (21, int p.i)], [(0, .row 1 (encInt .u8) (frm t (l.take p.i)) p.cap)]⟩, fun p => l.length - p.i, fun _ _ => True⟩)] [] Tryd.call40 Tryd.func40 rfl (by rfl) ?_
  refine Eq.mp (α := (And ((0 : Int) ≤ if (255 : Int) < (↑(ByteArray.size t) : Int) then (255 : Int) else (↑(ByteArray.size t) : Int)) (And ((0 : Nat) ≤ Int.toNat (if (255 : Int) < (↑(ByteArray.size t) : Int) then (255 : Int) else (↑(ByteArray.size t) : Int))) (And (Int.toNat (if (255 : Int) < (↑(ByteArray.size t) : Int) then (255 : Int) else (↑(ByteArray.size t) : Int)) ≤ ByteArray.size t) (And ((1 : Nat) = (1 : Nat)) (And ((1 : Nat) = (1 : Nat)) (And (((1 : Nat) + List.length (castL (encInt IntKind.u8) (encInt IntKind.u8) (sl (ByteArray.extract t (0 : Nat) (Int.toNat (if (255 : Int) < (↑(ByteArray.size t) : Int) then (255 : Int) else (↑(ByteArray.size t) : Int))))))) * (1 : Nat) ≤ (150000000000000 : Nat)) (∀ cap2 : Nat, (∀ a : (1 : Nat) + List.length (castL (encInt IntKind.u8) (encInt IntKind.u8) (sl (ByteArray.extract t (0 : Nat) (Int.toNat (if (255 : Int) < (↑(ByteArray.size t) : Int) then (255 : Int) else (↑(ByteArray.size t) : Int)))))) ≤ cap2, (∃ i0 : FrT t l, (And (And True (And (And (And ((true : Bool) = true) (And ((0 : Nat) = (0 : Nat)) (And (List.length (frm t (List.take (FrT.i i0) l)) = List.length ([Enc.of (encInt IntKind.u8) (IntKind.wrap IntKind.u8 (↑(ByteArray.size (ByteArray.extract t (0 : Nat) (Int.toNat (if (255 : Int) < (↑(ByteArray.size t) : Int) then (255 : Int) else (↑(ByteArray.size t) : Int))))) : Int), ())] ++ castL (encInt IntKind.u8) (encInt IntKind.u8) (sl (ByteArray.extract t (0 : Nat) (Int.toNat (if (255 : Int) < (↑(ByteArray.size t) : Int) then (255 : Int) else (↑(ByteArray.size t) : Int))))))) (FrT.cap i0 = cap2)))) (And (SV.view x (1 : Nat) (Enc.enc BE) l = SV.view x (1 : Nat) (Enc.enc BE) l) (And ((↑(List.length l) : Int) = (↑(List.length l) : Int)) (And ((↑(FrT.i i0) : Int) = (0 : Int)) True)))) (And (And (And ((true : Bool) = true) (And (FrT.cap i0 = cap2) (And (List.map (Enc.enc (encInt IntKind.u8)) (frm t (List.take (FrT.i i0) l)) = List.map (Enc.enc (encInt IntKind.u8)) ([Enc.of (encInt IntKind.u8) (IntKind.wrap IntKind.u8 (↑(ByteArray.size (ByteArray.extract t (0 : Nat) (Int.toNat (if (255 : Int) < (↑(ByteArray.size t) : Int) then (255 : Int) else (↑(ByteArray.size t) : Int))))) : Int), ())] ++ castL (encInt IntKind.u8) (encInt IntKind.u8) (sl (ByteArray.extract t (0 : Nat) (Int.toNat (if (255 : Int) < (↑(ByteArray.size t) : Int) then (255 : Int) else (↑(ByteArray.size t) : Int))))))) (∀ x_1 : Int, (∀ a_1 : x_1 ∈ frm t (List.take (FrT.i i0) l), (∀ s : SV, (∀ a_2 : s ∈ Enc.enc (encInt IntKind.u8) x_1, ((SV.isPure s : Bool) = (true))))))))) (And ((true : Bool) = true) True)) ((true : Bool) = true)))) (∀ i : FrT t l, (∀ a_1 : True, (@Bool.rec (fun _ => Prop) (And ((0 : Nat) + List.length (frm t (List.take (FrT.i i) l)) ≤ List.length (frm t (List.take (FrT.i i) l))) (And (List.length (frm t (List.take (FrT.i i) l)) ≤ FrT.cap i) (And (∀ y : Int, ((true : Bool) = true)) (∀ x_1 : Value, (∃ o : Value, (And (And (SV.view o (1 : Nat) (Enc.enc (encInt IntKind.u8)) (frm t l) = nilV (1 : Nat) EB (SV.view x_1 (1 : Nat) (Enc.enc (encInt IntKind.u8)) (List.take (List.length (frm t (List.take (FrT.i i) l))) (List.drop (0 : Nat) (frm t (List.take (FrT.i i) l)))))) True) (And True ((true : Bool) = true)))))))) (And ((0 : Int) ≤ (↑(FrT.i i) : Int)) (∃ hk : Int.toNat (↑(FrT.i i) : Int) < List.length l, (And True (∀ o : Unit, (And (List.length (frm t (List.take (FrT.i i) l)) = List.length (frm t (List.take (FrT.i i) l))) (And (FrT.cap i = FrT.cap i) (And ((0 : Nat) + (8 : Nat) ≤ (8 : Nat)) (And ((List.length (frm t (List.take (FrT.i i) l)) + (8 : Nat)) * (1 : Nat) ≤ (150000000000000 : Nat)) (∀ cap2_1 : Nat, (∀ a_2 : List.length (frm t (List.take (FrT.i i) l)) + (8 : Nat) ≤ cap2_1, (And (List.length (frm t (List.take (FrT.i i) l) ++ castL (encInt IntKind.u8) (encInt IntKind.u8) (List.take (8 : Nat) (List.drop (0 : Nat) (be8 (IntKind.wrap IntKind.u64 (↑(List.length (Prod.snd (Prod.fst l[Int.toNat (↑(FrT.i i) : Int)]))) : Int)))))) = List.length (frm t (List.take (FrT.i i) l) ++ castL (encInt IntKind.u8) (encInt IntKind.u8) (List.take (8 : Nat) (List.drop (0 : Nat) (be8 (IntKind.wrap IntKind.u64 (↑(List.length (Prod.snd (Prod.fst l[Int.toNat (↑(FrT.i i) : Int)]))) : Int))))))) (And (cap2_1 = cap2_1) (∃ ys : List Int, (And (List.map (Enc.enc (encInt IntKind.u8)) ys = List.map (RK.svs._f [RK.int IntKind.u8] ⟨⟨RK.sv._f (RK.int IntKind.u8) PUnit.unit, PUnit.unit⟩, RK.svs._f [] PUnit.unit, PUnit.unit⟩) (Prod.snd (Prod.fst l[Int.toNat (↑(FrT.i i) : Int)]))) (And ((List.length (frm t (List.take (FrT.i i) l) ++ castL (encInt IntKind.u8) (encInt IntKind.u8) (List.take (8 : Nat) (List.drop (0 : Nat) (be8 (IntKind.wrap IntKind.u64 (↑(List.length (Prod.snd (Prod.fst l[Int.toNat (↑(FrT.i i) : Int)]))) : Int)))))) + List.length ys) * (1 : Nat) ≤ (150000000000000 : Nat)) (∀ cap2_2 : Nat, (∀ a_3 : List.length (frm t (List.take (FrT.i i) l) ++ castL (encInt IntKind.u8) (encInt IntKind.u8) (List.take (8 : Nat) (List.drop (0 : Nat) (be8 (IntKind.wrap IntKind.u64 (↑(List.length (Prod.snd (Prod.fst l[Int.toNat (↑(FrT.i i) : Int)]))) : Int)))))) + List.length ys ≤ cap2_2, (∃ i' : FrT t l, (And (And (List.length l - FrT.i i' < List.length l - FrT.i i) True) (And (And (And ((true : Bool) = true) (And ((0 : Nat) = (0 : Nat)) (And (List.length (frm t (List.take (FrT.i i') l)) = List.length (frm t (List.take (FrT.i i) l) ++ castL (encInt IntKind.u8) (encInt IntKind.u8) (List.take (8 : Nat) (List.drop (0 : Nat) (be8 (IntKind.wrap IntKind.u64 (↑(List.length (Prod.snd (Prod.fst l[Int.toNat (↑(FrT.i i) : Int)]))) : Int))))) ++ ys)) (FrT.cap i' = cap2_2)))) (And (SV.view x (1 : Nat) (Enc.enc BE) l = SV.view x (1 : Nat) (Enc.enc BE) l) (And ((↑(List.length l) : Int) = (↑(List.length l) : Int)) (And ((↑(FrT.i i') : Int) = IntKind.wrap IntKind.i64 ((↑(FrT.i i) : Int) + (1 : Int))) True)))) (And (And (And ((true : Bool) = true) (And (FrT.cap i' = cap2_2) (And (List.map (Enc.enc (encInt IntKind.u8)) (frm t (List.take (FrT.i i') l)) = List.map (Enc.enc (encInt IntKind.u8)) (frm t (List.take (FrT.i i) l) ++ castL (encInt IntKind.u8) (encInt IntKind.u8) (List.take (8 : Nat) (List.drop (0 : Nat) (be8 (IntKind.wrap IntKind.u64 (↑(List.length (Prod.snd (Prod.fst l[Int.toNat (↑(FrT.i i) : Int)]))) : Int))))) ++ ys)) (∀ x_1 : Int, (∀ a_4 : x_1 ∈ frm t (List.take (FrT.i i') l), (∀ s : SV, (∀ a_5 : s ∈ Enc.enc (encInt IntKind.u8) x_1, ((SV.isPure s : Bool) = (true))))))))) (And ((true : Bool) = true) True)) ((true : Bool) = true)))))))))))))))))))))) (decide ((↑(FrT.i i) : Int) < (↑(List.length l) : Int))))))))))))))))) (by kernel_rfl) ?_
  have hs0 : ((sl t).take (min t.size 255)).length = min t.size 255 := by rw [List.length_take, sl_length]; omega
  simp only [tagN, Int.toNat_natCast, sl_extract, extN, wrap8n (show min t.size 255 < 256 by omega), castB, ofB, List.singleton_append, ← frm0]
  have hf0 : (frm t []).length = 1 + min t.size 255 := by rw [frm0, List.length_cons, hs0]; omega
  repeat (with_reducible refine And.intro (by first | exact trivial | omega | decide) ?_)
  intro cap2 hc2
  refine ⟨⟨0, cap2, Nat.zero_le _, by rw [List.take_zero]; omega⟩, ?_, ?_⟩
  ·
    repeat' first | exact encB_pure _ | exact trivial | refine And.intro ?_ ?_ | with_reducible refine bif_dt (by assumption) ?_ | with_reducible refine bif_df (by assumption) ?_ | with_reducible refine bif_dec (fun _ => ?_) (fun _ => ?_) | with_reducible refine bif_not ?_ | with_reducible refine bif_and ?_ | with_reducible refine bif_or ?_ | with_reducible refine bif_t (by assumption) ?_ | with_reducible refine bif_f (by assumption) ?_ | with_reducible refine bif_t (beq_self_eq_true _) ?_ | with_reducible refine bif_b (fun _ => ?_) (fun _ => ?_) | with_reducible refine ⟨_, Eq.refl (List.map _ _), ?_⟩ | (with_reducible refine Exists.intro (by omega) ?_) | rfl | (intro h0; omega) | omega
  rintro ⟨i, cap1, hi, hc⟩ -
  dsimp only
  have hm := frm_mono t l i
  refine bif_dec (fun h1 => ?_) (fun h1 => ?_)
  · have hi' : i < l.length := by omega
    have h8 := fB_len (l.take i)
    rw [List.length_take, Nat.min_eq_left hi] at h8
    have h9 := flat_mono fB l i
    have hbl := bl_length l[i]
    have hst := frm_step t l hi'
    have hm2 := frm_mono t l (i + 1)
    have hl2 : (frm t (l.take (i + 1))).length = (frm t (l.take i)).length + 8 + (bl l[i]).length := by rw [← hst, List.length_append]; unfold fB; rw [blb_length]; omega
    have hw : IntKind.u64.wrap (l[i].1.2.length : Int) = ((bl l[i]).length : Int) := by rw [hbl, wrapU64]; omega
    have ha : frm t (l.take i) ++ be8 ((bl l[i]).length : Int) ++ bl l[i] = frm t (l.take (i + 1)) := by rw [← hst, List.append_assoc]; rfl
    simp only [t8, castB, inext (show i < 9223372036854775807 by omega), hw]
    refine ⟨by omega, hi', trivial, fun _ => ?_⟩
    repeat (with_reducible refine And.intro (by first | exact trivial | omega | decide) ?_)
    intro cap3 hc3
    repeat (with_reducible refine And.intro (by first | exact trivial | omega | decide) ?_)
    refine ⟨bl l[i], bl_enc _, ?_, ?_⟩
    · rw [List.length_append, be8_length]; omega
    rw [ha, List.length_append, be8_length]
    intro cap4 hc4
    refine ⟨⟨i + 1, cap4, hi', by omega⟩, ⟨show l.length - (i + 1) < l.length - i by omega, trivial⟩, ?_⟩
    repeat' first | exact encB_pure _ | exact trivial | refine And.intro ?_ ?_ | with_reducible refine bif_dt (by assumption) ?_ | with_reducible refine bif_df (by assumption) ?_ | with_reducible refine bif_dec (fun _ => ?_) (fun _ => ?_) | with_reducible refine bif_not ?_ | with_reducible refine bif_and ?_ | with_reducible refine bif_or ?_ | with_reducible refine bif_t (by assumption) ?_ | with_reducible refine bif_f (by assumption) ?_ | with_reducible refine bif_t (beq_self_eq_true _) ?_ | with_reducible refine bif_b (fun _ => ?_) (fun _ => ?_) | with_reducible refine ⟨_, Eq.refl (List.map _ _), ?_⟩ | (with_reducible refine Exists.intro (by omega) ?_) | rfl | (intro h0; omega) | omega
  · have hil : i = l.length := by omega
    subst hil
    simp only [List.take_length, List.drop_zero, Nat.zero_add] at hc ⊢
    repeat (with_reducible refine And.intro (by first | exact trivial | omega | decide | exact fun _ => rfl | exact fun _ => trivial) ?_)
    intro y
    refine ⟨y, ?_⟩
    repeat' first | exact trivial | refine And.intro ?_ ?_ | with_reducible refine bif_dt (by assumption) ?_ | with_reducible refine bif_df (by assumption) ?_ | with_reducible refine bif_dec (fun _ => ?_) (fun _ => ?_) | with_reducible refine bif_not ?_ | with_reducible refine bif_and ?_ | with_reducible refine bif_or ?_ | with_reducible refine bif_t (by assumption) ?_ | with_reducible refine bif_f (by assumption) ?_ | with_reducible refine bif_t (beq_self_eq_true _) ?_ | with_reducible refine bif_b (fun _ => ?_) (fun _ => ?_) | with_reducible refine ⟨_, Eq.refl (List.map _ _), ?_⟩ | (with_reducible refine Exists.intro (by omega) ?_) | rfl | (intro h0; omega) | omega
def frameT : MT := fun ms n h K => match ms with
  | [.one (.v (.string t)), .one (.view vx0 ve0 en0 vl0)] => bif Nat.beq ve0 1 && noDup [] then ∃ l : List (BTy), vl0.map en0 = l.map eBl ∧ (((l.flatMap fB).length ≤ 140000000000000 ∧ t.size ≤ 140737488351232)) ∧ (∀ y : Value, K (n + 0) (byV y (frm t l)) ([] ++ delL [] h)) else False
  | _ => False
theorem frame_mono : MMono frameT := by
  intro ms n h K K' hkk hk
  unfold frameT at hk ⊢
  split at hk
  · rename_i t vx0 ve0 va0 en0 vl0
    obtain ⟨hb, y0, z0, h1, h2⟩ := cond_false_elim hk
    rw [hb]
    exact ⟨y0, z0, h1, fun o => hkk _ _ _ (h2 o)⟩
  · exact hk.elim
theorem frame_ok : MOK Tryd.prog 40 frameT := by
  refine ⟨?_, frame_mono⟩
  intro ms n hB K hk
  unfold frameT at hk
  split at hk
  · rename_i t vx0 ve0 va0 en0 vl0
    obtain ⟨hb, l, he0, h, hk2⟩ := cond_false_elim hk
    clear hk
    simp only [Bool.and_eq_true] at hb
    obtain ⟨hc0, hnd⟩ := hb
    have hs0 := Nat.eq_of_beq_eq_true hc0
    subst hs0
    refine SCall.seen ?_ (.cons (.refl _) (.cons (.view he0) .nil))
    exact (frame_spec _ t h.1 h.2).use (fun _ => 0) rfl rfl trivial (by exact hnd) (fun j hj => absurd hj (Nat.not_lt_zero j)) (fun o => hk2 o)
  · exact hk.elim

open Go Go.Sx Go.Sha

structure CapT (n : Nat) where
  cap : Nat
  h : n ≤ cap
open Go Go.Sx Go.Sha

structure PiT (l : List BTy) where
  i : Nat
  r : List BTy
  cap : Nat
  hi : i ≤ l.length
  hc : r.length ≤ cap
  he : r.map bl = (l.take i).map bl
structure PaT (l : List BTy) where
  y : Value
  r : List BTy
  he : r.map bl = l.map bl
theorem PiT.len {l : List BTy} (o : PiT l) : o.r.length = o.i := by
  have := congrArg List.length o.he
  have h := o.hi
  simp at this
  omega
theorem PaT.len {l : List BTy} (o : PaT l) : o.r.length = l.length := by have := congrArg List.length o.he; simpa using this
theorem frm_By {t : ByteArray} {l : List BTy} (h : ∀ y ∈ l, By (bl y)) : By (frm t l) := frameF_By (sl_By t) fun a ha => by
  obtain ⟨y, hy, rfl⟩ := List.mem_map.1 ha
  exact h y hy
theorem frm_len (t : ByteArray) (l : List BTy) : (frm t l).length ≤ 256 + (l.flatMap fB).length := by
  have := frm_mono t l l.length
  rwa [List.take_length] at this
theorem tagged_spec (x : Value) (t : ByteArray) {l : List BTy} (h : (l.flatMap fB).length ≤ 140000000000000) (ht : t.size ≤ 140737488351232) (hB : ∀ y ∈ l, By (bl y)) :
    SFun Tryd.prog 30 [str t, bV x l] (h32 (shaF (frm t l))) := by
  refine SFun.inm [(39, sumT)] (SOK.cons sum_ok SOK.nil) [(40, frameT)] (MSOK.cons frame_ok MSOK.nil) tok mixed [] IOK.nil true [] [] Tryd.call30 Tryd.func30 rfl (by rfl) ?_
  refine Eq.mp (α := (∃ l_1 : List BTy, (And (List.map (Enc.enc BE) l = List.map eBl l_1) (And (And (List.length (List.flatMap fB l_1) ≤ (140000000000000 : Nat)) (ByteArray.size t ≤ (140737488351232 : Nat))) (∀ y : Value, (∃ b : List Int, (And (List.map (Enc.enc (encInt IntKind.u8)) (frm t l_1) = List.map eB b) (And (And (∀ x_1 : Int, (∀ a : x_1 ∈ b, (And ((0 : Int) ≤ x_1) (x_1 < (256 : Int))))) (List.length b ≤ (140737488351232 : Nat))) (And (M.agg [SV.ints IntKind.u8 (32 : Nat) (shaF b)] = M.agg [SV.ints IntKind.u8 (32 : Nat) (shaF (frm t l))]) ((true : Bool) = true)))))))))) (by kernel_rfl) ?_
  have := frm_len t l
  refine ⟨l, rfl, ⟨h, ht⟩, fun y => ⟨frm t l, rfl, ⟨frm_By hB, by omega⟩, ?_⟩⟩
  repeat' first | exact trivial | refine And.intro ?_ ?_ | with_reducible refine bif_dt (by assumption) ?_ | with_reducible refine bif_df (by assumption) ?_ | with_reducible refine bif_dec (fun _ => ?_) (fun _ => ?_) | with_reducible refine bif_not ?_ | with_reducible refine bif_and ?_ | with_reducible refine bif_or ?_ | with_reducible refine bif_t (by assumption) ?_ | with_reducible refine bif_f (by assumption) ?_ | with_reducible refine bif_t (beq_self_eq_true _) ?_ | with_reducible refine bif_b (fun _ => ?_) (fun _ => ?_) | with_reducible refine ⟨_, Eq.refl (List.map _ _), ?_⟩ | (with_reducible refine Exists.intro (by omega) ?_) | rfl | (intro h0; omega) | omega
def taggedMT : MT := fun ms n h K => match ms with
  | [.one (.v (.string t)), .one (.view vx0 ve0 en0 vl0)] => bif Nat.beq ve0 1 && noDup [] then ∃ l : List (BTy), vl0.map en0 = l.map eBl ∧ (((l.flatMap fB).length ≤ 140000000000000 ∧ t.size ≤ 140737488351232 ∧ ∀ y ∈ l, By (bl y))) ∧ (∀ o : Unit, K (n + 0) (h32 (shaF (frm t l))) ([] ++ delL [] h)) else False
  | _ => False
theorem taggedM_mono : MMono taggedMT := by
  intro ms n h K K' hkk hk
  unfold taggedMT at hk ⊢
  split at hk
  · rename_i t vx0 ve0 va0 en0 vl0
    obtain ⟨hb, y0, z0, h1, h2⟩ := cond_false_elim hk
    rw [hb]
    exact ⟨y0, z0, h1, fun o => hkk _ _ _ (h2 o)⟩
  · exact hk.elim
theorem taggedM_ok : MOK Tryd.prog 30 taggedMT := by
  refine ⟨?_, taggedM_mono⟩
  intro ms n hB K hk
  unfold taggedMT at hk
  split at hk
  · rename_i t vx0 ve0 va0 en0 vl0
    obtain ⟨hb, l, he0, h, hk2⟩ := cond_false_elim hk
    clear hk
    simp only [Bool.and_eq_true] at hb
    obtain ⟨hc0, hnd⟩ := hb
    have hs0 := Nat.eq_of_beq_eq_true hc0
    subst hs0
    refine SCall.seen ?_ (.cons (.refl _) (.cons (.view he0) .nil))
    exact ((tagged_spec _ _ h.1 h.2.1 h.2.2).mem rfl).use (fun _ => 0) rfl rfl trivial (by exact hnd) (fun j hj => absurd hj (Nat.not_lt_zero j)) (fun o => hk2 o)
  · exact hk.elim

open Go Go.Sx Go.Sha

def pairF (a b : List Int) : List Int := [4, 112, 97, 105, 114] ++ (blb a ++ blb b)
theorem pairF_By {a b : List Int} (ha : By a) (hb : By b) : By (pairF a b) := By.app (by unfold By; decide) ((blb_By ha).app (blb_By hb))
theorem pairF_length {a b : List Int} (ha : a.length = 32) (hb : b.length = 32) : (pairF a b).length = 85 := by
  simp [pairF, blb_length, ha, hb]
theorem blb32 {a : List Int} (ha : a.length = 32) : blb a = [0, 0, 0, 0, 0, 0, 0, 32] ++ a := by
  unfold blb
  rw [ha]
  rfl
theorem pair_lay {a b : List Int} (ha : a.length = 32) (hb : b.length = 32) :
    lay (lay (lay ((((List.replicate 85 (0 : Int)).set (Int.toNat 0) 4).set (Int.toNat 12) 32).set (Int.toNat 52) 32) 1 84 (sl { data := #[112, 97, 105, 114] })) 13 72 a) 53 32 b = pairF a b := by
  have e1 : lay ((((List.replicate 85 (0 : Int)).set (Int.toNat 0) 4).set (Int.toNat 12) 32).set (Int.toNat 52) 32) 1 84 (sl { data := #[112, 97, 105, 114] }) =
    [4, 112, 97, 105, 114, 0, 0, 0, 0, 0, 0, 0, 32] ++ (List.replicate 39 0 ++ (32 :: List.replicate 32 0)) := by decide +kernel
  rw [e1]
  generalize hX : [4, 112, 97, 105, 114, 0, 0, 0, 0, 0, 0, 0, (32 : Int)] ++ (List.replicate 39 0 ++ (32 :: List.replicate 32 0)) = X
  have t13 : X.take 13 = [4, 112, 97, 105, 114, 0, 0, 0, 0, 0, 0, 0, 32] := by rw [← hX]; decide
  have d45 : X.drop 45 = [0, 0, 0, 0, 0, 0, 0, 32] ++ List.replicate 32 0 := by rw [← hX]; decide
  have e2 : lay X 13 72 a = [4, 112, 97, 105, 114, 0, 0, 0, 0, 0, 0, 0, 32] ++ (a ++ ([0, 0, 0, 0, 0, 0, 0, 32] ++ List.replicate 32 0)) := by
    unfold lay
    rw [t13, List.take_of_length_le (by omega), ha, show 13 + min 32 72 = 45 from rfl, d45]
  rw [e2]
  unfold lay pairF
  rw [blb32 ha, blb32 hb, List.take_of_length_le (show b.length ≤ 32 by omega), hb]
  have hl : ([4, 112, 97, 105, 114, 0, 0, 0, 0, 0, 0, 0, (32 : Int)] ++ (a ++ ([0, 0, 0, 0, 0, 0, 0, 32] ++ List.replicate 32 0))).length = 85 := by simp [ha]
  rw [List.drop_of_length_le (by rw [hl]; decide), List.append_nil, List.take_append, List.take_of_length_le (by decide), List.take_append, List.take_of_length_le (by simp [ha])]
  simp [ha]

theorem pair_spec {a b : List Int} (ha : a.length = 32) (hb : b.length = 32) (hA : By a) (hB : By b) : SFun Tryd.prog 48 [h32 a, h32 b] (h32 (shaF (pairF a b))) := by
  refine SFun.inm [(39, sumT)] (SOK.cons sum_ok SOK.nil) [] MSOK.nil tok mixed [] IOK.nil true [] [] Tryd.call48 Tryd.func48 rfl (by rfl) ?_
  refine Eq.mp (α := (And ((0 : Int) ≤ (0 : Int)) (And (Int.toNat (0 : Int) < (85 : Nat)) (And (Int.toNat (0 : Int) < (85 : Nat)) (And ((0 : Int) ≤ (12 : Int)) (And (Int.toNat (12 : Int) < (85 : Nat)) (And (Int.toNat (12 : Int) < (85 : Nat)) (And ((0 : Int) ≤ (52 : Int)) (And (Int.toNat (52 : Int) < (85 : Nat)) (And (Int.toNat (52 : Int) < (85 : Nat)) (And ((0 : Int) ≤ (1 : Int)) (And (Int.toNat (1 : Int) ≤ (85 : Nat)) (And ((85 : Nat) ≤ (85 : Nat)) (And ((85 : Nat) ≤ (85 : Nat)) (And ((if (85 : Nat) = Int.toNat (1 : Int) then (0 : Nat) else Int.toNat (1 : Int)) + ((85 : Nat) - Int.toNat (1 : Int)) ≤ (85 : Nat)) (And ((0 : Int) ≤ (13 : Int)) (And (Int.toNat (13 : Int) ≤ (85 : Nat)) (And ((85 : Nat) ≤ (85 : Nat)) (And ((85 : Nat) ≤ (85 : Nat)) (And ((0 : Nat) ≤ (32 : Nat)) (And ((32 : Nat) ≤ (32 : Nat)) (And ((32 : Nat) ≤ (32 : Nat)) (And ((if (32 : Nat) = (0 : Nat) then (0 : Nat) else (0 : Nat)) + ((32 : Nat) - (0 : Nat)) ≤ (32 : Nat)) (And ((if (85 : Nat) = Int.toNat (13 : Int) then (0 : Nat) else Int.toNat (13 : Int)) + ((85 : Nat) - Int.toNat (13 : Int)) ≤ (85 : Nat)) (And ((0 : Int) ≤ (53 : Int)) (And (Int.toNat (53 : Int) ≤ (85 : Nat)) (And ((85 : Nat) ≤ (85 : Nat)) (And ((85 : Nat) ≤ (85 : Nat)) (And ((0 : Nat) ≤ (32 : Nat)) (And ((32 : Nat) ≤ (32 : Nat)) (And ((32 : Nat) ≤ (32 : Nat)) (And ((if (32 : Nat) = (0 : Nat) then (0 : Nat) else (0 : Nat)) + ((32 : Nat) - (0 : Nat)) ≤ (32 : Nat)) (And ((if (85 : Nat) = Int.toNat (53 : Int) then (0 : Nat) else Int.toNat (53 : Int)) + ((85 : Nat) - Int.toNat (53 : Int)) ≤ (85 : Nat)) (And ((0 : Nat) ≤ (85 : Nat)) (And ((85 : Nat) ≤ (85 : Nat)) (And ((85 : Nat) ≤ (85 : Nat)) (And ((if (85 : Nat) = (0 : Nat) then (0 : Nat) else (0 : Nat)) + ((85 : Nat) - (0 : Nat)) ≤ (85 : Nat)) (And ((85 : Nat) - (0 : Nat) ≤ (85 : Nat) - (0 : Nat)) (∀ x : Value, (∃ b_1 : List Int, (And (List.map (fun b => [SV.v (Value.int IntKind.u8 b)]) (List.take ((85 : Nat) - (0 : Nat)) (List.drop (if (85 : Nat) = (0 : Nat) then (0 : Nat) else (0 : Nat)) (lay (lay (lay (List.set (List.set (List.set (List.replicate (85 : Nat) (0 : Int)) (Int.toNat (0 : Int)) (4 : Int)) (Int.toNat (12 : Int)) (32 : Int)) (Int.toNat (52 : Int)) (32 : Int)) (if (85 : Nat) = Int.toNat (1 : Int) then (0 : Nat) else Int.toNat (1 : Int)) ((85 : Nat) - Int.toNat (1 : Int)) (sl { data := #[(112 : UInt8), (97 : UInt8), (105 : UInt8), (114 : UInt8)] })) (if (85 : Nat) = Int.toNat (13 : Int) then (0 : Nat) else Int.toNat (13 : Int)) ((85 : Nat) - Int.toNat (13 : Int)) (List.take ((32 : Nat) - (0 : Nat)) (List.drop (if (32 : Nat) = (0 : Nat) then (0 : Nat) else (0 : Nat)) a))) (if (85 : Nat) = Int.toNat (53 : Int) then (0 : Nat) else Int.toNat (53 : Int)) ((85 : Nat) - Int.toNat (53 : Int)) (List.take ((32 : Nat) - (0 : Nat)) (List.drop (if (32 : Nat) = (0 : Nat) then (0 : Nat) else (0 : Nat)) b))))) = List.map eB b_1) (And (And (∀ x_1 : Int, (∀ a_1 : x_1 ∈ b_1, (And ((0 : Int) ≤ x_1) (x_1 < (256 : Int))))) (List.length b_1 ≤ (140737488351232 : Nat))) (And (M.agg [SV.ints IntKind.u8 (32 : Nat) (shaF b_1)] = M.agg [SV.ints IntKind.u8 (32 : Nat) (shaF (pairF a b))]) ((true : Bool) = true)))))))))))))))))))))))))))))))))))))))))))) (by kernel_rfl) ?_
  have c : ∀ k, k ≠ 85 → (if (85 : Nat) = k then 0 else k) = k := fun k h => by rw [if_neg (fun e => h e.symm)]
  have n1 : Int.toNat 1 = 1 := rfl
  have n13 : Int.toNat 13 = 13 := rfl
  have n53 : Int.toNat 53 = 53 := rfl
  have ta : List.take (32 - 0) (List.drop (if (32 : Nat) = 0 then 0 else 0) a) = a := by
    show List.take 32 (List.drop 0 a) = a
    rw [List.drop_zero, List.take_of_length_le (by omega)]
  have tb : List.take (32 - 0) (List.drop (if (32 : Nat) = 0 then 0 else 0) b) = b := by
    show List.take 32 (List.drop 0 b) = b
    rw [List.drop_zero, List.take_of_length_le (by omega)]
  simp only [ta, tb, n1, n13, n53, c 1 (by decide), c 13 (by decide), c 53 (by decide), show (if (85 : Nat) = 0 then 0 else 0) = 0 from rfl, List.drop_zero, show 85 - 1 = 84 from rfl, show 85 - 13 = 72 from rfl, show 85 - 53 = 32 from rfl, show 85 - 0 = 85 from rfl, pair_lay ha hb]
  rw [List.take_of_length_le (by rw [pairF_length ha hb]; exact Nat.le_refl _)]
  repeat (with_reducible refine And.intro (by first | exact trivial | omega | decide) ?_)
  intro x
  refine ⟨_, rfl, ⟨pairF_By hA hB, by rw [pairF_length ha hb]; decide⟩, ?_⟩
  repeat' first | exact trivial | refine And.intro ?_ ?_ | with_reducible refine bif_dt (by assumption) ?_ | with_reducible refine bif_df (by assumption) ?_ | with_reducible refine bif_dec (fun _ => ?_) (fun _ => ?_) | with_reducible refine bif_not ?_ | with_reducible refine bif_and ?_ | with_reducible refine bif_or ?_ | with_reducible refine bif_t (by assumption) ?_ | with_reducible refine bif_f (by assumption) ?_ | with_reducible refine bif_t (beq_self_eq_true _) ?_ | with_reducible refine bif_b (fun _ => ?_) (fun _ => ?_) | with_reducible refine ⟨_, Eq.refl (List.map _ _), ?_⟩ | (with_reducible refine Exists.intro (by omega) ?_) | rfl | (intro h0; omega) | omega
def pairT : List M → (M → Prop) → Prop
  | [.agg [.ints .u8 32 a], .agg [.ints .u8 32 b]], K => (a.length = 32 ∧ b.length = 32 ∧ By a ∧ By b) ∧ K (h32 (shaF (pairF a b)))
  | _, _ => False
theorem pair_ok : POK Tryd.prog 48 pairT := by
  intro ms K h
  unfold pairT at h ⊢
  split at h
  · exact ⟨_, h.2, (pair_spec h.1.1 h.1.2.1 h.1.2.2.1 h.1.2.2.2), rfl, fun _ hk => ⟨h.1, hk⟩⟩
  · exact h.elim

end Go.Proofs.YtgbikcniediomaaDoor.Dg
