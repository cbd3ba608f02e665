/- A text as a number. -/
import Derived.Test.YtjdlefkpoggocaaQ32
import Derived.Test.YtjdlefkpoggocaaW7
import Derived.Test.YtjdlefkpoggocaaSx24
namespace Go.Proofs.Ytjdlefkpoggocaa
open Go Go.Sx Go.Wide
set_option linter.unusedVariables false
set_option linter.unusedSimpArgs false
set_option maxRecDepth 100000
set_option maxHeartbeats 4000000

structure IdT (l : List Int) where
  i : Nat
  cap : Nat
  hi : i ≤ l.length
  hd : ∀ k, k < i → isD (l.getD k 0) = true
structure PsT (l : List Int) where
  i : Nat
  v : Nat
  cap : Nat
  hi : i ≤ l.length
  hv : v < T256
  hp : parseF 0 l = parseF v (l.drop i)

def ixI (s : ByteArray) : List (Nat × Inv) := [(2, ⟨IdT (sl s), fun p => ⟨2, [(0, .one (.slc 1 1 0 s.size p.cap)), (1, .one (.clo 60 [])), (7, int s.size), (8, int p.i)], [(0, .cells [.ints .u64 4 [0, 0, 0, 0]]), (1, .row 1 (encInt .u8) (sl s) p.cap)]⟩, fun p => (sl s).length - p.i, fun p q => q.cap = p.cap⟩)]

theorem parse_spec (s : ByteArray) : SFun Try.prog 33 [str s] (.tup [w4 (L (parseR (sl s)).1), int (parseR (sl s)).2]) := by
  refine SFun.inm [(14, mulT), (20, addNT), (29, ofNT)] (SOK.cons mul_ok (SOK.cons addN_ok (SOK.cons ofN_ok SOK.nil))) [] MSOK.nil tok mixed [(59, ⟨Try.f59, true, [], []⟩), (75, ⟨Try.f75, true, (ixI s), []⟩), (60, ⟨Try.f60, true, [], []⟩)] (IOK.cons Try.func59 Try.call59 (IOK.cons Try.func75 Try.call75 (IOK.cons Try.func60 Try.call60 IOK.nil))) true [(4, ⟨PsT (sl s), fun p => ⟨2, [(2, .one (.ptr 0 0)), (3, int 0), (32, .one (.slc 1 1 0 s.size p.cap)), (33, int s.size), (34, int p.i)], [(0, .cells [.ints .u64 4 (L p.v)]), (1, .row 1 (encInt .u8) (sl s) p.cap)]⟩, fun p => (sl s).length - p.i, fun _ _ => True⟩)] [] Try.call33 Try.func33 rfl (by rfl) ?_
  refine Eq.mp (α := (@Bool.rec (fun _ => Prop) (@Bool.rec (fun _ => Prop) (@Bool.rec (fun _ => Prop) (∀ cap : Nat, (∀ a : ByteArray.size s ≤ cap, (∃ i0 : IdT (sl s), (And (And (IdT.cap i0 = IdT.cap i0) (And (And (And ((true : Bool) = true) (And ((0 : Nat) = (0 : Nat)) (And (ByteArray.size s = ByteArray.size s) (IdT.cap i0 = cap)))) (And (And ((60 : Nat) = (60 : Nat)) True) (And ((↑(ByteArray.size s) : Int) = (↑(ByteArray.size s) : Int)) (And ((↑(IdT.i i0) : Int) = (0 : Int)) True)))) (And (And (And ([(0 : Int), (0 : Int), (0 : Int), (0 : Int)] = List.replicate (4 : Nat) (0 : Int)) True) (And ((true : Bool) = true) (And (And ((true : Bool) = true) (And (IdT.cap i0 = cap) (And (List.map (Enc.enc (encInt IntKind.u8)) (sl s) = List.map (Enc.enc (encInt IntKind.u8)) (sl s)) (∀ x : Int, (∀ a_1 : x ∈ sl s, (∀ s_1 : SV, (∀ a_2 : s_1 ∈ Enc.enc (encInt IntKind.u8) x, ((SV.isPure s_1 : Bool) = true)))))))) (And ((true : Bool) = true) True)))) ((true : Bool) = true)))) (∀ i : IdT (sl s), (∀ a_1 : IdT.cap i = IdT.cap i0, (@Bool.rec (fun _ => Prop) (∀ cap_1 : Nat, (∀ a_2 : ByteArray.size s ≤ cap_1, (∃ i0_1 : PsT (sl s), (And (And True (And (And (And ((true : Bool) = true) ((0 : Nat) = (0 : Nat))) (And ((0 : Int) = (0 : Int)) (And (And ((true : Bool) = true) (And ((0 : Nat) = (0 : Nat)) (And (ByteArray.size s = ByteArray.size s) (PsT.cap i0_1 = cap_1)))) (And ((↑(ByteArray.size s) : Int) = (↑(ByteArray.size s) : Int)) (And ((↑(PsT.i i0_1) : Int) = (0 : Int)) True))))) (And (And (And (L (PsT.v i0_1) = [(0 : Int), (0 : Int), (0 : Int), (0 : Int)]) True) (And ((true : Bool) = true) (And (And ((true : Bool) = true) (And (PsT.cap i0_1 = cap_1) (And (List.map (Enc.enc (encInt IntKind.u8)) (sl s) = List.map (Enc.enc (encInt IntKind.u8)) (sl s)) (∀ x : Int, (∀ a_3 : x ∈ sl s, (∀ s_1 : SV, (∀ a_4 : s_1 ∈ Enc.enc (encInt IntKind.u8) x, ((SV.isPure s_1 : Bool) = true)))))))) (And ((true : Bool) = true) True)))) ((true : Bool) = true)))) (∀ i_1 : PsT (sl s), (∀ a_3 : True, (@Bool.rec (fun _ => Prop) (And (M.tup [M.agg [SV.ints IntKind.u64 (4 : Nat) (L (PsT.v i_1))], M.one (SV.v (Value.int IntKind.i64 (0 : Int)))] = M.tup [M.agg [SV.ints IntKind.u64 (4 : Nat) (L (Prod.fst (parseR (sl s))))], M.one (SV.v (Value.int IntKind.i64 (Prod.snd (parseR (sl s)))))]) ((true : Bool) = true)) (And ((0 : Int) ≤ (↑(PsT.i i_1) : Int)) (And (Int.toNat (↑(PsT.i i_1) : Int) < ByteArray.size s) (∃ hi : (0 : Nat) + Int.toNat (↑(PsT.i i_1) : Int) < List.length (sl s), (And (And ((0 : Int) ≤ (10 : Int)) ((10 : Int) < (18446744073709551616 : Int))) (And (And (And ((4 : Nat) = (4 : Nat)) (∀ x : Int, (∀ a_4 : x ∈ L (PsT.v i_1), (And ((0 : Int) ≤ x) (x < (↑N64 : Int)))))) (And ((4 : Nat) = (4 : Nat)) (∀ x : Int, (∀ a_4 : x ∈ L (Int.toNat (10 : Int)), (And ((0 : Int) ≤ x) (x < (↑N64 : Int))))))) (@Bool.rec (fun _ => Prop) (@Bool.rec (fun _ => Prop) (∃ i' : PsT (sl s), (And (And (List.length (sl s) - PsT.i i' < List.length (sl s) - PsT.i i_1) True) (And (And (And ((true : Bool) = true) ((0 : Nat) = (0 : Nat))) (And ((0 : Int) = (0 : Int)) (And (And ((true : Bool) = true) (And ((0 : Nat) = (0 : Nat)) (And (ByteArray.size s = ByteArray.size s) (PsT.cap i' = PsT.cap i_1)))) (And ((↑(ByteArray.size s) : Int) = (↑(ByteArray.size s) : Int)) (And ((↑(PsT.i i') : Int) = IntKind.wrap IntKind.i64 ((↑(PsT.i i_1) : Int) + (1 : Int))) True))))) (And (And (And (L (PsT.v i') = L (Prod.fst (mulR (N (L (PsT.v i_1))) (N (L (Int.toNat (10 : Int))))))) True) (And ((true : Bool) = true) (And (And ((true : Bool) = true) (And (PsT.cap i' = PsT.cap i_1) (And (List.map (Enc.enc (encInt IntKind.u8)) (sl s) = List.map (Enc.enc (encInt IntKind.u8)) (sl s)) (∀ x : Int, (∀ a_4 : x ∈ sl s, (∀ s_1 : SV, (∀ a_5 : s_1 ∈ Enc.enc (encInt IntKind.u8) x, ((SV.isPure s_1 : Bool) = true)))))))) (And ((true : Bool) = true) True)))) ((true : Bool) = true))))) (And (M.tup [M.agg [SV.ints IntKind.u64 (4 : Nat) (List.replicate (4 : Nat) (0 : Int))], M.one (SV.v (Value.int IntKind.i64 (Prod.snd (mulR (N (L (PsT.v i_1))) (N (L (Int.toNat (10 : Int))))))))] = M.tup [M.agg [SV.ints IntKind.u64 (4 : Nat) (L (Prod.fst (parseR (sl s))))], M.one (SV.v (Value.int IntKind.i64 (Prod.snd (parseR (sl s)))))]) ((true : Bool) = true)) (Prod.snd (mulR (N (L (PsT.v i_1))) (N (L (Int.toNat (10 : Int))))) != (0 : Int))) (And (And ((0 : Int) ≤ IntKind.wrap IntKind.u64 (IntKind.wrap IntKind.u8 ((sl s)[(0 : Nat) + Int.toNat (↑(PsT.i i_1) : Int)] - (48 : Int)))) (IntKind.wrap IntKind.u64 (IntKind.wrap IntKind.u8 ((sl s)[(0 : Nat) + Int.toNat (↑(PsT.i i_1) : Int)] - (48 : Int))) < (18446744073709551616 : Int))) (And (And (And ((4 : Nat) = (4 : Nat)) (∀ x : Int, (∀ a_4 : x ∈ L (Prod.fst (mulR (N (L (PsT.v i_1))) (N (L (Int.toNat (10 : Int)))))), (And ((0 : Int) ≤ x) (x < (↑N64 : Int)))))) (And ((4 : Nat) = (4 : Nat)) (∀ x : Int, (∀ a_4 : x ∈ L (Int.toNat (IntKind.wrap IntKind.u64 (IntKind.wrap IntKind.u8 ((sl s)[(0 : Nat) + Int.toNat (↑(PsT.i i_1) : Int)] - (48 : Int))))), (And ((0 : Int) ≤ x) (x < (↑N64 : Int))))))) (@Bool.rec (fun _ => Prop) (∃ i' : PsT (sl s), (And (And (List.length (sl s) - PsT.i i' < List.length (sl s) - PsT.i i_1) True) (And (And (And ((true : Bool) = true) ((0 : Nat) = (0 : Nat))) (And ((0 : Int) = (0 : Int)) (And (And ((true : Bool) = true) (And ((0 : Nat) = (0 : Nat)) (And (ByteArray.size s = ByteArray.size s) (PsT.cap i' = PsT.cap i_1)))) (And ((↑(ByteArray.size s) : Int) = (↑(ByteArray.size s) : Int)) (And ((↑(PsT.i i') : Int) = IntKind.wrap IntKind.i64 ((↑(PsT.i i_1) : Int) + (1 : Int))) True))))) (And (And (And (L (PsT.v i') = L (Prod.fst (addR (N (L (Prod.fst (mulR (N (L (PsT.v i_1))) (N (L (Int.toNat (10 : Int)))))))) (N (L (Int.toNat (IntKind.wrap IntKind.u64 (IntKind.wrap IntKind.u8 ((sl s)[(0 : Nat) + Int.toNat (↑(PsT.i i_1) : Int)] - (48 : Int)))))))))) True) (And ((true : Bool) = true) (And (And ((true : Bool) = true) (And (PsT.cap i' = PsT.cap i_1) (And (List.map (Enc.enc (encInt IntKind.u8)) (sl s) = List.map (Enc.enc (encInt IntKind.u8)) (sl s)) (∀ x : Int, (∀ a_4 : x ∈ sl s, (∀ s_1 : SV, (∀ a_5 : s_1 ∈ Enc.enc (encInt IntKind.u8) x, ((SV.isPure s_1 : Bool) = true)))))))) (And ((true : Bool) = true) True)))) ((true : Bool) = true))))) (And (M.tup [M.agg [SV.ints IntKind.u64 (4 : Nat) (List.replicate (4 : Nat) (0 : Int))], M.one (SV.v (Value.int IntKind.i64 (Prod.snd (addR (N (L (Prod.fst (mulR (N (L (PsT.v i_1))) (N (L (Int.toNat (10 : Int)))))))) (N (L (Int.toNat (IntKind.wrap IntKind.u64 (IntKind.wrap IntKind.u8 ((sl s)[(0 : Nat) + Int.toNat (↑(PsT.i i_1) : Int)] - (48 : Int)))))))))))] = M.tup [M.agg [SV.ints IntKind.u64 (4 : Nat) (L (Prod.fst (parseR (sl s))))], M.one (SV.v (Value.int IntKind.i64 (Prod.snd (parseR (sl s)))))]) ((true : Bool) = true)) (Prod.snd (addR (N (L (Prod.fst (mulR (N (L (PsT.v i_1))) (N (L (Int.toNat (10 : Int)))))))) (N (L (Int.toNat (IntKind.wrap IntKind.u64 (IntKind.wrap IntKind.u8 ((sl s)[(0 : Nat) + Int.toNat (↑(PsT.i i_1) : Int)] - (48 : Int)))))))) != (0 : Int))))) (Prod.snd (mulR (N (L (PsT.v i_1))) (N (L (Int.toNat (10 : Int))))) == (0 : Int)))))))) (decide ((↑(PsT.i i_1) : Int) < (↑(ByteArray.size s) : Int)))))))))) (And ((0 : Int) ≤ (↑(IdT.i i) : Int)) (And (Int.toNat (↑(IdT.i i) : Int) < ByteArray.size s) (∃ hi : (0 : Nat) + Int.toNat (↑(IdT.i i) : Int) < List.length (sl s), (@Bool.rec (fun _ => Prop) (@Bool.rec (fun _ => Prop) (∃ i' : IdT (sl s), (And (And (List.length (sl s) - IdT.i i' < List.length (sl s) - IdT.i i) (IdT.cap i' = IdT.cap i0)) (And (And (And ((true : Bool) = true) (And ((0 : Nat) = (0 : Nat)) (And (ByteArray.size s = ByteArray.size s) (IdT.cap i' = IdT.cap i)))) (And (And ((60 : Nat) = (60 : Nat)) True) (And ((↑(ByteArray.size s) : Int) = (↑(ByteArray.size s) : Int)) (And ((↑(IdT.i i') : Int) = IntKind.wrap IntKind.i64 ((↑(IdT.i i) : Int) + (1 : Int))) True)))) (And (And (And ([(0 : Int), (0 : Int), (0 : Int), (0 : Int)] = [(0 : Int), (0 : Int), (0 : Int), (0 : Int)]) True) (And ((true : Bool) = true) (And (And ((true : Bool) = true) (And (IdT.cap i' = IdT.cap i) (And (List.map (Enc.enc (encInt IntKind.u8)) (sl s) = List.map (Enc.enc (encInt IntKind.u8)) (sl s)) (∀ x : Int, (∀ a_2 : x ∈ sl s, (∀ s_1 : SV, (∀ a_3 : s_1 ∈ Enc.enc (encInt IntKind.u8) x, ((SV.isPure s_1 : Bool) = true)))))))) (And ((true : Bool) = true) True)))) ((true : Bool) = true))))) (And (M.tup [M.agg [SV.ints IntKind.u64 (4 : Nat) [(0 : Int), (0 : Int), (0 : Int), (0 : Int)]], M.one (SV.v (Value.int IntKind.i64 (21 : Int)))] = M.tup [M.agg [SV.ints IntKind.u64 (4 : Nat) (L (Prod.fst (parseR (sl s))))], M.one (SV.v (Value.int IntKind.i64 (Prod.snd (parseR (sl s)))))]) ((true : Bool) = true)) (decide ((57 : Int) < (sl s)[(0 : Nat) + Int.toNat (↑(IdT.i i) : Int)]))) (And (M.tup [M.agg [SV.ints IntKind.u64 (4 : Nat) [(0 : Int), (0 : Int), (0 : Int), (0 : Int)]], M.one (SV.v (Value.int IntKind.i64 (21 : Int)))] = M.tup [M.agg [SV.ints IntKind.u64 (4 : Nat) (L (Prod.fst (parseR (sl s))))], M.one (SV.v (Value.int IntKind.i64 (Prod.snd (parseR (sl s)))))]) ((true : Bool) = true)) (decide ((sl s)[(0 : Nat) + Int.toNat (↑(IdT.i i) : Int)] < (48 : Int))))))) (decide ((↑(IdT.i i) : Int) < (↑(ByteArray.size s) : Int)))))))))) (And ((0 : Int) ≤ (0 : Int)) (And (Int.toNat (0 : Int) < ByteArray.size s) (@Bool.rec (fun _ => Prop) (∀ cap : Nat, (∀ a : ByteArray.size s ≤ cap, (∃ i0 : IdT (sl s), (And (And (IdT.cap i0 = IdT.cap i0) (And (And (And ((true : Bool) = true) (And ((0 : Nat) = (0 : Nat)) (And (ByteArray.size s = ByteArray.size s) (IdT.cap i0 = cap)))) (And (And ((60 : Nat) = (60 : Nat)) True) (And ((↑(ByteArray.size s) : Int) = (↑(ByteArray.size s) : Int)) (And ((↑(IdT.i i0) : Int) = (0 : Int)) True)))) (And (And (And ([(0 : Int), (0 : Int), (0 : Int), (0 : Int)] = List.replicate (4 : Nat) (0 : Int)) True) (And ((true : Bool) = true) (And (And ((true : Bool) = true) (And (IdT.cap i0 = cap) (And (List.map (Enc.enc (encInt IntKind.u8)) (sl s) = List.map (Enc.enc (encInt IntKind.u8)) (sl s)) (∀ x : Int, (∀ a_1 : x ∈ sl s, (∀ s_1 : SV, (∀ a_2 : s_1 ∈ Enc.enc (encInt IntKind.u8) x, ((SV.isPure s_1 : Bool) = true)))))))) (And ((true : Bool) = true) True)))) ((true : Bool) = true)))) (∀ i : IdT (sl s), (∀ a_1 : IdT.cap i = IdT.cap i0, (@Bool.rec (fun _ => Prop) (∀ cap_1 : Nat, (∀ a_2 : ByteArray.size s ≤ cap_1, (∃ i0_1 : PsT (sl s), (And (And True (And (And (And ((true : Bool) = true) ((0 : Nat) = (0 : Nat))) (And ((0 : Int) = (0 : Int)) (And (And ((true : Bool) = true) (And ((0 : Nat) = (0 : Nat)) (And (ByteArray.size s = ByteArray.size s) (PsT.cap i0_1 = cap_1)))) (And ((↑(ByteArray.size s) : Int) = (↑(ByteArray.size s) : Int)) (And ((↑(PsT.i i0_1) : Int) = (0 : Int)) True))))) (And (And (And (L (PsT.v i0_1) = [(0 : Int), (0 : Int), (0 : Int), (0 : Int)]) True) (And ((true : Bool) = true) (And (And ((true : Bool) = true) (And (PsT.cap i0_1 = cap_1) (And (List.map (Enc.enc (encInt IntKind.u8)) (sl s) = List.map (Enc.enc (encInt IntKind.u8)) (sl s)) (∀ x : Int, (∀ a_3 : x ∈ sl s, (∀ s_1 : SV, (∀ a_4 : s_1 ∈ Enc.enc (encInt IntKind.u8) x, ((SV.isPure s_1 : Bool) = true)))))))) (And ((true : Bool) = true) True)))) ((true : Bool) = true)))) (∀ i_1 : PsT (sl s), (∀ a_3 : True, (@Bool.rec (fun _ => Prop) (And (M.tup [M.agg [SV.ints IntKind.u64 (4 : Nat) (L (PsT.v i_1))], M.one (SV.v (Value.int IntKind.i64 (0 : Int)))] = M.tup [M.agg [SV.ints IntKind.u64 (4 : Nat) (L (Prod.fst (parseR (sl s))))], M.one (SV.v (Value.int IntKind.i64 (Prod.snd (parseR (sl s)))))]) ((true : Bool) = true)) (And ((0 : Int) ≤ (↑(PsT.i i_1) : Int)) (And (Int.toNat (↑(PsT.i i_1) : Int) < ByteArray.size s) (∃ hi : (0 : Nat) + Int.toNat (↑(PsT.i i_1) : Int) < List.length (sl s), (And (And ((0 : Int) ≤ (10 : Int)) ((10 : Int) < (18446744073709551616 : Int))) (And (And (And ((4 : Nat) = (4 : Nat)) (∀ x : Int, (∀ a_4 : x ∈ L (PsT.v i_1), (And ((0 : Int) ≤ x) (x < (↑N64 : Int)))))) (And ((4 : Nat) = (4 : Nat)) (∀ x : Int, (∀ a_4 : x ∈ L (Int.toNat (10 : Int)), (And ((0 : Int) ≤ x) (x < (↑N64 : Int))))))) (@Bool.rec (fun _ => Prop) (@Bool.rec (fun _ => Prop) (∃ i' : PsT (sl s), (And (And (List.length (sl s) - PsT.i i' < List.length (sl s) - PsT.i i_1) True) (And (And (And ((true : Bool) = true) ((0 : Nat) = (0 : Nat))) (And ((0 : Int) = (0 : Int)) (And (And ((true : Bool) = true) (And ((0 : Nat) = (0 : Nat)) (And (ByteArray.size s = ByteArray.size s) (PsT.cap i' = PsT.cap i_1)))) (And ((↑(ByteArray.size s) : Int) = (↑(ByteArray.size s) : Int)) (And ((↑(PsT.i i') : Int) = IntKind.wrap IntKind.i64 ((↑(PsT.i i_1) : Int) + (1 : Int))) True))))) (And (And (And (L (PsT.v i') = L (Prod.fst (mulR (N (L (PsT.v i_1))) (N (L (Int.toNat (10 : Int))))))) True) (And ((true : Bool) = true) (And (And ((true : Bool) = true) (And (PsT.cap i' = PsT.cap i_1) (And (List.map (Enc.enc (encInt IntKind.u8)) (sl s) = List.map (Enc.enc (encInt IntKind.u8)) (sl s)) (∀ x : Int, (∀ a_4 : x ∈ sl s, (∀ s_1 : SV, (∀ a_5 : s_1 ∈ Enc.enc (encInt IntKind.u8) x, ((SV.isPure s_1 : Bool) = true)))))))) (And ((true : Bool) = true) True)))) ((true : Bool) = true))))) (And (M.tup [M.agg [SV.ints IntKind.u64 (4 : Nat) (List.replicate (4 : Nat) (0 : Int))], M.one (SV.v (Value.int IntKind.i64 (Prod.snd (mulR (N (L (PsT.v i_1))) (N (L (Int.toNat (10 : Int))))))))] = M.tup [M.agg [SV.ints IntKind.u64 (4 : Nat) (L (Prod.fst (parseR (sl s))))], M.one (SV.v (Value.int IntKind.i64 (Prod.snd (parseR (sl s)))))]) ((true : Bool) = true)) (Prod.snd (mulR (N (L (PsT.v i_1))) (N (L (Int.toNat (10 : Int))))) != (0 : Int))) (And (And ((0 : Int) ≤ IntKind.wrap IntKind.u64 (IntKind.wrap IntKind.u8 ((sl s)[(0 : Nat) + Int.toNat (↑(PsT.i i_1) : Int)] - (48 : Int)))) (IntKind.wrap IntKind.u64 (IntKind.wrap IntKind.u8 ((sl s)[(0 : Nat) + Int.toNat (↑(PsT.i i_1) : Int)] - (48 : Int))) < (18446744073709551616 : Int))) (And (And (And ((4 : Nat) = (4 : Nat)) (∀ x : Int, (∀ a_4 : x ∈ L (Prod.fst (mulR (N (L (PsT.v i_1))) (N (L (Int.toNat (10 : Int)))))), (And ((0 : Int) ≤ x) (x < (↑N64 : Int)))))) (And ((4 : Nat) = (4 : Nat)) (∀ x : Int, (∀ a_4 : x ∈ L (Int.toNat (IntKind.wrap IntKind.u64 (IntKind.wrap IntKind.u8 ((sl s)[(0 : Nat) + Int.toNat (↑(PsT.i i_1) : Int)] - (48 : Int))))), (And ((0 : Int) ≤ x) (x < (↑N64 : Int))))))) (@Bool.rec (fun _ => Prop) (∃ i' : PsT (sl s), (And (And (List.length (sl s) - PsT.i i' < List.length (sl s) - PsT.i i_1) True) (And (And (And ((true : Bool) = true) ((0 : Nat) = (0 : Nat))) (And ((0 : Int) = (0 : Int)) (And (And ((true : Bool) = true) (And ((0 : Nat) = (0 : Nat)) (And (ByteArray.size s = ByteArray.size s) (PsT.cap i' = PsT.cap i_1)))) (And ((↑(ByteArray.size s) : Int) = (↑(ByteArray.size s) : Int)) (And ((↑(PsT.i i') : Int) = IntKind.wrap IntKind.i64 ((↑(PsT.i i_1) : Int) + (1 : Int))) True))))) (And (And (And (L (PsT.v i') = L (Prod.fst (addR (N (L (Prod.fst (mulR (N (L (PsT.v i_1))) (N (L (Int.toNat (10 : Int)))))))) (N (L (Int.toNat (IntKind.wrap IntKind.u64 (IntKind.wrap IntKind.u8 ((sl s)[(0 : Nat) + Int.toNat (↑(PsT.i i_1) : Int)] - (48 : Int)))))))))) True) (And ((true : Bool) = true) (And (And ((true : Bool) = true) (And (PsT.cap i' = PsT.cap i_1) (And (List.map (Enc.enc (encInt IntKind.u8)) (sl s) = List.map (Enc.enc (encInt IntKind.u8)) (sl s)) (∀ x : Int, (∀ a_4 : x ∈ sl s, (∀ s_1 : SV, (∀ a_5 : s_1 ∈ Enc.enc (encInt IntKind.u8) x, ((SV.isPure s_1 : Bool) = true)))))))) (And ((true : Bool) = true) True)))) ((true : Bool) = true))))) (And (M.tup [M.agg [SV.ints IntKind.u64 (4 : Nat) (List.replicate (4 : Nat) (0 : Int))], M.one (SV.v (Value.int IntKind.i64 (Prod.snd (addR (N (L (Prod.fst (mulR (N (L (PsT.v i_1))) (N (L (Int.toNat (10 : Int)))))))) (N (L (Int.toNat (IntKind.wrap IntKind.u64 (IntKind.wrap IntKind.u8 ((sl s)[(0 : Nat) + Int.toNat (↑(PsT.i i_1) : Int)] - (48 : Int)))))))))))] = M.tup [M.agg [SV.ints IntKind.u64 (4 : Nat) (L (Prod.fst (parseR (sl s))))], M.one (SV.v (Value.int IntKind.i64 (Prod.snd (parseR (sl s)))))]) ((true : Bool) = true)) (Prod.snd (addR (N (L (Prod.fst (mulR (N (L (PsT.v i_1))) (N (L (Int.toNat (10 : Int)))))))) (N (L (Int.toNat (IntKind.wrap IntKind.u64 (IntKind.wrap IntKind.u8 ((sl s)[(0 : Nat) + Int.toNat (↑(PsT.i i_1) : Int)] - (48 : Int)))))))) != (0 : Int))))) (Prod.snd (mulR (N (L (PsT.v i_1))) (N (L (Int.toNat (10 : Int))))) == (0 : Int)))))))) (decide ((↑(PsT.i i_1) : Int) < (↑(ByteArray.size s) : Int)))))))))) (And ((0 : Int) ≤ (↑(IdT.i i) : Int)) (And (Int.toNat (↑(IdT.i i) : Int) < ByteArray.size s) (∃ hi : (0 : Nat) + Int.toNat (↑(IdT.i i) : Int) < List.length (sl s), (@Bool.rec (fun _ => Prop) (@Bool.rec (fun _ => Prop) (∃ i' : IdT (sl s), (And (And (List.length (sl s) - IdT.i i' < List.length (sl s) - IdT.i i) (IdT.cap i' = IdT.cap i0)) (And (And (And ((true : Bool) = true) (And ((0 : Nat) = (0 : Nat)) (And (ByteArray.size s = ByteArray.size s) (IdT.cap i' = IdT.cap i)))) (And (And ((60 : Nat) = (60 : Nat)) True) (And ((↑(ByteArray.size s) : Int) = (↑(ByteArray.size s) : Int)) (And ((↑(IdT.i i') : Int) = IntKind.wrap IntKind.i64 ((↑(IdT.i i) : Int) + (1 : Int))) True)))) (And (And (And ([(0 : Int), (0 : Int), (0 : Int), (0 : Int)] = [(0 : Int), (0 : Int), (0 : Int), (0 : Int)]) True) (And ((true : Bool) = true) (And (And ((true : Bool) = true) (And (IdT.cap i' = IdT.cap i) (And (List.map (Enc.enc (encInt IntKind.u8)) (sl s) = List.map (Enc.enc (encInt IntKind.u8)) (sl s)) (∀ x : Int, (∀ a_2 : x ∈ sl s, (∀ s_1 : SV, (∀ a_3 : s_1 ∈ Enc.enc (encInt IntKind.u8) x, ((SV.isPure s_1 : Bool) = true)))))))) (And ((true : Bool) = true) True)))) ((true : Bool) = true))))) (And (M.tup [M.agg [SV.ints IntKind.u64 (4 : Nat) [(0 : Int), (0 : Int), (0 : Int), (0 : Int)]], M.one (SV.v (Value.int IntKind.i64 (21 : Int)))] = M.tup [M.agg [SV.ints IntKind.u64 (4 : Nat) (L (Prod.fst (parseR (sl s))))], M.one (SV.v (Value.int IntKind.i64 (Prod.snd (parseR (sl s)))))]) ((true : Bool) = true)) (decide ((57 : Int) < (sl s)[(0 : Nat) + Int.toNat (↑(IdT.i i) : Int)]))) (And (M.tup [M.agg [SV.ints IntKind.u64 (4 : Nat) [(0 : Int), (0 : Int), (0 : Int), (0 : Int)]], M.one (SV.v (Value.int IntKind.i64 (21 : Int)))] = M.tup [M.agg [SV.ints IntKind.u64 (4 : Nat) (L (Prod.fst (parseR (sl s))))], M.one (SV.v (Value.int IntKind.i64 (Prod.snd (parseR (sl s)))))]) ((true : Bool) = true)) (decide ((sl s)[(0 : Nat) + Int.toNat (↑(IdT.i i) : Int)] < (48 : Int))))))) (decide ((↑(IdT.i i) : Int) < (↑(ByteArray.size s) : Int)))))))))) (And (M.tup [M.agg [SV.ints IntKind.u64 (4 : Nat) (List.replicate (4 : Nat) (0 : Int))], M.one (SV.v (Value.int IntKind.i64 (21 : Int)))] = M.tup [M.agg [SV.ints IntKind.u64 (4 : Nat) (L (Prod.fst (parseR (sl s))))], M.one (SV.v (Value.int IntKind.i64 (Prod.snd (parseR (sl s)))))]) ((true : Bool) = true)) (List.getD (sl s) (Int.toNat (0 : Int)) (0 : Int) == (48 : Int))))) (decide ((1 : Int) < (↑(ByteArray.size s) : Int)))) (And (M.tup [M.agg [SV.ints IntKind.u64 (4 : Nat) (List.replicate (4 : Nat) (0 : Int))], M.one (SV.v (Value.int IntKind.i64 (21 : Int)))] = M.tup [M.agg [SV.ints IntKind.u64 (4 : Nat) (L (Prod.fst (parseR (sl s))))], M.one (SV.v (Value.int IntKind.i64 (Prod.snd (parseR (sl s)))))]) ((true : Bool) = true)) (decide ((80 : Int) < (↑(ByteArray.size s) : Int)))) (And (M.tup [M.agg [SV.ints IntKind.u64 (4 : Nat) (List.replicate (4 : Nat) (0 : Int))], M.one (SV.v (Value.int IntKind.i64 (21 : Int)))] = M.tup [M.agg [SV.ints IntKind.u64 (4 : Nat) (L (Prod.fst (parseR (sl s))))], M.one (SV.v (Value.int IntKind.i64 (Prod.snd (parseR (sl s)))))]) ((true : Bool) = true)) (ByteArray.toList s == ByteArray.toList { data := #[] }))) (by kernel_rfl) ?_
  have hsz := sl_length s
  have hdb := sl_byte s
  have hemp : (s.toList == (ByteArray.mk #[]).toList) = decide ((sl s).length = 0) := by
    rw [beq_sl]
    have : sl (ByteArray.mk #[]) = [] := rfl
    rw [this]
    by_cases h : sl s = []
    · rw [h]; rfl
    · rw [decide_eq_false h, decide_eq_false (fun h2 => h (List.length_eq_zero_iff.1 h2))]
  rw [hemp]
  clear hemp
  rw [← hsz]
  clear hsz
  generalize sl s = l at *
  have hn10 : N (L (Int.toNat 10)) = 10 := by decide
  refine bif_dec (fun h0 => ?_) (fun h0 => ?_)
  · rw [parseR_bad0 h0]
    simp only [L_zero]
    repeat' first | exact trivial | refine And.intro ?_ ?_ | with_reducible refine bif_dt (by assumption) ?_ | with_reducible refine bif_df (by assumption) ?_ | with_reducible refine bif_dec (fun _ => ?_) (fun _ => ?_) | with_reducible refine bif_not ?_ | with_reducible refine bif_and ?_ | with_reducible refine bif_or ?_ | with_reducible refine bif_t (by assumption) ?_ | with_reducible refine bif_f (by assumption) ?_ | with_reducible refine bif_t (beq_self_eq_true _) ?_ | with_reducible refine bif_b (fun _ => ?_) (fun _ => ?_) | with_reducible refine ⟨_, Eq.refl (List.map _ _), ?_⟩ | (with_reducible refine Exists.intro (by omega) ?_) | rfl | (intro h0; omega) | omega
  refine bif_dec (fun h80 => ?_) (fun h80 => ?_)
  · rw [parseR_bad80 (by omega)]
    simp only [L_zero]
    repeat' first | exact trivial | refine And.intro ?_ ?_ | with_reducible refine bif_dt (by assumption) ?_ | with_reducible refine bif_df (by assumption) ?_ | with_reducible refine bif_dec (fun _ => ?_) (fun _ => ?_) | with_reducible refine bif_not ?_ | with_reducible refine bif_and ?_ | with_reducible refine bif_or ?_ | with_reducible refine bif_t (by assumption) ?_ | with_reducible refine bif_f (by assumption) ?_ | with_reducible refine bif_t (beq_self_eq_true _) ?_ | with_reducible refine bif_b (fun _ => ?_) (fun _ => ?_) | with_reducible refine ⟨_, Eq.refl (List.map _ _), ?_⟩ | (with_reducible refine Exists.intro (by omega) ?_) | rfl | (intro h0; omega) | omega
  refine bif_dec (fun h1 => ?_) (fun h1 => ?_)
  · refine ⟨by omega, by omega, ?_⟩
    have hz48 : (l.getD (Int.toNat 0) 0 == 48) = decide (l.getD 0 0 = 48) := by
      show (l.getD 0 0 == 48) = _
      by_cases h : l.getD 0 0 = 48
      · rw [h]; rfl
      · rw [decide_eq_false h, beq_eq_false_iff_ne]; exact h
    rw [hz48]
    refine bif_dec (fun hz0 => ?_) (fun hz0 => ?_)
    · rw [parseR_badz (by omega) hz0]
      simp only [L_zero]
      repeat' first | exact trivial | refine And.intro ?_ ?_ | with_reducible refine bif_dt (by assumption) ?_ | with_reducible refine bif_df (by assumption) ?_ | with_reducible refine bif_dec (fun _ => ?_) (fun _ => ?_) | with_reducible refine bif_not ?_ | with_reducible refine bif_and ?_ | with_reducible refine bif_or ?_ | with_reducible refine bif_t (by assumption) ?_ | with_reducible refine bif_f (by assumption) ?_ | with_reducible refine bif_t (beq_self_eq_true _) ?_ | with_reducible refine bif_b (fun _ => ?_) (fun _ => ?_) | with_reducible refine ⟨_, Eq.refl (List.map _ _), ?_⟩ | (with_reducible refine Exists.intro (by omega) ?_) | rfl | (intro h0; omega) | omega
    have hz : ¬ (1 < l.length ∧ l.getD 0 0 = 48) := fun h => hz0 h.2
    intro cap hcap
    refine ⟨⟨0, cap, by omega, fun k hk => absurd hk (Nat.not_lt_zero k)⟩, ?_, ?_⟩
    ·
      repeat' first | exact encB_pure _ | exact trivial | refine And.intro ?_ ?_ | with_reducible refine bif_dt (by assumption) ?_ | with_reducible refine bif_df (by assumption) ?_ | with_reducible refine bif_dec (fun _ => ?_) (fun _ => ?_) | with_reducible refine bif_not ?_ | with_reducible refine bif_and ?_ | with_reducible refine bif_or ?_ | with_reducible refine bif_t (by assumption) ?_ | with_reducible refine bif_f (by assumption) ?_ | with_reducible refine bif_t (beq_self_eq_true _) ?_ | with_reducible refine bif_b (fun _ => ?_) (fun _ => ?_) | with_reducible refine ⟨_, Eq.refl (List.map _ _), ?_⟩ | (with_reducible refine Exists.intro (by omega) ?_) | rfl | (intro h0; omega) | omega
    rintro ⟨i, cp, hi, hd⟩ hcp
    simp only at hcp
    subst hcp
    dsimp only
    refine bif_dec (fun hlt => ?_) (fun hlt => ?_)
    · have hi' : i < l.length := by omega
      simp only [Int.toNat_natCast, Nat.zero_add, inext (show i < 1000000 by omega)]
      refine ⟨by omega, by omega, hi', ?_⟩
      refine bif_dec (fun hc => ?_) (fun hc => ?_)
      · rw [parseR_badd hi' (isD_not (by rw [getD_at hi']; omega))]
        simp only [L_zero]
        repeat' first | exact trivial | refine And.intro ?_ ?_ | with_reducible refine bif_dt (by assumption) ?_ | with_reducible refine bif_df (by assumption) ?_ | with_reducible refine bif_dec (fun _ => ?_) (fun _ => ?_) | with_reducible refine bif_not ?_ | with_reducible refine bif_and ?_ | with_reducible refine bif_or ?_ | with_reducible refine bif_t (by assumption) ?_ | with_reducible refine bif_f (by assumption) ?_ | with_reducible refine bif_t (beq_self_eq_true _) ?_ | with_reducible refine bif_b (fun _ => ?_) (fun _ => ?_) | with_reducible refine ⟨_, Eq.refl (List.map _ _), ?_⟩ | (with_reducible refine Exists.intro (by omega) ?_) | rfl | (intro h0; omega) | omega
      refine bif_dec (fun hc2 => ?_) (fun hc2 => ?_)
      · rw [parseR_badd hi' (isD_not (by rw [getD_at hi']; omega))]
        simp only [L_zero]
        repeat' first | exact trivial | refine And.intro ?_ ?_ | with_reducible refine bif_dt (by assumption) ?_ | with_reducible refine bif_df (by assumption) ?_ | with_reducible refine bif_dec (fun _ => ?_) (fun _ => ?_) | with_reducible refine bif_not ?_ | with_reducible refine bif_and ?_ | with_reducible refine bif_or ?_ | with_reducible refine bif_t (by assumption) ?_ | with_reducible refine bif_f (by assumption) ?_ | with_reducible refine bif_t (beq_self_eq_true _) ?_ | with_reducible refine bif_b (fun _ => ?_) (fun _ => ?_) | with_reducible refine ⟨_, Eq.refl (List.map _ _), ?_⟩ | (with_reducible refine Exists.intro (by omega) ?_) | rfl | (intro h0; omega) | omega
      · refine ⟨⟨i + 1, cp, by omega, fun k hk => ?_⟩, ⟨show l.length - (i + 1) < l.length - i by omega, rfl⟩, ?_⟩
        · by_cases hk' : k < i
          · exact hd k hk'
          · have : k = i := by omega
            subst this
            rw [getD_at hi', isD_iff]
            omega
        ·
          repeat' first | exact encB_pure _ | exact trivial | refine And.intro ?_ ?_ | with_reducible refine bif_dt (by assumption) ?_ | with_reducible refine bif_df (by assumption) ?_ | with_reducible refine bif_dec (fun _ => ?_) (fun _ => ?_) | with_reducible refine bif_not ?_ | with_reducible refine bif_and ?_ | with_reducible refine bif_or ?_ | with_reducible refine bif_t (by assumption) ?_ | with_reducible refine bif_f (by assumption) ?_ | with_reducible refine bif_t (beq_self_eq_true _) ?_ | with_reducible refine bif_b (fun _ => ?_) (fun _ => ?_) | with_reducible refine ⟨_, Eq.refl (List.map _ _), ?_⟩ | (with_reducible refine Exists.intro (by omega) ?_) | rfl | (intro h0; omega) | omega
    · have hall : ∀ k, k < l.length → isD (l.getD k 0) = true := fun k hk => hd k (by omega)
      rw [parseR_ok h0 (by omega) hz hall]
      intro cap2 hcap2
      refine ⟨⟨0, 0, cap2, by omega, by decide, rfl⟩, ?_, ?_⟩
      · simp only [L_zero]
        repeat' first | exact encB_pure _ | exact trivial | refine And.intro ?_ ?_ | with_reducible refine bif_dt (by assumption) ?_ | with_reducible refine bif_df (by assumption) ?_ | with_reducible refine bif_dec (fun _ => ?_) (fun _ => ?_) | with_reducible refine bif_not ?_ | with_reducible refine bif_and ?_ | with_reducible refine bif_or ?_ | with_reducible refine bif_t (by assumption) ?_ | with_reducible refine bif_f (by assumption) ?_ | with_reducible refine bif_t (beq_self_eq_true _) ?_ | with_reducible refine bif_b (fun _ => ?_) (fun _ => ?_) | with_reducible refine ⟨_, Eq.refl (List.map _ _), ?_⟩ | (with_reducible refine Exists.intro (by omega) ?_) | rfl | (intro h0; omega) | omega
      rintro ⟨j, v, c3, hj, hv, hp⟩ -
      dsimp only
      rw [hp]
      refine bif_dec (fun hjl => ?_) (fun hjl => ?_)
      · have hj' : j < l.length := by omega
        have hdig := isD_iff.1 (hall j hj')
        rw [getD_at hj'] at hdig
        have hat := parseF_at (v := v) hj'
        obtain ⟨d, hd1, hd2⟩ : ∃ d : Nat, l[j] = ((d + 48 : Nat) : Int) ∧ d < 10 := ⟨(l[j] - 48).toNat, by omega, by omega⟩
        have hw : IntKind.u64.wrap (IntKind.u8.wrap (((d + 48 : Nat) : Int) - 48)) = (d : Int) := by
          rw [show ((d + 48 : Nat) : Int) - 48 = (d : Int) by omega, wrap8n, wrapn (by omega)]
          omega
        have hdt : (((d + 48 : Nat) : Int) - 48).toNat = d := by omega
        have hdT : d < T256 := by simp only [T256]; omega
        rw [hd1, hdt] at hat
        simp only [Int.toNat_natCast, Nat.zero_add, hd1, hw, hn10, N_L hv, inext (show j < 1000000 by omega)]
        refine ⟨by omega, by omega, hj', ⟨by decide, by decide⟩, ⟨⟨trivial, (L4_L _).2⟩, ⟨trivial, (L4_L _).2⟩⟩, ?_⟩
        by_cases hm : v * 10 < T256
        · simp only [mulR_lt hm, e00, b00, N_L hm, N_L hdT]
          refine ⟨⟨by omega, by omega⟩, ⟨⟨trivial, (L4_L _).2⟩, ⟨trivial, (L4_L _).2⟩⟩, ?_⟩
          by_cases hs : v * 10 + d < T256
          · rw [decide_eq_true hs, cond_true] at hat
            simp only [addR_lt hs, b00]
            refine ⟨⟨j + 1, v * 10 + d, c3, by omega, hs, by rw [hp, hat]⟩, ⟨show l.length - (j + 1) < l.length - j by omega, trivial⟩, ?_⟩
            repeat' first | exact encB_pure _ | exact trivial | refine And.intro ?_ ?_ | with_reducible refine bif_dt (by assumption) ?_ | with_reducible refine bif_df (by assumption) ?_ | with_reducible refine bif_dec (fun _ => ?_) (fun _ => ?_) | with_reducible refine bif_not ?_ | with_reducible refine bif_and ?_ | with_reducible refine bif_or ?_ | with_reducible refine bif_t (by assumption) ?_ | with_reducible refine bif_f (by assumption) ?_ | with_reducible refine bif_t (beq_self_eq_true _) ?_ | with_reducible refine bif_b (fun _ => ?_) (fun _ => ?_) | with_reducible refine ⟨_, Eq.refl (List.map _ _), ?_⟩ | (with_reducible refine Exists.intro (by omega) ?_) | rfl | (intro h0; omega) | omega
          · rw [decide_eq_false hs, cond_false] at hat
            simp only [addR_ge hs, b30, hat, L_zero]
            repeat' first | exact trivial | refine And.intro ?_ ?_ | with_reducible refine bif_dt (by assumption) ?_ | with_reducible refine bif_df (by assumption) ?_ | with_reducible refine bif_dec (fun _ => ?_) (fun _ => ?_) | with_reducible refine bif_not ?_ | with_reducible refine bif_and ?_ | with_reducible refine bif_or ?_ | with_reducible refine bif_t (by assumption) ?_ | with_reducible refine bif_f (by assumption) ?_ | with_reducible refine bif_t (beq_self_eq_true _) ?_ | with_reducible refine bif_b (fun _ => ?_) (fun _ => ?_) | with_reducible refine ⟨_, Eq.refl (List.map _ _), ?_⟩ | (with_reducible refine Exists.intro (by omega) ?_) | rfl | (intro h0; omega) | omega
        · have hs : ¬ v * 10 + d < T256 := by omega
          rw [decide_eq_false hs, cond_false] at hat
          simp only [mulR_ge hm, e30, b30, hat, L_zero]
          repeat' first | exact trivial | refine And.intro ?_ ?_ | with_reducible refine bif_dt (by assumption) ?_ | with_reducible refine bif_df (by assumption) ?_ | with_reducible refine bif_dec (fun _ => ?_) (fun _ => ?_) | with_reducible refine bif_not ?_ | with_reducible refine bif_and ?_ | with_reducible refine bif_or ?_ | with_reducible refine bif_t (by assumption) ?_ | with_reducible refine bif_f (by assumption) ?_ | with_reducible refine bif_t (beq_self_eq_true _) ?_ | with_reducible refine bif_b (fun _ => ?_) (fun _ => ?_) | with_reducible refine ⟨_, Eq.refl (List.map _ _), ?_⟩ | (with_reducible refine Exists.intro (by omega) ?_) | rfl | (intro h0; omega) | omega
      · rw [parseF_end (by omega)]
        repeat' first | exact trivial | refine And.intro ?_ ?_ | with_reducible refine bif_dt (by assumption) ?_ | with_reducible refine bif_df (by assumption) ?_ | with_reducible refine bif_dec (fun _ => ?_) (fun _ => ?_) | with_reducible refine bif_not ?_ | with_reducible refine bif_and ?_ | with_reducible refine bif_or ?_ | with_reducible refine bif_t (by assumption) ?_ | with_reducible refine bif_f (by assumption) ?_ | with_reducible refine bif_t (beq_self_eq_true _) ?_ | with_reducible refine bif_b (fun _ => ?_) (fun _ => ?_) | with_reducible refine ⟨_, Eq.refl (List.map _ _), ?_⟩ | (with_reducible refine Exists.intro (by omega) ?_) | rfl | (intro h0; omega) | omega
  · have hz : ¬ (1 < l.length ∧ l.getD 0 0 = 48) := fun h => by omega
    intro cap hcap
    refine ⟨⟨0, cap, by omega, fun k hk => absurd hk (Nat.not_lt_zero k)⟩, ?_, ?_⟩
    ·
      repeat' first | exact encB_pure _ | exact trivial | refine And.intro ?_ ?_ | with_reducible refine bif_dt (by assumption) ?_ | with_reducible refine bif_df (by assumption) ?_ | with_reducible refine bif_dec (fun _ => ?_) (fun _ => ?_) | with_reducible refine bif_not ?_ | with_reducible refine bif_and ?_ | with_reducible refine bif_or ?_ | with_reducible refine bif_t (by assumption) ?_ | with_reducible refine bif_f (by assumption) ?_ | with_reducible refine bif_t (beq_self_eq_true _) ?_ | with_reducible refine bif_b (fun _ => ?_) (fun _ => ?_) | with_reducible refine ⟨_, Eq.refl (List.map _ _), ?_⟩ | (with_reducible refine Exists.intro (by omega) ?_) | rfl | (intro h0; omega) | omega
    rintro ⟨i, cp, hi, hd⟩ hcp
    simp only at hcp
    subst hcp
    dsimp only
    refine bif_dec (fun hlt => ?_) (fun hlt => ?_)
    · have hi' : i < l.length := by omega
      simp only [Int.toNat_natCast, Nat.zero_add, inext (show i < 1000000 by omega)]
      refine ⟨by omega, by omega, hi', ?_⟩
      refine bif_dec (fun hc => ?_) (fun hc => ?_)
      · rw [parseR_badd hi' (isD_not (by rw [getD_at hi']; omega))]
        simp only [L_zero]
        repeat' first | exact trivial | refine And.intro ?_ ?_ | with_reducible refine bif_dt (by assumption) ?_ | with_reducible refine bif_df (by assumption) ?_ | with_reducible refine bif_dec (fun _ => ?_) (fun _ => ?_) | with_reducible refine bif_not ?_ | with_reducible refine bif_and ?_ | with_reducible refine bif_or ?_ | with_reducible refine bif_t (by assumption) ?_ | with_reducible refine bif_f (by assumption) ?_ | with_reducible refine bif_t (beq_self_eq_true _) ?_ | with_reducible refine bif_b (fun _ => ?_) (fun _ => ?_) | with_reducible refine ⟨_, Eq.refl (List.map _ _), ?_⟩ | (with_reducible refine Exists.intro (by omega) ?_) | rfl | (intro h0; omega) | omega
      refine bif_dec (fun hc2 => ?_) (fun hc2 => ?_)
      · rw [parseR_badd hi' (isD_not (by rw [getD_at hi']; omega))]
        simp only [L_zero]
        repeat' first | exact trivial | refine And.intro ?_ ?_ | with_reducible refine bif_dt (by assumption) ?_ | with_reducible refine bif_df (by assumption) ?_ | with_reducible refine bif_dec (fun _ => ?_) (fun _ => ?_) | with_reducible refine bif_not ?_ | with_reducible refine bif_and ?_ | with_reducible refine bif_or ?_ | with_reducible refine bif_t (by assumption) ?_ | with_reducible refine bif_f (by assumption) ?_ | with_reducible refine bif_t (beq_self_eq_true _) ?_ | with_reducible refine bif_b (fun _ => ?_) (fun _ => ?_) | with_reducible refine ⟨_, Eq.refl (List.map _ _), ?_⟩ | (with_reducible refine Exists.intro (by omega) ?_) | rfl | (intro h0; omega) | omega
      · refine ⟨⟨i + 1, cp, by omega, fun k hk => ?_⟩, ⟨show l.length - (i + 1) < l.length - i by omega, rfl⟩, ?_⟩
        · by_cases hk' : k < i
          · exact hd k hk'
          · have : k = i := by omega
            subst this
            rw [getD_at hi', isD_iff]
            omega
        ·
          repeat' first | exact encB_pure _ | exact trivial | refine And.intro ?_ ?_ | with_reducible refine bif_dt (by assumption) ?_ | with_reducible refine bif_df (by assumption) ?_ | with_reducible refine bif_dec (fun _ => ?_) (fun _ => ?_) | with_reducible refine bif_not ?_ | with_reducible refine bif_and ?_ | with_reducible refine bif_or ?_ | with_reducible refine bif_t (by assumption) ?_ | with_reducible refine bif_f (by assumption) ?_ | with_reducible refine bif_t (beq_self_eq_true _) ?_ | with_reducible refine bif_b (fun _ => ?_) (fun _ => ?_) | with_reducible refine ⟨_, Eq.refl (List.map _ _), ?_⟩ | (with_reducible refine Exists.intro (by omega) ?_) | rfl | (intro h0; omega) | omega
    · have hall : ∀ k, k < l.length → isD (l.getD k 0) = true := fun k hk => hd k (by omega)
      rw [parseR_ok h0 (by omega) hz hall]
      intro cap2 hcap2
      refine ⟨⟨0, 0, cap2, by omega, by decide, rfl⟩, ?_, ?_⟩
      · simp only [L_zero]
        repeat' first | exact encB_pure _ | exact trivial | refine And.intro ?_ ?_ | with_reducible refine bif_dt (by assumption) ?_ | with_reducible refine bif_df (by assumption) ?_ | with_reducible refine bif_dec (fun _ => ?_) (fun _ => ?_) | with_reducible refine bif_not ?_ | with_reducible refine bif_and ?_ | with_reducible refine bif_or ?_ | with_reducible refine bif_t (by assumption) ?_ | with_reducible refine bif_f (by assumption) ?_ | with_reducible refine bif_t (beq_self_eq_true _) ?_ | with_reducible refine bif_b (fun _ => ?_) (fun _ => ?_) | with_reducible refine ⟨_, Eq.refl (List.map _ _), ?_⟩ | (with_reducible refine Exists.intro (by omega) ?_) | rfl | (intro h0; omega) | omega
      rintro ⟨j, v, c3, hj, hv, hp⟩ -
      dsimp only
      rw [hp]
      refine bif_dec (fun hjl => ?_) (fun hjl => ?_)
      · have hj' : j < l.length := by omega
        have hdig := isD_iff.1 (hall j hj')
        rw [getD_at hj'] at hdig
        have hat := parseF_at (v := v) hj'
        obtain ⟨d, hd1, hd2⟩ : ∃ d : Nat, l[j] = ((d + 48 : Nat) : Int) ∧ d < 10 := ⟨(l[j] - 48).toNat, by omega, by omega⟩
        have hw : IntKind.u64.wrap (IntKind.u8.wrap (((d + 48 : Nat) : Int) - 48)) = (d : Int) := by
          rw [show ((d + 48 : Nat) : Int) - 48 = (d : Int) by omega, wrap8n, wrapn (by omega)]
          omega
        have hdt : (((d + 48 : Nat) : Int) - 48).toNat = d := by omega
        have hdT : d < T256 := by simp only [T256]; omega
        rw [hd1, hdt] at hat
        simp only [Int.toNat_natCast, Nat.zero_add, hd1, hw, hn10, N_L hv, inext (show j < 1000000 by omega)]
        refine ⟨by omega, by omega, hj', ⟨by decide, by decide⟩, ⟨⟨trivial, (L4_L _).2⟩, ⟨trivial, (L4_L _).2⟩⟩, ?_⟩
        by_cases hm : v * 10 < T256
        · simp only [mulR_lt hm, e00, b00, N_L hm, N_L hdT]
          refine ⟨⟨by omega, by omega⟩, ⟨⟨trivial, (L4_L _).2⟩, ⟨trivial, (L4_L _).2⟩⟩, ?_⟩
          by_cases hs : v * 10 + d < T256
          · rw [decide_eq_true hs, cond_true] at hat
            simp only [addR_lt hs, b00]
            refine ⟨⟨j + 1, v * 10 + d, c3, by omega, hs, by rw [hp, hat]⟩, ⟨show l.length - (j + 1) < l.length - j by omega, trivial⟩, ?_⟩
            repeat' first | exact encB_pure _ | exact trivial | refine And.intro ?_ ?_ | with_reducible refine bif_dt (by assumption) ?_ | with_reducible refine bif_df (by assumption) ?_ | with_reducible refine bif_dec (fun _ => ?_) (fun _ => ?_) | with_reducible refine bif_not ?_ | with_reducible refine bif_and ?_ | with_reducible refine bif_or ?_ | with_reducible refine bif_t (by assumption) ?_ | with_reducible refine bif_f (by assumption) ?_ | with_reducible refine bif_t (beq_self_eq_true _) ?_ | with_reducible refine bif_b (fun _ => ?_) (fun _ => ?_) | with_reducible refine ⟨_, Eq.refl (List.map _ _), ?_⟩ | (with_reducible refine Exists.intro (by omega) ?_) | rfl | (intro h0; omega) | omega
          · rw [decide_eq_false hs, cond_false] at hat
            simp only [addR_ge hs, b30, hat, L_zero]
            repeat' first | exact trivial | refine And.intro ?_ ?_ | with_reducible refine bif_dt (by assumption) ?_ | with_reducible refine bif_df (by assumption) ?_ | with_reducible refine bif_dec (fun _ => ?_) (fun _ => ?_) | with_reducible refine bif_not ?_ | with_reducible refine bif_and ?_ | with_reducible refine bif_or ?_ | with_reducible refine bif_t (by assumption) ?_ | with_reducible refine bif_f (by assumption) ?_ | with_reducible refine bif_t (beq_self_eq_true _) ?_ | with_reducible refine bif_b (fun _ => ?_) (fun _ => ?_) | with_reducible refine ⟨_, Eq.refl (List.map _ _), ?_⟩ | (with_reducible refine Exists.intro (by omega) ?_) | rfl | (intro h0; omega) | omega
        · have hs : ¬ v * 10 + d < T256 := by omega
          rw [decide_eq_false hs, cond_false] at hat
          simp only [mulR_ge hm, e30, b30, hat, L_zero]
          repeat' first | exact trivial | refine And.intro ?_ ?_ | with_reducible refine bif_dt (by assumption) ?_ | with_reducible refine bif_df (by assumption) ?_ | with_reducible refine bif_dec (fun _ => ?_) (fun _ => ?_) | with_reducible refine bif_not ?_ | with_reducible refine bif_and ?_ | with_reducible refine bif_or ?_ | with_reducible refine bif_t (by assumption) ?_ | with_reducible refine bif_f (by assumption) ?_ | with_reducible refine bif_t (beq_self_eq_true _) ?_ | with_reducible refine bif_b (fun _ => ?_) (fun _ => ?_) | with_reducible refine ⟨_, Eq.refl (List.map _ _), ?_⟩ | (with_reducible refine Exists.intro (by omega) ?_) | rfl | (intro h0; omega) | omega
      · rw [parseF_end (by omega)]
        repeat' first | exact trivial | refine And.intro ?_ ?_ | with_reducible refine bif_dt (by assumption) ?_ | with_reducible refine bif_df (by assumption) ?_ | with_reducible refine bif_dec (fun _ => ?_) (fun _ => ?_) | with_reducible refine bif_not ?_ | with_reducible refine bif_and ?_ | with_reducible refine bif_or ?_ | with_reducible refine bif_t (by assumption) ?_ | with_reducible refine bif_f (by assumption) ?_ | with_reducible refine bif_t (beq_self_eq_true _) ?_ | with_reducible refine bif_b (fun _ => ?_) (fun _ => ?_) | with_reducible refine ⟨_, Eq.refl (List.map _ _), ?_⟩ | (with_reducible refine Exists.intro (by omega) ?_) | rfl | (intro h0; omega) | omega
def parseT : List M → (M → Prop) → Prop
  | [.one (.v (.string s))], K => K (.tup [w4 (L (parseR (sl s)).1), int (parseR (sl s)).2])
  | _, _ => False
theorem parse_ok : POK Try.prog 33 parseT := by
  intro ms K h
  unfold parseT at h ⊢
  split at h
  · exact ⟨_, h, (parse_spec _), rfl, fun _ hk => hk⟩
  · exact h.elim


theorem rparse_spec (s : ByteArray) : SFun Try.prog 34 [str s] (.tup [w4 (L (parseR (sl s)).1), int (parseR (sl s)).2]) := by
  refine SFun.inl [(15, rmulT), (24, raddT)] (SOK.cons rmul_ok (SOK.cons radd_ok SOK.nil)) tok mixed [] IOK.nil true [(4, ⟨IdT (sl s), fun p => ⟨1, [(0, str s), (2, .one (.ptr 0 0)), (3, int 0), (4, int p.i)], [(0, .cells [.ints .u64 4 [0, 0, 0, 0]])]⟩, fun p => (sl s).length - p.i, fun _ _ => True⟩), (10, ⟨PsT (sl s), fun p => ⟨2, [(0, str s), (2, .one (.ptr 0 0)), (3, int 0), (5, .one (.ptr 1 0)), (6, int p.i)], [(0, .cells [.ints .u64 4 [0, 0, 0, 0]]), (1, .cells [.ints .u64 4 (L p.v)])]⟩, fun p => (sl s).length - p.i, fun _ _ => True⟩)] [] Try.call34 Try.func34 rfl (by rfl) ?_
  refine Eq.mp (α := (@Bool.rec (fun _ => Prop) (@Bool.rec (fun _ => Prop) (@Bool.rec (fun _ => Prop) (∃ i0 : IdT (sl s), (And (And True (And (And (s = s) (And (And ((true : Bool) = true) ((0 : Nat) = (0 : Nat))) (And ((0 : Int) = (0 : Int)) (And ((↑(IdT.i i0) : Int) = (0 : Int)) True)))) (And (And (And ([(0 : Int), (0 : Int), (0 : Int), (0 : Int)] = List.replicate (4 : Nat) (0 : Int)) True) (And ((true : Bool) = true) True)) ((true : Bool) = true)))) (∀ i : IdT (sl s), (∀ a : True, (@Bool.rec (fun _ => Prop) (∃ i0_1 : PsT (sl s), (And (And True (And (And (s = s) (And (And ((true : Bool) = true) ((0 : Nat) = (0 : Nat))) (And ((0 : Int) = (0 : Int)) (And (And ((true : Bool) = true) ((0 : Nat) = (0 : Nat))) (And ((↑(PsT.i i0_1) : Int) = (0 : Int)) True))))) (And (And (And ([(0 : Int), (0 : Int), (0 : Int), (0 : Int)] = [(0 : Int), (0 : Int), (0 : Int), (0 : Int)]) True) (And ((true : Bool) = true) (And (And (L (PsT.v i0_1) = List.replicate (4 : Nat) (0 : Int)) True) (And ((true : Bool) = true) True)))) ((true : Bool) = true)))) (∀ i_1 : PsT (sl s), (∀ a_1 : True, (@Bool.rec (fun _ => Prop) (And (M.tup [M.agg [SV.ints IntKind.u64 (4 : Nat) (L (PsT.v i_1))], M.one (SV.v (Value.int IntKind.i64 (0 : Int)))] = M.tup [M.agg [SV.ints IntKind.u64 (4 : Nat) (L (Prod.fst (parseR (sl s))))], M.one (SV.v (Value.int IntKind.i64 (Prod.snd (parseR (sl s)))))]) ((true : Bool) = true)) (And (And (And ((4 : Nat) = (4 : Nat)) (∀ x : Int, (∀ a_2 : x ∈ L (PsT.v i_1), (And ((0 : Int) ≤ x) (x < (↑N64 : Int)))))) (And ((4 : Nat) = (4 : Nat)) (∀ x : Int, (∀ a_2 : x ∈ List.set (List.replicate (4 : Nat) (0 : Int)) ((0 : Nat) * (1 : Nat)) (10 : Int), (And ((0 : Int) ≤ x) (x < (↑N64 : Int))))))) (And ((0 : Int) ≤ (↑(PsT.i i_1) : Int)) (And (Int.toNat (↑(PsT.i i_1) : Int) < ByteArray.size s) (And (And (And ((4 : Nat) = (4 : Nat)) (∀ x : Int, (∀ a_2 : x ∈ L (Prod.fst (mulR (N (L (PsT.v i_1))) (N (List.set (List.replicate (4 : Nat) (0 : Int)) ((0 : Nat) * (1 : Nat)) (10 : Int))))), (And ((0 : Int) ≤ x) (x < (↑N64 : Int)))))) (And ((4 : Nat) = (4 : Nat)) (∀ x : Int, (∀ a_2 : x ∈ List.set (List.replicate (4 : Nat) (0 : Int)) ((0 : Nat) * (1 : Nat)) (IntKind.wrap IntKind.u64 (IntKind.wrap IntKind.u8 (List.getD (sl s) (Int.toNat (↑(PsT.i i_1) : Int)) (0 : Int) - (48 : Int)))), (And ((0 : Int) ≤ x) (x < (↑N64 : Int))))))) (@Bool.rec (fun _ => Prop) (∃ i' : PsT (sl s), (And (And (List.length (sl s) - PsT.i i' < List.length (sl s) - PsT.i i_1) True) (And (And (s = s) (And (And ((true : Bool) = true) ((0 : Nat) = (0 : Nat))) (And ((0 : Int) = (0 : Int)) (And (And ((true : Bool) = true) ((0 : Nat) = (0 : Nat))) (And ((↑(PsT.i i') : Int) = IntKind.wrap IntKind.i64 ((↑(PsT.i i_1) : Int) + (1 : Int))) True))))) (And (And (And ([(0 : Int), (0 : Int), (0 : Int), (0 : Int)] = [(0 : Int), (0 : Int), (0 : Int), (0 : Int)]) True) (And ((true : Bool) = true) (And (And (L (PsT.v i') = L (Prod.fst (addR (N (L (Prod.fst (mulR (N (L (PsT.v i_1))) (N (List.set (List.replicate (4 : Nat) (0 : Int)) ((0 : Nat) * (1 : Nat)) (10 : Int))))))) (N (List.set (List.replicate (4 : Nat) (0 : Int)) ((0 : Nat) * (1 : Nat)) (IntKind.wrap IntKind.u64 (IntKind.wrap IntKind.u8 (List.getD (sl s) (Int.toNat (↑(PsT.i i_1) : Int)) (0 : Int) - (48 : Int))))))))) True) (And ((true : Bool) = true) True)))) ((true : Bool) = true))))) (And (M.tup [M.agg [SV.ints IntKind.u64 (4 : Nat) (List.replicate (4 : Nat) (0 : Int))], M.one (SV.v (Value.int IntKind.i64 (30 : Int)))] = M.tup [M.agg [SV.ints IntKind.u64 (4 : Nat) (L (Prod.fst (parseR (sl s))))], M.one (SV.v (Value.int IntKind.i64 (Prod.snd (parseR (sl s)))))]) ((true : Bool) = true)) (IntKind.wrap IntKind.i64 (Prod.snd (mulR (N (L (PsT.v i_1))) (N (List.set (List.replicate (4 : Nat) (0 : Int)) ((0 : Nat) * (1 : Nat)) (10 : Int)))) + Prod.snd (addR (N (L (Prod.fst (mulR (N (L (PsT.v i_1))) (N (List.set (List.replicate (4 : Nat) (0 : Int)) ((0 : Nat) * (1 : Nat)) (10 : Int))))))) (N (List.set (List.replicate (4 : Nat) (0 : Int)) ((0 : Nat) * (1 : Nat)) (IntKind.wrap IntKind.u64 (IntKind.wrap IntKind.u8 (List.getD (sl s) (Int.toNat (↑(PsT.i i_1) : Int)) (0 : Int) - (48 : Int)))))))) != (0 : Int))))))) (decide ((↑(PsT.i i_1) : Int) < (↑(ByteArray.size s) : Int)))))))) (And ((0 : Int) ≤ (↑(IdT.i i) : Int)) (And (Int.toNat (↑(IdT.i i) : Int) < ByteArray.size s) (@Bool.rec (fun _ => Prop) (And ((0 : Int) ≤ (↑(IdT.i i) : Int)) (And (Int.toNat (↑(IdT.i i) : Int) < ByteArray.size s) (@Bool.rec (fun _ => Prop) (∃ i' : IdT (sl s), (And (And (List.length (sl s) - IdT.i i' < List.length (sl s) - IdT.i i) True) (And (And (s = s) (And (And ((true : Bool) = true) ((0 : Nat) = (0 : Nat))) (And ((0 : Int) = (0 : Int)) (And ((↑(IdT.i i') : Int) = IntKind.wrap IntKind.i64 ((↑(IdT.i i) : Int) + (1 : Int))) True)))) (And (And (And ([(0 : Int), (0 : Int), (0 : Int), (0 : Int)] = [(0 : Int), (0 : Int), (0 : Int), (0 : Int)]) True) (And ((true : Bool) = true) True)) ((true : Bool) = true))))) (And (M.tup [M.agg [SV.ints IntKind.u64 (4 : Nat) (List.replicate (4 : Nat) (0 : Int))], M.one (SV.v (Value.int IntKind.i64 (21 : Int)))] = M.tup [M.agg [SV.ints IntKind.u64 (4 : Nat) (L (Prod.fst (parseR (sl s))))], M.one (SV.v (Value.int IntKind.i64 (Prod.snd (parseR (sl s)))))]) ((true : Bool) = true)) (decide ((57 : Int) < List.getD (sl s) (Int.toNat (↑(IdT.i i) : Int)) (0 : Int)))))) (And (M.tup [M.agg [SV.ints IntKind.u64 (4 : Nat) (List.replicate (4 : Nat) (0 : Int))], M.one (SV.v (Value.int IntKind.i64 (21 : Int)))] = M.tup [M.agg [SV.ints IntKind.u64 (4 : Nat) (L (Prod.fst (parseR (sl s))))], M.one (SV.v (Value.int IntKind.i64 (Prod.snd (parseR (sl s)))))]) ((true : Bool) = true)) (decide (List.getD (sl s) (Int.toNat (↑(IdT.i i) : Int)) (0 : Int) < (48 : Int)))))) (decide ((↑(IdT.i i) : Int) < (↑(ByteArray.size s) : Int)))))))) (And ((0 : Int) ≤ (0 : Int)) (And (Int.toNat (0 : Int) < ByteArray.size s) (@Bool.rec (fun _ => Prop) (∃ i0 : IdT (sl s), (And (And True (And (And (s = s) (And (And ((true : Bool) = true) ((0 : Nat) = (0 : Nat))) (And ((0 : Int) = (0 : Int)) (And ((↑(IdT.i i0) : Int) = (0 : Int)) True)))) (And (And (And ([(0 : Int), (0 : Int), (0 : Int), (0 : Int)] = List.replicate (4 : Nat) (0 : Int)) True) (And ((true : Bool) = true) True)) ((true : Bool) = true)))) (∀ i : IdT (sl s), (∀ a : True, (@Bool.rec (fun _ => Prop) (∃ i0_1 : PsT (sl s), (And (And True (And (And (s = s) (And (And ((true : Bool) = true) ((0 : Nat) = (0 : Nat))) (And ((0 : Int) = (0 : Int)) (And (And ((true : Bool) = true) ((0 : Nat) = (0 : Nat))) (And ((↑(PsT.i i0_1) : Int) = (0 : Int)) True))))) (And (And (And ([(0 : Int), (0 : Int), (0 : Int), (0 : Int)] = [(0 : Int), (0 : Int), (0 : Int), (0 : Int)]) True) (And ((true : Bool) = true) (And (And (L (PsT.v i0_1) = List.replicate (4 : Nat) (0 : Int)) True) (And ((true : Bool) = true) True)))) ((true : Bool) = true)))) (∀ i_1 : PsT (sl s), (∀ a_1 : True, (@Bool.rec (fun _ => Prop) (And (M.tup [M.agg [SV.ints IntKind.u64 (4 : Nat) (L (PsT.v i_1))], M.one (SV.v (Value.int IntKind.i64 (0 : Int)))] = M.tup [M.agg [SV.ints IntKind.u64 (4 : Nat) (L (Prod.fst (parseR (sl s))))], M.one (SV.v (Value.int IntKind.i64 (Prod.snd (parseR (sl s)))))]) ((true : Bool) = true)) (And (And (And ((4 : Nat) = (4 : Nat)) (∀ x : Int, (∀ a_2 : x ∈ L (PsT.v i_1), (And ((0 : Int) ≤ x) (x < (↑N64 : Int)))))) (And ((4 : Nat) = (4 : Nat)) (∀ x : Int, (∀ a_2 : x ∈ List.set (List.replicate (4 : Nat) (0 : Int)) ((0 : Nat) * (1 : Nat)) (10 : Int), (And ((0 : Int) ≤ x) (x < (↑N64 : Int))))))) (And ((0 : Int) ≤ (↑(PsT.i i_1) : Int)) (And (Int.toNat (↑(PsT.i i_1) : Int) < ByteArray.size s) (And (And (And ((4 : Nat) = (4 : Nat)) (∀ x : Int, (∀ a_2 : x ∈ L (Prod.fst (mulR (N (L (PsT.v i_1))) (N (List.set (List.replicate (4 : Nat) (0 : Int)) ((0 : Nat) * (1 : Nat)) (10 : Int))))), (And ((0 : Int) ≤ x) (x < (↑N64 : Int)))))) (And ((4 : Nat) = (4 : Nat)) (∀ x : Int, (∀ a_2 : x ∈ List.set (List.replicate (4 : Nat) (0 : Int)) ((0 : Nat) * (1 : Nat)) (IntKind.wrap IntKind.u64 (IntKind.wrap IntKind.u8 (List.getD (sl s) (Int.toNat (↑(PsT.i i_1) : Int)) (0 : Int) - (48 : Int)))), (And ((0 : Int) ≤ x) (x < (↑N64 : Int))))))) (@Bool.rec (fun _ => Prop) (∃ i' : PsT (sl s), (And (And (List.length (sl s) - PsT.i i' < List.length (sl s) - PsT.i i_1) True) (And (And (s = s) (And (And ((true : Bool) = true) ((0 : Nat) = (0 : Nat))) (And ((0 : Int) = (0 : Int)) (And (And ((true : Bool) = true) ((0 : Nat) = (0 : Nat))) (And ((↑(PsT.i i') : Int) = IntKind.wrap IntKind.i64 ((↑(PsT.i i_1) : Int) + (1 : Int))) True))))) (And (And (And ([(0 : Int), (0 : Int), (0 : Int), (0 : Int)] = [(0 : Int), (0 : Int), (0 : Int), (0 : Int)]) True) (And ((true : Bool) = true) (And (And (L (PsT.v i') = L (Prod.fst (addR (N (L (Prod.fst (mulR (N (L (PsT.v i_1))) (N (List.set (List.replicate (4 : Nat) (0 : Int)) ((0 : Nat) * (1 : Nat)) (10 : Int))))))) (N (List.set (List.replicate (4 : Nat) (0 : Int)) ((0 : Nat) * (1 : Nat)) (IntKind.wrap IntKind.u64 (IntKind.wrap IntKind.u8 (List.getD (sl s) (Int.toNat (↑(PsT.i i_1) : Int)) (0 : Int) - (48 : Int))))))))) True) (And ((true : Bool) = true) True)))) ((true : Bool) = true))))) (And (M.tup [M.agg [SV.ints IntKind.u64 (4 : Nat) (List.replicate (4 : Nat) (0 : Int))], M.one (SV.v (Value.int IntKind.i64 (30 : Int)))] = M.tup [M.agg [SV.ints IntKind.u64 (4 : Nat) (L (Prod.fst (parseR (sl s))))], M.one (SV.v (Value.int IntKind.i64 (Prod.snd (parseR (sl s)))))]) ((true : Bool) = true)) (IntKind.wrap IntKind.i64 (Prod.snd (mulR (N (L (PsT.v i_1))) (N (List.set (List.replicate (4 : Nat) (0 : Int)) ((0 : Nat) * (1 : Nat)) (10 : Int)))) + Prod.snd (addR (N (L (Prod.fst (mulR (N (L (PsT.v i_1))) (N (List.set (List.replicate (4 : Nat) (0 : Int)) ((0 : Nat) * (1 : Nat)) (10 : Int))))))) (N (List.set (List.replicate (4 : Nat) (0 : Int)) ((0 : Nat) * (1 : Nat)) (IntKind.wrap IntKind.u64 (IntKind.wrap IntKind.u8 (List.getD (sl s) (Int.toNat (↑(PsT.i i_1) : Int)) (0 : Int) - (48 : Int)))))))) != (0 : Int))))))) (decide ((↑(PsT.i i_1) : Int) < (↑(ByteArray.size s) : Int)))))))) (And ((0 : Int) ≤ (↑(IdT.i i) : Int)) (And (Int.toNat (↑(IdT.i i) : Int) < ByteArray.size s) (@Bool.rec (fun _ => Prop) (And ((0 : Int) ≤ (↑(IdT.i i) : Int)) (And (Int.toNat (↑(IdT.i i) : Int) < ByteArray.size s) (@Bool.rec (fun _ => Prop) (∃ i' : IdT (sl s), (And (And (List.length (sl s) - IdT.i i' < List.length (sl s) - IdT.i i) True) (And (And (s = s) (And (And ((true : Bool) = true) ((0 : Nat) = (0 : Nat))) (And ((0 : Int) = (0 : Int)) (And ((↑(IdT.i i') : Int) = IntKind.wrap IntKind.i64 ((↑(IdT.i i) : Int) + (1 : Int))) True)))) (And (And (And ([(0 : Int), (0 : Int), (0 : Int), (0 : Int)] = [(0 : Int), (0 : Int), (0 : Int), (0 : Int)]) True) (And ((true : Bool) = true) True)) ((true : Bool) = true))))) (And (M.tup [M.agg [SV.ints IntKind.u64 (4 : Nat) (List.replicate (4 : Nat) (0 : Int))], M.one (SV.v (Value.int IntKind.i64 (21 : Int)))] = M.tup [M.agg [SV.ints IntKind.u64 (4 : Nat) (L (Prod.fst (parseR (sl s))))], M.one (SV.v (Value.int IntKind.i64 (Prod.snd (parseR (sl s)))))]) ((true : Bool) = true)) (decide ((57 : Int) < List.getD (sl s) (Int.toNat (↑(IdT.i i) : Int)) (0 : Int)))))) (And (M.tup [M.agg [SV.ints IntKind.u64 (4 : Nat) (List.replicate (4 : Nat) (0 : Int))], M.one (SV.v (Value.int IntKind.i64 (21 : Int)))] = M.tup [M.agg [SV.ints IntKind.u64 (4 : Nat) (L (Prod.fst (parseR (sl s))))], M.one (SV.v (Value.int IntKind.i64 (Prod.snd (parseR (sl s)))))]) ((true : Bool) = true)) (decide (List.getD (sl s) (Int.toNat (↑(IdT.i i) : Int)) (0 : Int) < (48 : Int)))))) (decide ((↑(IdT.i i) : Int) < (↑(ByteArray.size s) : Int)))))))) (And (M.tup [M.agg [SV.ints IntKind.u64 (4 : Nat) (List.replicate (4 : Nat) (0 : Int))], M.one (SV.v (Value.int IntKind.i64 (21 : Int)))] = M.tup [M.agg [SV.ints IntKind.u64 (4 : Nat) (L (Prod.fst (parseR (sl s))))], M.one (SV.v (Value.int IntKind.i64 (Prod.snd (parseR (sl s)))))]) ((true : Bool) = true)) (List.getD (sl s) (Int.toNat (0 : Int)) (0 : Int) == (48 : Int))))) (decide ((1 : Int) < (↑(ByteArray.size s) : Int)))) (And (M.tup [M.agg [SV.ints IntKind.u64 (4 : Nat) (List.replicate (4 : Nat) (0 : Int))], M.one (SV.v (Value.int IntKind.i64 (21 : Int)))] = M.tup [M.agg [SV.ints IntKind.u64 (4 : Nat) (L (Prod.fst (parseR (sl s))))], M.one (SV.v (Value.int IntKind.i64 (Prod.snd (parseR (sl s)))))]) ((true : Bool) = true)) (decide ((80 : Int) < (↑(ByteArray.size s) : Int)))) (And (M.tup [M.agg [SV.ints IntKind.u64 (4 : Nat) (List.replicate (4 : Nat) (0 : Int))], M.one (SV.v (Value.int IntKind.i64 (21 : Int)))] = M.tup [M.agg [SV.ints IntKind.u64 (4 : Nat) (L (Prod.fst (parseR (sl s))))], M.one (SV.v (Value.int IntKind.i64 (Prod.snd (parseR (sl s)))))]) ((true : Bool) = true)) (decide ((↑(ByteArray.size s) : Int) < (1 : Int))))) (by kernel_rfl) ?_
  have hsz := sl_length s
  have hdb := sl_byte s
  rw [← hsz]
  generalize hl : sl s = l at *
  have hlt1 : decide (((l.length : Nat) : Int) < 1) = decide (l.length = 0) := by
    by_cases h : l.length = 0
    · rw [h]; rfl
    · rw [decide_eq_false h, decide_eq_false (by omega)]
  rw [hlt1]
  refine bif_dec (fun h0 => ?_) (fun h0 => ?_)
  · rw [parseR_bad0 h0]
    simp only [L_zero]
    repeat' first | exact trivial | refine And.intro ?_ ?_ | with_reducible refine bif_dt (by assumption) ?_ | with_reducible refine bif_df (by assumption) ?_ | with_reducible refine bif_dec (fun _ => ?_) (fun _ => ?_) | with_reducible refine bif_not ?_ | with_reducible refine bif_and ?_ | with_reducible refine bif_or ?_ | with_reducible refine bif_t (by assumption) ?_ | with_reducible refine bif_f (by assumption) ?_ | with_reducible refine bif_t (beq_self_eq_true _) ?_ | with_reducible refine bif_b (fun _ => ?_) (fun _ => ?_) | with_reducible refine ⟨_, Eq.refl (List.map _ _), ?_⟩ | (with_reducible refine Exists.intro (by omega) ?_) | rfl | (intro h0; omega) | omega
  refine bif_dec (fun h80 => ?_) (fun h80 => ?_)
  · rw [parseR_bad80 (by omega)]
    simp only [L_zero]
    repeat' first | exact trivial | refine And.intro ?_ ?_ | with_reducible refine bif_dt (by assumption) ?_ | with_reducible refine bif_df (by assumption) ?_ | with_reducible refine bif_dec (fun _ => ?_) (fun _ => ?_) | with_reducible refine bif_not ?_ | with_reducible refine bif_and ?_ | with_reducible refine bif_or ?_ | with_reducible refine bif_t (by assumption) ?_ | with_reducible refine bif_f (by assumption) ?_ | with_reducible refine bif_t (beq_self_eq_true _) ?_ | with_reducible refine bif_b (fun _ => ?_) (fun _ => ?_) | with_reducible refine ⟨_, Eq.refl (List.map _ _), ?_⟩ | (with_reducible refine Exists.intro (by omega) ?_) | rfl | (intro h0; omega) | omega
  refine bif_dec (fun h1 => ?_) (fun h1 => ?_)
  · refine ⟨by omega, by omega, ?_⟩
    have hz48 : (l.getD (Int.toNat 0) 0 == 48) = decide (l.getD 0 0 = 48) := by
      show (l.getD 0 0 == 48) = _
      by_cases h : l.getD 0 0 = 48
      · rw [h]; rfl
      · rw [decide_eq_false h, beq_eq_false_iff_ne]; exact h
    rw [hz48]
    refine bif_dec (fun hz0 => ?_) (fun hz0 => ?_)
    · rw [parseR_badz (by omega) hz0]
      simp only [L_zero]
      repeat' first | exact trivial | refine And.intro ?_ ?_ | with_reducible refine bif_dt (by assumption) ?_ | with_reducible refine bif_df (by assumption) ?_ | with_reducible refine bif_dec (fun _ => ?_) (fun _ => ?_) | with_reducible refine bif_not ?_ | with_reducible refine bif_and ?_ | with_reducible refine bif_or ?_ | with_reducible refine bif_t (by assumption) ?_ | with_reducible refine bif_f (by assumption) ?_ | with_reducible refine bif_t (beq_self_eq_true _) ?_ | with_reducible refine bif_b (fun _ => ?_) (fun _ => ?_) | with_reducible refine ⟨_, Eq.refl (List.map _ _), ?_⟩ | (with_reducible refine Exists.intro (by omega) ?_) | rfl | (intro h0; omega) | omega
    have hz : ¬ (1 < l.length ∧ l.getD 0 0 = 48) := fun h => hz0 h.2
    refine ⟨⟨0, 0, by omega, fun k hk => absurd hk (Nat.not_lt_zero k)⟩, ?_, ?_⟩
    ·
      repeat' first | exact trivial | refine And.intro ?_ ?_ | with_reducible refine bif_dt (by assumption) ?_ | with_reducible refine bif_df (by assumption) ?_ | with_reducible refine bif_dec (fun _ => ?_) (fun _ => ?_) | with_reducible refine bif_not ?_ | with_reducible refine bif_and ?_ | with_reducible refine bif_or ?_ | with_reducible refine bif_t (by assumption) ?_ | with_reducible refine bif_f (by assumption) ?_ | with_reducible refine bif_t (beq_self_eq_true _) ?_ | with_reducible refine bif_b (fun _ => ?_) (fun _ => ?_) | with_reducible refine ⟨_, Eq.refl (List.map _ _), ?_⟩ | (with_reducible refine Exists.intro (by omega) ?_) | rfl | (intro h0; omega) | omega
    rintro ⟨i, cp, hi, hd⟩ -
    dsimp only
    refine bif_dec (fun hlt => ?_) (fun hlt => ?_)
    · have hi' : i < l.length := by omega
      have hg := getD_at hi'
      simp only [Int.toNat_natCast, inext (show i < 1000000 by omega), hg]
      refine ⟨by omega, by omega, ?_⟩
      refine bif_dec (fun hc => ?_) (fun hc => ?_)
      · rw [parseR_badd hi' (isD_not (by rw [getD_at hi']; omega))]
        simp only [L_zero]
        repeat' first | exact trivial | refine And.intro ?_ ?_ | with_reducible refine bif_dt (by assumption) ?_ | with_reducible refine bif_df (by assumption) ?_ | with_reducible refine bif_dec (fun _ => ?_) (fun _ => ?_) | with_reducible refine bif_not ?_ | with_reducible refine bif_and ?_ | with_reducible refine bif_or ?_ | with_reducible refine bif_t (by assumption) ?_ | with_reducible refine bif_f (by assumption) ?_ | with_reducible refine bif_t (beq_self_eq_true _) ?_ | with_reducible refine bif_b (fun _ => ?_) (fun _ => ?_) | with_reducible refine ⟨_, Eq.refl (List.map _ _), ?_⟩ | (with_reducible refine Exists.intro (by omega) ?_) | rfl | (intro h0; omega) | omega
      refine ⟨by omega, by omega, ?_⟩
      refine bif_dec (fun hc2 => ?_) (fun hc2 => ?_)
      · rw [parseR_badd hi' (isD_not (by rw [getD_at hi']; omega))]
        simp only [L_zero]
        repeat' first | exact trivial | refine And.intro ?_ ?_ | with_reducible refine bif_dt (by assumption) ?_ | with_reducible refine bif_df (by assumption) ?_ | with_reducible refine bif_dec (fun _ => ?_) (fun _ => ?_) | with_reducible refine bif_not ?_ | with_reducible refine bif_and ?_ | with_reducible refine bif_or ?_ | with_reducible refine bif_t (by assumption) ?_ | with_reducible refine bif_f (by assumption) ?_ | with_reducible refine bif_t (beq_self_eq_true _) ?_ | with_reducible refine bif_b (fun _ => ?_) (fun _ => ?_) | with_reducible refine ⟨_, Eq.refl (List.map _ _), ?_⟩ | (with_reducible refine Exists.intro (by omega) ?_) | rfl | (intro h0; omega) | omega
      · refine ⟨⟨i + 1, cp, by omega, fun k hk => ?_⟩, ⟨show l.length - (i + 1) < l.length - i by omega, trivial⟩, ?_⟩
        · by_cases hk' : k < i
          · exact hd k hk'
          · have : k = i := by omega
            subst this
            rw [getD_at hi', isD_iff]
            omega
        ·
          repeat' first | exact trivial | refine And.intro ?_ ?_ | with_reducible refine bif_dt (by assumption) ?_ | with_reducible refine bif_df (by assumption) ?_ | with_reducible refine bif_dec (fun _ => ?_) (fun _ => ?_) | with_reducible refine bif_not ?_ | with_reducible refine bif_and ?_ | with_reducible refine bif_or ?_ | with_reducible refine bif_t (by assumption) ?_ | with_reducible refine bif_f (by assumption) ?_ | with_reducible refine bif_t (beq_self_eq_true _) ?_ | with_reducible refine bif_b (fun _ => ?_) (fun _ => ?_) | with_reducible refine ⟨_, Eq.refl (List.map _ _), ?_⟩ | (with_reducible refine Exists.intro (by omega) ?_) | rfl | (intro h0; omega) | omega
    · have hall : ∀ k, k < l.length → isD (l.getD k 0) = true := fun k hk => hd k (by omega)
      rw [parseR_ok h0 (by omega) hz hall]
      refine ⟨⟨0, 0, 0, by omega, by decide, rfl⟩, ?_, ?_⟩
      · simp only [L_zero]
        repeat' first | exact trivial | refine And.intro ?_ ?_ | with_reducible refine bif_dt (by assumption) ?_ | with_reducible refine bif_df (by assumption) ?_ | with_reducible refine bif_dec (fun _ => ?_) (fun _ => ?_) | with_reducible refine bif_not ?_ | with_reducible refine bif_and ?_ | with_reducible refine bif_or ?_ | with_reducible refine bif_t (by assumption) ?_ | with_reducible refine bif_f (by assumption) ?_ | with_reducible refine bif_t (beq_self_eq_true _) ?_ | with_reducible refine bif_b (fun _ => ?_) (fun _ => ?_) | with_reducible refine ⟨_, Eq.refl (List.map _ _), ?_⟩ | (with_reducible refine Exists.intro (by omega) ?_) | rfl | (intro h0; omega) | omega
      rintro ⟨j, v, c3, hj, hv, hp⟩ -
      dsimp only
      rw [hp]
      refine bif_dec (fun hjl => ?_) (fun hjl => ?_)
      · have hj' : j < l.length := by omega
        have hdig := isD_iff.1 (hall j hj')
        have hgj := getD_at hj'
        rw [hgj] at hdig
        have hat := parseF_at (v := v) hj'
        obtain ⟨d, hd1, hd2⟩ : ∃ d : Nat, l[j] = ((d + 48 : Nat) : Int) ∧ d < 10 := ⟨(l[j] - 48).toNat, by omega, by omega⟩
        have hw : IntKind.u64.wrap (IntKind.u8.wrap (((d + 48 : Nat) : Int) - 48)) = (d : Int) := by
          rw [show ((d + 48 : Nat) : Int) - 48 = (d : Int) by omega, wrap8n, wrapn (by omega)]
          omega
        have hdt : (((d + 48 : Nat) : Int) - 48).toNat = d := by omega
        have hdT : d < T256 := by simp only [T256]; omega
        rw [hd1, hdt] at hat
        have hld : (List.replicate 4 (0 : Int)).set (0 * 1) (d : Int) = L d := by
          have := L_N (L4.of (a0 := (d : Int)) (a1 := 0) (a2 := 0) (a3 := 0) ⟨by omega, by omega⟩ ⟨by decide, by decide⟩ ⟨by decide, by decide⟩ ⟨by decide, by decide⟩)
          rw [N4] at this
          simp only [Int.toNat_natCast, Int.toNat_zero, Nat.mul_zero, Nat.add_zero] at this
          rw [this]
          rfl
        have hl10 : (List.replicate 4 (0 : Int)).set (0 * 1) 10 = L 10 := by decide
        have hn10 : N (L 10) = 10 := by decide
        simp only [Int.toNat_natCast, hgj, hd1, hw, hld, hl10, hn10, N_L hv, N_L hdT, inext (show j < 1000000 by omega)]
        refine ⟨⟨⟨trivial, (L4_L _).2⟩, ⟨trivial, (L4_L _).2⟩⟩, by omega, by omega, ⟨⟨trivial, (L4_L _).2⟩, ⟨trivial, (L4_L _).2⟩⟩, ?_⟩
        have k30 : (IntKind.i64.wrap ((30 : Int) + 0) != 0) = true := rfl
        have k03 : (IntKind.i64.wrap ((0 : Int) + 30) != 0) = true := rfl
        have k00 : (IntKind.i64.wrap ((0 : Int) + 0) != 0) = false := rfl
        by_cases hm : v * 10 < T256
        · by_cases hs : v * 10 + d < T256
          · rw [decide_eq_true hs, cond_true] at hat
            simp only [mulR_lt hm, N_L hm, addR_lt hs, k00]
            refine ⟨⟨j + 1, v * 10 + d, c3, by omega, hs, by rw [hp, hat]⟩, ⟨show l.length - (j + 1) < l.length - j by omega, trivial⟩, ?_⟩
            repeat' first | exact trivial | refine And.intro ?_ ?_ | with_reducible refine bif_dt (by assumption) ?_ | with_reducible refine bif_df (by assumption) ?_ | with_reducible refine bif_dec (fun _ => ?_) (fun _ => ?_) | with_reducible refine bif_not ?_ | with_reducible refine bif_and ?_ | with_reducible refine bif_or ?_ | with_reducible refine bif_t (by assumption) ?_ | with_reducible refine bif_f (by assumption) ?_ | with_reducible refine bif_t (beq_self_eq_true _) ?_ | with_reducible refine bif_b (fun _ => ?_) (fun _ => ?_) | with_reducible refine ⟨_, Eq.refl (List.map _ _), ?_⟩ | (with_reducible refine Exists.intro (by omega) ?_) | rfl | (intro h0; omega) | omega
          · rw [decide_eq_false hs, cond_false] at hat
            simp only [mulR_lt hm, N_L hm, addR_ge hs, k03, hat, L_zero]
            repeat' first | exact trivial | refine And.intro ?_ ?_ | with_reducible refine bif_dt (by assumption) ?_ | with_reducible refine bif_df (by assumption) ?_ | with_reducible refine bif_dec (fun _ => ?_) (fun _ => ?_) | with_reducible refine bif_not ?_ | with_reducible refine bif_and ?_ | with_reducible refine bif_or ?_ | with_reducible refine bif_t (by assumption) ?_ | with_reducible refine bif_f (by assumption) ?_ | with_reducible refine bif_t (beq_self_eq_true _) ?_ | with_reducible refine bif_b (fun _ => ?_) (fun _ => ?_) | with_reducible refine ⟨_, Eq.refl (List.map _ _), ?_⟩ | (with_reducible refine Exists.intro (by omega) ?_) | rfl | (intro h0; omega) | omega
        · have hs : ¬ v * 10 + d < T256 := by omega
          have h0d : N [0, 0, 0, 0] + d < T256 := by rw [show N [0, 0, 0, 0] = 0 from rfl]; omega
          rw [decide_eq_false hs, cond_false] at hat
          simp only [mulR_ge hm, addR_lt h0d, k30, hat, L_zero]
          repeat' first | exact trivial | refine And.intro ?_ ?_ | with_reducible refine bif_dt (by assumption) ?_ | with_reducible refine bif_df (by assumption) ?_ | with_reducible refine bif_dec (fun _ => ?_) (fun _ => ?_) | with_reducible refine bif_not ?_ | with_reducible refine bif_and ?_ | with_reducible refine bif_or ?_ | with_reducible refine bif_t (by assumption) ?_ | with_reducible refine bif_f (by assumption) ?_ | with_reducible refine bif_t (beq_self_eq_true _) ?_ | with_reducible refine bif_b (fun _ => ?_) (fun _ => ?_) | with_reducible refine ⟨_, Eq.refl (List.map _ _), ?_⟩ | (with_reducible refine Exists.intro (by omega) ?_) | rfl | (intro h0; omega) | omega
      · rw [parseF_end (by omega)]
        repeat' first | exact trivial | refine And.intro ?_ ?_ | with_reducible refine bif_dt (by assumption) ?_ | with_reducible refine bif_df (by assumption) ?_ | with_reducible refine bif_dec (fun _ => ?_) (fun _ => ?_) | with_reducible refine bif_not ?_ | with_reducible refine bif_and ?_ | with_reducible refine bif_or ?_ | with_reducible refine bif_t (by assumption) ?_ | with_reducible refine bif_f (by assumption) ?_ | with_reducible refine bif_t (beq_self_eq_true _) ?_ | with_reducible refine bif_b (fun _ => ?_) (fun _ => ?_) | with_reducible refine ⟨_, Eq.refl (List.map _ _), ?_⟩ | (with_reducible refine Exists.intro (by omega) ?_) | rfl | (intro h0; omega) | omega
  · have hz : ¬ (1 < l.length ∧ l.getD 0 0 = 48) := fun h => by omega
    refine ⟨⟨0, 0, by omega, fun k hk => absurd hk (Nat.not_lt_zero k)⟩, ?_, ?_⟩
    ·
      repeat' first | exact trivial | refine And.intro ?_ ?_ | with_reducible refine bif_dt (by assumption) ?_ | with_reducible refine bif_df (by assumption) ?_ | with_reducible refine bif_dec (fun _ => ?_) (fun _ => ?_) | with_reducible refine bif_not ?_ | with_reducible refine bif_and ?_ | with_reducible refine bif_or ?_ | with_reducible refine bif_t (by assumption) ?_ | with_reducible refine bif_f (by assumption) ?_ | with_reducible refine bif_t (beq_self_eq_true _) ?_ | with_reducible refine bif_b (fun _ => ?_) (fun _ => ?_) | with_reducible refine ⟨_, Eq.refl (List.map _ _), ?_⟩ | (with_reducible refine Exists.intro (by omega) ?_) | rfl | (intro h0; omega) | omega
    rintro ⟨i, cp, hi, hd⟩ -
    dsimp only
    refine bif_dec (fun hlt => ?_) (fun hlt => ?_)
    · have hi' : i < l.length := by omega
      have hg := getD_at hi'
      simp only [Int.toNat_natCast, inext (show i < 1000000 by omega), hg]
      refine ⟨by omega, by omega, ?_⟩
      refine bif_dec (fun hc => ?_) (fun hc => ?_)
      · rw [parseR_badd hi' (isD_not (by rw [getD_at hi']; omega))]
        simp only [L_zero]
        repeat' first | exact trivial | refine And.intro ?_ ?_ | with_reducible refine bif_dt (by assumption) ?_ | with_reducible refine bif_df (by assumption) ?_ | with_reducible refine bif_dec (fun _ => ?_) (fun _ => ?_) | with_reducible refine bif_not ?_ | with_reducible refine bif_and ?_ | with_reducible refine bif_or ?_ | with_reducible refine bif_t (by assumption) ?_ | with_reducible refine bif_f (by assumption) ?_ | with_reducible refine bif_t (beq_self_eq_true _) ?_ | with_reducible refine bif_b (fun _ => ?_) (fun _ => ?_) | with_reducible refine ⟨_, Eq.refl (List.map _ _), ?_⟩ | (with_reducible refine Exists.intro (by omega) ?_) | rfl | (intro h0; omega) | omega
      refine ⟨by omega, by omega, ?_⟩
      refine bif_dec (fun hc2 => ?_) (fun hc2 => ?_)
      · rw [parseR_badd hi' (isD_not (by rw [getD_at hi']; omega))]
        simp only [L_zero]
        repeat' first | exact trivial | refine And.intro ?_ ?_ | with_reducible refine bif_dt (by assumption) ?_ | with_reducible refine bif_df (by assumption) ?_ | with_reducible refine bif_dec (fun _ => ?_) (fun _ => ?_) | with_reducible refine bif_not ?_ | with_reducible refine bif_and ?_ | with_reducible refine bif_or ?_ | with_reducible refine bif_t (by assumption) ?_ | with_reducible refine bif_f (by assumption) ?_ | with_reducible refine bif_t (beq_self_eq_true _) ?_ | with_reducible refine bif_b (fun _ => ?_) (fun _ => ?_) | with_reducible refine ⟨_, Eq.refl (List.map _ _), ?_⟩ | (with_reducible refine Exists.intro (by omega) ?_) | rfl | (intro h0; omega) | omega
      · refine ⟨⟨i + 1, cp, by omega, fun k hk => ?_⟩, ⟨show l.length - (i + 1) < l.length - i by omega, trivial⟩, ?_⟩
        · by_cases hk' : k < i
          · exact hd k hk'
          · have : k = i := by omega
            subst this
            rw [getD_at hi', isD_iff]
            omega
        ·
          repeat' first | exact trivial | refine And.intro ?_ ?_ | with_reducible refine bif_dt (by assumption) ?_ | with_reducible refine bif_df (by assumption) ?_ | with_reducible refine bif_dec (fun _ => ?_) (fun _ => ?_) | with_reducible refine bif_not ?_ | with_reducible refine bif_and ?_ | with_reducible refine bif_or ?_ | with_reducible refine bif_t (by assumption) ?_ | with_reducible refine bif_f (by assumption) ?_ | with_reducible refine bif_t (beq_self_eq_true _) ?_ | with_reducible refine bif_b (fun _ => ?_) (fun _ => ?_) | with_reducible refine ⟨_, Eq.refl (List.map _ _), ?_⟩ | (with_reducible refine Exists.intro (by omega) ?_) | rfl | (intro h0; omega) | omega
    · have hall : ∀ k, k < l.length → isD (l.getD k 0) = true := fun k hk => hd k (by omega)
      rw [parseR_ok h0 (by omega) hz hall]
      refine ⟨⟨0, 0, 0, by omega, by decide, rfl⟩, ?_, ?_⟩
      · simp only [L_zero]
        repeat' first | exact trivial | refine And.intro ?_ ?_ | with_reducible refine bif_dt (by assumption) ?_ | with_reducible refine bif_df (by assumption) ?_ | with_reducible refine bif_dec (fun _ => ?_) (fun _ => ?_) | with_reducible refine bif_not ?_ | with_reducible refine bif_and ?_ | with_reducible refine bif_or ?_ | with_reducible refine bif_t (by assumption) ?_ | with_reducible refine bif_f (by assumption) ?_ | with_reducible refine bif_t (beq_self_eq_true _) ?_ | with_reducible refine bif_b (fun _ => ?_) (fun _ => ?_) | with_reducible refine ⟨_, Eq.refl (List.map _ _), ?_⟩ | (with_reducible refine Exists.intro (by omega) ?_) | rfl | (intro h0; omega) | omega
      rintro ⟨j, v, c3, hj, hv, hp⟩ -
      dsimp only
      rw [hp]
      refine bif_dec (fun hjl => ?_) (fun hjl => ?_)
      · have hj' : j < l.length := by omega
        have hdig := isD_iff.1 (hall j hj')
        have hgj := getD_at hj'
        rw [hgj] at hdig
        have hat := parseF_at (v := v) hj'
        obtain ⟨d, hd1, hd2⟩ : ∃ d : Nat, l[j] = ((d + 48 : Nat) : Int) ∧ d < 10 := ⟨(l[j] - 48).toNat, by omega, by omega⟩
        have hw : IntKind.u64.wrap (IntKind.u8.wrap (((d + 48 : Nat) : Int) - 48)) = (d : Int) := by
          rw [show ((d + 48 : Nat) : Int) - 48 = (d : Int) by omega, wrap8n, wrapn (by omega)]
          omega
        have hdt : (((d + 48 : Nat) : Int) - 48).toNat = d := by omega
        have hdT : d < T256 := by simp only [T256]; omega
        rw [hd1, hdt] at hat
        have hld : (List.replicate 4 (0 : Int)).set (0 * 1) (d : Int) = L d := by
          have := L_N (L4.of (a0 := (d : Int)) (a1 := 0) (a2 := 0) (a3 := 0) ⟨by omega, by omega⟩ ⟨by decide, by decide⟩ ⟨by decide, by decide⟩ ⟨by decide, by decide⟩)
          rw [N4] at this
          simp only [Int.toNat_natCast, Int.toNat_zero, Nat.mul_zero, Nat.add_zero] at this
          rw [this]
          rfl
        have hl10 : (List.replicate 4 (0 : Int)).set (0 * 1) 10 = L 10 := by decide
        have hn10 : N (L 10) = 10 := by decide
        simp only [Int.toNat_natCast, hgj, hd1, hw, hld, hl10, hn10, N_L hv, N_L hdT, inext (show j < 1000000 by omega)]
        refine ⟨⟨⟨trivial, (L4_L _).2⟩, ⟨trivial, (L4_L _).2⟩⟩, by omega, by omega, ⟨⟨trivial, (L4_L _).2⟩, ⟨trivial, (L4_L _).2⟩⟩, ?_⟩
        have k30 : (IntKind.i64.wrap ((30 : Int) + 0) != 0) = true := rfl
        have k03 : (IntKind.i64.wrap ((0 : Int) + 30) != 0) = true := rfl
        have k00 : (IntKind.i64.wrap ((0 : Int) + 0) != 0) = false := rfl
        by_cases hm : v * 10 < T256
        · by_cases hs : v * 10 + d < T256
          · rw [decide_eq_true hs, cond_true] at hat
            simp only [mulR_lt hm, N_L hm, addR_lt hs, k00]
            refine ⟨⟨j + 1, v * 10 + d, c3, by omega, hs, by rw [hp, hat]⟩, ⟨show l.length - (j + 1) < l.length - j by omega, trivial⟩, ?_⟩
            repeat' first | exact trivial | refine And.intro ?_ ?_ | with_reducible refine bif_dt (by assumption) ?_ | with_reducible refine bif_df (by assumption) ?_ | with_reducible refine bif_dec (fun _ => ?_) (fun _ => ?_) | with_reducible refine bif_not ?_ | with_reducible refine bif_and ?_ | with_reducible refine bif_or ?_ | with_reducible refine bif_t (by assumption) ?_ | with_reducible refine bif_f (by assumption) ?_ | with_reducible refine bif_t (beq_self_eq_true _) ?_ | with_reducible refine bif_b (fun _ => ?_) (fun _ => ?_) | with_reducible refine ⟨_, Eq.refl (List.map _ _), ?_⟩ | (with_reducible refine Exists.intro (by omega) ?_) | rfl | (intro h0; omega) | omega
          · rw [decide_eq_false hs, cond_false] at hat
            simp only [mulR_lt hm, N_L hm, addR_ge hs, k03, hat, L_zero]
            repeat' first | exact trivial | refine And.intro ?_ ?_ | with_reducible refine bif_dt (by assumption) ?_ | with_reducible refine bif_df (by assumption) ?_ | with_reducible refine bif_dec (fun _ => ?_) (fun _ => ?_) | with_reducible refine bif_not ?_ | with_reducible refine bif_and ?_ | with_reducible refine bif_or ?_ | with_reducible refine bif_t (by assumption) ?_ | with_reducible refine bif_f (by assumption) ?_ | with_reducible refine bif_t (beq_self_eq_true _) ?_ | with_reducible refine bif_b (fun _ => ?_) (fun _ => ?_) | with_reducible refine ⟨_, Eq.refl (List.map _ _), ?_⟩ | (with_reducible refine Exists.intro (by omega) ?_) | rfl | (intro h0; omega) | omega
        · have hs : ¬ v * 10 + d < T256 := by omega
          have h0d : N [0, 0, 0, 0] + d < T256 := by rw [show N [0, 0, 0, 0] = 0 from rfl]; omega
          rw [decide_eq_false hs, cond_false] at hat
          simp only [mulR_ge hm, addR_lt h0d, k30, hat, L_zero]
          repeat' first | exact trivial | refine And.intro ?_ ?_ | with_reducible refine bif_dt (by assumption) ?_ | with_reducible refine bif_df (by assumption) ?_ | with_reducible refine bif_dec (fun _ => ?_) (fun _ => ?_) | with_reducible refine bif_not ?_ | with_reducible refine bif_and ?_ | with_reducible refine bif_or ?_ | with_reducible refine bif_t (by assumption) ?_ | with_reducible refine bif_f (by assumption) ?_ | with_reducible refine bif_t (beq_self_eq_true _) ?_ | with_reducible refine bif_b (fun _ => ?_) (fun _ => ?_) | with_reducible refine ⟨_, Eq.refl (List.map _ _), ?_⟩ | (with_reducible refine Exists.intro (by omega) ?_) | rfl | (intro h0; omega) | omega
      · rw [parseF_end (by omega)]
        repeat' first | exact trivial | refine And.intro ?_ ?_ | with_reducible refine bif_dt (by assumption) ?_ | with_reducible refine bif_df (by assumption) ?_ | with_reducible refine bif_dec (fun _ => ?_) (fun _ => ?_) | with_reducible refine bif_not ?_ | with_reducible refine bif_and ?_ | with_reducible refine bif_or ?_ | with_reducible refine bif_t (by assumption) ?_ | with_reducible refine bif_f (by assumption) ?_ | with_reducible refine bif_t (beq_self_eq_true _) ?_ | with_reducible refine bif_b (fun _ => ?_) (fun _ => ?_) | with_reducible refine ⟨_, Eq.refl (List.map _ _), ?_⟩ | (with_reducible refine Exists.intro (by omega) ?_) | rfl | (intro h0; omega) | omega
def rparseT : List M → (M → Prop) → Prop
  | [.one (.v (.string s))], K => K (.tup [w4 (L (parseR (sl s)).1), int (parseR (sl s)).2])
  | _, _ => False
theorem rparse_ok : POK Try.prog 34 rparseT := by
  intro ms K h
  unfold rparseT at h ⊢
  split at h
  · exact ⟨_, h, (rparse_spec _), rfl, fun _ hk => hk⟩
  · exact h.elim

end Go.Proofs.Ytjdlefkpoggocaa
