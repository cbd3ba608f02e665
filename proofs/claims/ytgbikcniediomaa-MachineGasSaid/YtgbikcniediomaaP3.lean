/- One instruction on no stack, by the machine. -/
import Derived.Test.YtgbikcniediomaaP2
import Derived.Test.YtgbikcniediomaaSx24
namespace Go.Proofs.Ytgbikcniediomaa
open Go Go.Sx Go.Mach
set_option linter.unusedVariables false
set_option linter.unusedSimpArgs false
set_option maxRecDepth 100000
set_option maxHeartbeats 4000000

abbrev nilS' : SV := .v (.slice none 0 0)
structure CuN (op arg word : Int) (c : Ctx) (s : MS) where
  lay : Int
  next : Int
  w : Int
  h0 : op ≠ 0
  h19 : op ≠ 19
  h : layF op arg c s word [] [] (takesF op arg).2.2 = (lay, next, w, 0, [])
theorem does_nil (op arg word : Int) (x : Value) (c : Ctx) (s : MS) (hs : s.stk = []) (hr : rightF op arg = true) (ha : 0 ≤ arg) (hin : c.input.length ≤ 1000) :
    SMem Try.prog 46 [ins op arg, cxM x c, stM s nilS', u64 word] 0 []
      (fun y : Value => ⟨0, .tup [stM (doesF op arg c s word).1 (.view y 1 e8 (doesF op arg c s word).1.stk), u64 (doesF op arg c s word).2], []⟩) := by
  refine SMem.inf 1 E8 [(51, costT), (52, takesT), (53, bothT)] (SOK.cons cost_ok (SOK.cons takes_ok (SOK.cons both_ok SOK.nil))) [] MSOK.nil tok mixed [(44, ⟨Try.f44, true, [], []⟩)] (IOK.cons Try.func44 Try.call44 IOK.nil) true [(100047, ⟨CuN op arg word c s, fun p => ⟨4, [(3, u64 p.w), (6, .one (.ptr 2 0)), (8, .one (.ptr 3 0)), (12, int (takesF op arg).2.1), (15, .one nilS'), (16, int p.next), (18, u64 p.lay)], [(2, .cells [.v (.int .i64 s.pc), .v (.int .u64 (IntKind.u64.wrap (s.gas - costF op))), .v (.int .i64 s.st), .v (.int .i64 s.e), nilS', .ints .u64 16 s.wd]), (3, .cells [.v (.int .i64 0), .v (.int .u64 0), .v (.int .i64 0), .v (.int .i64 0), .v (.slice none 0 0), .ints .u64 16 (List.replicate 16 0)])]⟩, fun _ => 0, fun _ _ => True⟩)] [] Try.call46 Try.func46 rfl (by rfl) ?_
  refine Eq.mp (α := (@Bool.rec (fun _ => Prop) (@Bool.rec (fun _ => Prop) (@Bool.rec (fun _ => Prop) (And ((0 : Int) ≤ IntKind.wrap IntKind.i64 ((0 : Int) - Prod.fst (takesF op arg))) (And (Int.toNat (IntKind.wrap IntKind.i64 ((0 : Int) - Prod.fst (takesF op arg))) = (0 : Nat)) (And ((0 : Nat) = (0 : Nat)) (And ((0 : Int) ≤ IntKind.wrap IntKind.i64 ((0 : Int) - Prod.fst (takesF op arg))) (And ((0 : Int) ≤ IntKind.wrap IntKind.i64 ((0 : Int) - Prod.fst (takesF op arg))) (And ((0 : Nat) = (0 : Nat)) (And (Int.toNat (IntKind.wrap IntKind.i64 ((0 : Int) - Prod.fst (takesF op arg))) = (0 : Nat)) (And (Int.toNat (IntKind.wrap IntKind.i64 ((0 : Int) - Prod.fst (takesF op arg))) = (0 : Nat)) (And (@Bool.rec (fun _ => Prop) (@Bool.rec (fun _ => Prop) (@Bool.rec (fun _ => Prop) (@Bool.rec (fun _ => Prop) (@Bool.rec (fun _ => Prop) (@Bool.rec (fun _ => Prop) (@Bool.rec (fun _ => Prop) (@Bool.rec (fun _ => Prop) (@Bool.rec (fun _ => Prop) (@Bool.rec (fun _ => Prop) (@Bool.rec (fun _ => Prop) (@Bool.rec (fun _ => Prop) (@Bool.rec (fun _ => Prop) (And ((0 : Int) ≤ (0 : Int)) False) (∃ i : CuN op arg word c s, (And (And (CuN.w i = word) (And (And ((true : Bool) = true) ((0 : Nat) = (0 : Nat))) (And (And ((true : Bool) = true) ((0 : Nat) = (0 : Nat))) (And (Prod.fst (Prod.snd (takesF op arg)) = Prod.fst (Prod.snd (takesF op arg))) (And (Value.slice none (0 : Nat) (0 : Nat) = Value.slice none (0 : Nat) (0 : Nat)) (And (CuN.next i = IntKind.wrap IntKind.i64 (MS.pc s + (1 : Int))) (And (CuN.lay i = (0 : Int)) True))))))) (And (And (And (MS.pc s = MS.pc s) (And (IntKind.wrap IntKind.u64 (MS.gas s - costF op) = IntKind.wrap IntKind.u64 (MS.gas s - costF op)) (And (MS.st s = MS.st s) (And (MS.e s = MS.e s) (And (Value.slice none (0 : Nat) (0 : Nat) = Value.slice none (0 : Nat) (0 : Nat)) (And (MS.wd s = MS.wd s) True)))))) (And ((true : Bool) = true) (And (And ((0 : Int) = (0 : Int)) (And ((0 : Int) = (0 : Int)) (And ((0 : Int) = (0 : Int)) (And ((0 : Int) = (0 : Int)) (And (Value.slice none (0 : Nat) (0 : Nat) = Value.slice none (0 : Nat) (0 : Nat)) (And (List.replicate (16 : Nat) (0 : Int) = List.replicate (16 : Nat) (0 : Int)) True)))))) (And ((true : Bool) = true) True)))) ((true : Bool) = true)))) (op == (2 : Int))) (∃ i : CuN op arg word c s, (And (And (CuN.w i = word) (And (And ((true : Bool) = true) ((0 : Nat) = (0 : Nat))) (And (And ((true : Bool) = true) ((0 : Nat) = (0 : Nat))) (And (Prod.fst (Prod.snd (takesF op arg)) = Prod.fst (Prod.snd (takesF op arg))) (And (Value.slice none (0 : Nat) (0 : Nat) = Value.slice none (0 : Nat) (0 : Nat)) (And (CuN.next i = IntKind.wrap IntKind.i64 (MS.pc s + (1 : Int))) (And (CuN.lay i = Ctx.caller c) True))))))) (And (And (And (MS.pc s = MS.pc s) (And (IntKind.wrap IntKind.u64 (MS.gas s - costF op) = IntKind.wrap IntKind.u64 (MS.gas s - costF op)) (And (MS.st s = MS.st s) (And (MS.e s = MS.e s) (And (Value.slice none (0 : Nat) (0 : Nat) = Value.slice none (0 : Nat) (0 : Nat)) (And (MS.wd s = MS.wd s) True)))))) (And ((true : Bool) = true) (And (And ((0 : Int) = (0 : Int)) (And ((0 : Int) = (0 : Int)) (And ((0 : Int) = (0 : Int)) (And ((0 : Int) = (0 : Int)) (And (Value.slice none (0 : Nat) (0 : Nat) = Value.slice none (0 : Nat) (0 : Nat)) (And (List.replicate (16 : Nat) (0 : Int) = List.replicate (16 : Nat) (0 : Int)) True)))))) (And ((true : Bool) = true) True)))) ((true : Bool) = true)))) (op == (18 : Int))) (∃ i : CuN op arg word c s, (And (And (CuN.w i = word) (And (And ((true : Bool) = true) ((0 : Nat) = (0 : Nat))) (And (And ((true : Bool) = true) ((0 : Nat) = (0 : Nat))) (And (Prod.fst (Prod.snd (takesF op arg)) = Prod.fst (Prod.snd (takesF op arg))) (And (Value.slice none (0 : Nat) (0 : Nat) = Value.slice none (0 : Nat) (0 : Nat)) (And (CuN.next i = IntKind.wrap IntKind.i64 (MS.pc s + (1 : Int))) (And (CuN.lay i = Ctx.value c) True))))))) (And (And (And (MS.pc s = MS.pc s) (And (IntKind.wrap IntKind.u64 (MS.gas s - costF op) = IntKind.wrap IntKind.u64 (MS.gas s - costF op)) (And (MS.st s = MS.st s) (And (MS.e s = MS.e s) (And (Value.slice none (0 : Nat) (0 : Nat) = Value.slice none (0 : Nat) (0 : Nat)) (And (MS.wd s = MS.wd s) True)))))) (And ((true : Bool) = true) (And (And ((0 : Int) = (0 : Int)) (And ((0 : Int) = (0 : Int)) (And ((0 : Int) = (0 : Int)) (And ((0 : Int) = (0 : Int)) (And (Value.slice none (0 : Nat) (0 : Nat) = Value.slice none (0 : Nat) (0 : Nat)) (And (List.replicate (16 : Nat) (0 : Int) = List.replicate (16 : Nat) (0 : Int)) True)))))) (And ((true : Bool) = true) True)))) ((true : Bool) = true)))) (op == (17 : Int))) (@Bool.rec (fun _ => Prop) (∃ i : CuN op arg word c s, (And (And (CuN.w i = word) (And (And ((true : Bool) = true) ((0 : Nat) = (0 : Nat))) (And (And ((true : Bool) = true) ((0 : Nat) = (0 : Nat))) (And (Prod.fst (Prod.snd (takesF op arg)) = Prod.fst (Prod.snd (takesF op arg))) (And (Value.slice none (0 : Nat) (0 : Nat) = Value.slice none (0 : Nat) (0 : Nat)) (And (CuN.next i = IntKind.wrap IntKind.i64 (MS.pc s + (1 : Int))) (And (CuN.lay i = (0 : Int)) True))))))) (And (And (And (MS.pc s = MS.pc s) (And (IntKind.wrap IntKind.u64 (MS.gas s - costF op) = IntKind.wrap IntKind.u64 (MS.gas s - costF op)) (And (MS.st s = MS.st s) (And (MS.e s = MS.e s) (And (Value.slice none (0 : Nat) (0 : Nat) = Value.slice none (0 : Nat) (0 : Nat)) (And (MS.wd s = MS.wd s) True)))))) (And ((true : Bool) = true) (And (And ((0 : Int) = (0 : Int)) (And ((0 : Int) = (0 : Int)) (And ((0 : Int) = (0 : Int)) (And ((0 : Int) = (0 : Int)) (And (Value.slice none (0 : Nat) (0 : Nat) = Value.slice none (0 : Nat) (0 : Nat)) (And (List.replicate (16 : Nat) (0 : Int) = List.replicate (16 : Nat) (0 : Int)) True)))))) (And ((true : Bool) = true) True)))) ((true : Bool) = true)))) (And ((0 : Int) ≤ arg) (∃ hk : Int.toNat arg < List.length (Ctx.input c), (∃ i : CuN op arg word c s, (And (And (CuN.w i = word) (And (And ((true : Bool) = true) ((0 : Nat) = (0 : Nat))) (And (And ((true : Bool) = true) ((0 : Nat) = (0 : Nat))) (And (Prod.fst (Prod.snd (takesF op arg)) = Prod.fst (Prod.snd (takesF op arg))) (And (Value.slice none (0 : Nat) (0 : Nat) = Value.slice none (0 : Nat) (0 : Nat)) (And (CuN.next i = IntKind.wrap IntKind.i64 (MS.pc s + (1 : Int))) (And (CuN.lay i = (Ctx.input c)[Int.toNat arg]) True))))))) (And (And (And (MS.pc s = MS.pc s) (And (IntKind.wrap IntKind.u64 (MS.gas s - costF op) = IntKind.wrap IntKind.u64 (MS.gas s - costF op)) (And (MS.st s = MS.st s) (And (MS.e s = MS.e s) (And (Value.slice none (0 : Nat) (0 : Nat) = Value.slice none (0 : Nat) (0 : Nat)) (And (MS.wd s = MS.wd s) True)))))) (And ((true : Bool) = true) (And (And ((0 : Int) = (0 : Int)) (And ((0 : Int) = (0 : Int)) (And ((0 : Int) = (0 : Int)) (And ((0 : Int) = (0 : Int)) (And (Value.slice none (0 : Nat) (0 : Nat) = Value.slice none (0 : Nat) (0 : Nat)) (And (List.replicate (16 : Nat) (0 : Int) = List.replicate (16 : Nat) (0 : Int)) True)))))) (And ((true : Bool) = true) True)))) ((true : Bool) = true)))))) (decide (arg < IntKind.wrap IntKind.u64 (↑(List.length (Ctx.input c)) : Int)))) (op == (16 : Int))) (And ((0 : Int) ≤ (0 : Int)) False) (op == (15 : Int))) (∃ i : CuN op arg word c s, (And (And (CuN.w i = word) (And (And ((true : Bool) = true) ((0 : Nat) = (0 : Nat))) (And (And ((true : Bool) = true) ((0 : Nat) = (0 : Nat))) (And (Prod.fst (Prod.snd (takesF op arg)) = Prod.fst (Prod.snd (takesF op arg))) (And (Value.slice none (0 : Nat) (0 : Nat) = Value.slice none (0 : Nat) (0 : Nat)) (And (CuN.next i = IntKind.wrap IntKind.i64 (MS.pc s + (1 : Int))) (And (CuN.lay i = word) True))))))) (And (And (And (MS.pc s = MS.pc s) (And (IntKind.wrap IntKind.u64 (MS.gas s - costF op) = IntKind.wrap IntKind.u64 (MS.gas s - costF op)) (And (MS.st s = MS.st s) (And (MS.e s = MS.e s) (And (Value.slice none (0 : Nat) (0 : Nat) = Value.slice none (0 : Nat) (0 : Nat)) (And (MS.wd s = MS.wd s) True)))))) (And ((true : Bool) = true) (And (And ((0 : Int) = (0 : Int)) (And ((0 : Int) = (0 : Int)) (And ((0 : Int) = (0 : Int)) (And ((0 : Int) = (0 : Int)) (And (Value.slice none (0 : Nat) (0 : Nat) = Value.slice none (0 : Nat) (0 : Nat)) (And (List.replicate (16 : Nat) (0 : Int) = List.replicate (16 : Nat) (0 : Int)) True)))))) (And ((true : Bool) = true) True)))) ((true : Bool) = true)))) (op == (14 : Int))) (And ((0 : Int) ≤ (0 : Int)) False) (op == (13 : Int))) (∃ i : CuN op arg word c s, (And (And (CuN.w i = word) (And (And ((true : Bool) = true) ((0 : Nat) = (0 : Nat))) (And (And ((true : Bool) = true) ((0 : Nat) = (0 : Nat))) (And (Prod.fst (Prod.snd (takesF op arg)) = Prod.fst (Prod.snd (takesF op arg))) (And (Value.slice none (0 : Nat) (0 : Nat) = Value.slice none (0 : Nat) (0 : Nat)) (And (CuN.next i = IntKind.wrap IntKind.i64 (if (128 : Int) < arg then (128 : Int) else arg)) (And (CuN.lay i = (0 : Int)) True))))))) (And (And (And (MS.pc s = MS.pc s) (And (IntKind.wrap IntKind.u64 (MS.gas s - costF op) = IntKind.wrap IntKind.u64 (MS.gas s - costF op)) (And (MS.st s = MS.st s) (And (MS.e s = MS.e s) (And (Value.slice none (0 : Nat) (0 : Nat) = Value.slice none (0 : Nat) (0 : Nat)) (And (MS.wd s = MS.wd s) True)))))) (And ((true : Bool) = true) (And (And ((0 : Int) = (0 : Int)) (And ((0 : Int) = (0 : Int)) (And ((0 : Int) = (0 : Int)) (And ((0 : Int) = (0 : Int)) (And (Value.slice none (0 : Nat) (0 : Nat) = Value.slice none (0 : Nat) (0 : Nat)) (And (List.replicate (16 : Nat) (0 : Int) = List.replicate (16 : Nat) (0 : Int)) True)))))) (And ((true : Bool) = true) True)))) ((true : Bool) = true)))) (op == (12 : Int))) (And ((0 : Int) ≤ IntKind.wrap IntKind.i64 ((0 : Int) - Prod.snd (Prod.snd (takesF op arg)))) False) (op == (4 : Int))) (And ((0 : Int) ≤ IntKind.wrap IntKind.i64 ((0 : Int) - Prod.snd (Prod.snd (takesF op arg)))) False) (op == (3 : Int))) (∃ i : CuN op arg word c s, (And (And (CuN.w i = word) (And (And ((true : Bool) = true) ((0 : Nat) = (0 : Nat))) (And (And ((true : Bool) = true) ((0 : Nat) = (0 : Nat))) (And (Prod.fst (Prod.snd (takesF op arg)) = Prod.fst (Prod.snd (takesF op arg))) (And (Value.slice none (0 : Nat) (0 : Nat) = Value.slice none (0 : Nat) (0 : Nat)) (And (CuN.next i = IntKind.wrap IntKind.i64 (MS.pc s + (1 : Int))) (And (CuN.lay i = arg) True))))))) (And (And (And (MS.pc s = MS.pc s) (And (IntKind.wrap IntKind.u64 (MS.gas s - costF op) = IntKind.wrap IntKind.u64 (MS.gas s - costF op)) (And (MS.st s = MS.st s) (And (MS.e s = MS.e s) (And (Value.slice none (0 : Nat) (0 : Nat) = Value.slice none (0 : Nat) (0 : Nat)) (And (MS.wd s = MS.wd s) True)))))) (And ((true : Bool) = true) (And (And ((0 : Int) = (0 : Int)) (And ((0 : Int) = (0 : Int)) (And ((0 : Int) = (0 : Int)) (And ((0 : Int) = (0 : Int)) (And (Value.slice none (0 : Nat) (0 : Nat) = Value.slice none (0 : Nat) (0 : Nat)) (And (List.replicate (16 : Nat) (0 : Int) = List.replicate (16 : Nat) (0 : Int)) True)))))) (And ((true : Bool) = true) True)))) ((true : Bool) = true)))) (op == (1 : Int))) (∃ o : Value, (And (And (And (And (MS.pc (Prod.fst (doesF op arg c s word)) = MS.pc s) (And (MS.gas (Prod.fst (doesF op arg c s word)) = IntKind.wrap IntKind.u64 (MS.gas s - costF op)) (And (MS.st (Prod.fst (doesF op arg c s word)) = (2 : Int)) (And (MS.e (Prod.fst (doesF op arg c s word)) = (38 : Int)) (And (SV.view o (1 : Nat) e8 (MS.stk (Prod.fst (doesF op arg c s word))) = nilV (1 : Nat) E8 nilS') (And (MS.wd (Prod.fst (doesF op arg c s word)) = MS.wd s) True)))))) (And (Prod.snd (doesF op arg c s word) = word) True)) True) (And True ((true : Bool) = true)))) (op == (19 : Int))) (∃ o : Value, (And (And (And (And (MS.pc (Prod.fst (doesF op arg c s word)) = MS.pc s) (And (MS.gas (Prod.fst (doesF op arg c s word)) = IntKind.wrap IntKind.u64 (MS.gas s - costF op)) (And (MS.st (Prod.fst (doesF op arg c s word)) = (1 : Int)) (And (MS.e (Prod.fst (doesF op arg c s word)) = MS.e s) (And (SV.view o (1 : Nat) e8 (MS.stk (Prod.fst (doesF op arg c s word))) = nilV (1 : Nat) E8 nilS') (And (MS.wd (Prod.fst (doesF op arg c s word)) = MS.wd s) True)))))) (And (Prod.snd (doesF op arg c s word) = word) True)) True) (And True ((true : Bool) = true)))) (op == (0 : Int))) (∀ i : CuN op arg word c s, (@Bool.rec (fun _ => Prop) (∃ o : Value, (And (And (And (And (MS.pc (Prod.fst (doesF op arg c s word)) = CuN.next i) (And (MS.gas (Prod.fst (doesF op arg c s word)) = IntKind.wrap IntKind.u64 (MS.gas s - costF op)) (And (MS.st (Prod.fst (doesF op arg c s word)) = MS.st s) (And (MS.e (Prod.fst (doesF op arg c s word)) = MS.e s) (And (SV.view o (1 : Nat) e8 (MS.stk (Prod.fst (doesF op arg c s word))) = nilV (1 : Nat) E8 nilS') (And (MS.wd (Prod.fst (doesF op arg c s word)) = MS.wd s) True)))))) (And (Prod.snd (doesF op arg c s word) = CuN.w i) True)) True) (And True ((true : Bool) = true)))) (And ((0 : Nat) + (1 : Nat) ≤ (1 : Nat)) (And ((1 : Nat) * (8 : Nat) ≤ (150000000000000 : Nat)) (∀ cap : Nat, (∀ a : (1 : Nat) ≤ cap, (And ((1 : Nat) ≤ (1 : Nat)) (And ((1 : Nat) ≤ cap) (And (cap = cap) (And (∀ y : Int, ((true : Bool) = true)) (∀ x_1 : Value, (∃ o : Value, (And (And (And (And (MS.pc (Prod.fst (doesF op arg c s word)) = CuN.next i) (And (MS.gas (Prod.fst (doesF op arg c s word)) = IntKind.wrap IntKind.u64 (MS.gas s - costF op)) (And (MS.st (Prod.fst (doesF op arg c s word)) = MS.st s) (And (MS.e (Prod.fst (doesF op arg c s word)) = MS.e s) (And (SV.view o (1 : Nat) e8 (MS.stk (Prod.fst (doesF op arg c s word))) = nilV (1 : Nat) E8 (SV.view x_1 (1 : Nat) (Enc.enc (encInt IntKind.u64)) (List.take (1 : Nat) (castL (encInt IntKind.u64) (encInt IntKind.u64) (List.take (1 : Nat) (List.drop (0 : Nat) [Enc.of (encInt IntKind.u64) (CuN.lay i, ())])))))) (And (MS.wd (Prod.fst (doesF op arg c s word)) = MS.wd s) True)))))) (And (Prod.snd (doesF op arg c s word) = CuN.w i) True)) True) (And True ((true : Bool) = true))))))))))))) (decide ((0 : Int) < Prod.fst (Prod.snd (takesF op arg))))))))))))))) (∃ o : Value, (And (And (And (And (MS.pc (Prod.fst (doesF op arg c s word)) = MS.pc s) (And (MS.gas (Prod.fst (doesF op arg c s word)) = IntKind.wrap IntKind.u64 (MS.gas s - costF op)) (And (MS.st (Prod.fst (doesF op arg c s word)) = (2 : Int)) (And (MS.e (Prod.fst (doesF op arg c s word)) = (36 : Int)) (And (SV.view o (1 : Nat) e8 (MS.stk (Prod.fst (doesF op arg c s word))) = nilV (1 : Nat) E8 nilS') (And (MS.wd (Prod.fst (doesF op arg c s word)) = MS.wd s) True)))))) (And (Prod.snd (doesF op arg c s word) = word) True)) True) (And True ((true : Bool) = true)))) (decide ((32 : Int) < IntKind.wrap IntKind.i64 (IntKind.wrap IntKind.i64 ((0 : Int) - Prod.fst (takesF op arg)) + Prod.fst (Prod.snd (takesF op arg)))))) (∃ o : Value, (And (And (And (And (MS.pc (Prod.fst (doesF op arg c s word)) = MS.pc s) (And (MS.gas (Prod.fst (doesF op arg c s word)) = IntKind.wrap IntKind.u64 (MS.gas s - costF op)) (And (MS.st (Prod.fst (doesF op arg c s word)) = (2 : Int)) (And (MS.e (Prod.fst (doesF op arg c s word)) = (36 : Int)) (And (SV.view o (1 : Nat) e8 (MS.stk (Prod.fst (doesF op arg c s word))) = nilV (1 : Nat) E8 nilS') (And (MS.wd (Prod.fst (doesF op arg c s word)) = MS.wd s) True)))))) (And (Prod.snd (doesF op arg c s word) = word) True)) True) (And True ((true : Bool) = true)))) (decide ((0 : Int) < Prod.snd (Prod.snd (takesF op arg))))) (∃ o : Value, (And (And (And (And (MS.pc (Prod.fst (doesF op arg c s word)) = MS.pc s) (And (MS.gas (Prod.fst (doesF op arg c s word)) = (0 : Int)) (And (MS.st (Prod.fst (doesF op arg c s word)) = (2 : Int)) (And (MS.e (Prod.fst (doesF op arg c s word)) = (35 : Int)) (And (SV.view o (1 : Nat) e8 (MS.stk (Prod.fst (doesF op arg c s word))) = nilV (1 : Nat) E8 nilS') (And (MS.wd (Prod.fst (doesF op arg c s word)) = MS.wd s) True)))))) (And (Prod.snd (doesF op arg c s word) = word) True)) True) (And True ((true : Bool) = true)))) (decide (MS.gas s < costF op)))) (by kernel_rfl) ?_
  obtain ⟨t1, t2, t3, t4, t5, t6⟩ := takes_le hr ha
  have hlen : (s.stk.length : Int) = 0 := by rw [hs]; rfl
  have hM : IntKind.i64.wrap (0 - (takesF op arg).1) = 0 - (takesF op arg).1 := wrapI (by omega) (by omega)
  refine bif_dec (fun g => ?_) (fun g => ?_)
  · have hd : doesF op arg c s word = (failF { s with gas := 0 } 35, word) := by unfold doesF; rw [if_pos g]
    refine ⟨.slice none 0 0, ?_⟩
    rw [hd]
    dsimp only [failF]
    rw [hs]
    repeat' first | exact trivial | refine And.intro ?_ ?_ | with_reducible refine bif_dt (by assumption) ?_ | with_reducible refine bif_df (by assumption) ?_ | with_reducible refine bif_dec (fun _ => ?_) (fun _ => ?_) | with_reducible refine bif_not ?_ | with_reducible refine bif_and ?_ | with_reducible refine bif_or ?_ | with_reducible refine bif_t (by assumption) ?_ | with_reducible refine bif_f (by assumption) ?_ | with_reducible refine bif_t (beq_self_eq_true _) ?_ | with_reducible refine bif_b (fun _ => ?_) (fun _ => ?_) | with_reducible refine ⟨_, Eq.refl (List.map _ _), ?_⟩ | (with_reducible refine Exists.intro (by omega) ?_) | rfl | (intro h0; omega) | omega
  refine bif_dec (fun g1 => ?_) (fun g1 => ?_)
  · have hd : doesF op arg c s word = (failF { s with gas := IntKind.u64.wrap (s.gas - costF op) } 36, word) := by
      unfold doesF
      rw [if_neg g]
      dsimp only
      rw [if_pos (.inl (by omega))]
    refine ⟨.slice none 0 0, ?_⟩
    rw [hd]
    dsimp only [failF]
    rw [hs]
    repeat' first | exact trivial | refine And.intro ?_ ?_ | with_reducible refine bif_dt (by assumption) ?_ | with_reducible refine bif_df (by assumption) ?_ | with_reducible refine bif_dec (fun _ => ?_) (fun _ => ?_) | with_reducible refine bif_not ?_ | with_reducible refine bif_and ?_ | with_reducible refine bif_or ?_ | with_reducible refine bif_t (by assumption) ?_ | with_reducible refine bif_f (by assumption) ?_ | with_reducible refine bif_t (beq_self_eq_true _) ?_ | with_reducible refine bif_b (fun _ => ?_) (fun _ => ?_) | with_reducible refine ⟨_, Eq.refl (List.map _ _), ?_⟩ | (with_reducible refine Exists.intro (by omega) ?_) | rfl | (intro h0; omega) | omega
  have f0 : (takesF op arg).1 = 0 := by omega
  have f1 : (takesF op arg).2.2 = 0 := by omega
  rw [hM]
  have hM2 : IntKind.i64.wrap (0 - (takesF op arg).1 + (takesF op arg).2.1) = 0 - (takesF op arg).1 + (takesF op arg).2.1 := wrapI (by omega) (by omega)
  rw [hM2]
  refine bif_dec (fun g2 => ?_) (fun g2 => ?_)
  · omega
  refine ⟨by omega, by omega, rfl, by omega, by omega, rfl, by omega, by omega, ?_, ?_⟩
  · refine bif_b (fun o => ?_) (fun o0 => ?_)
    · have o : op = 0 := by simpa using o
      have hd : doesF op arg c s word = ({ s with gas := IntKind.u64.wrap (s.gas - costF op), st := 1 }, word) := by
        unfold doesF
        rw [if_neg g]
        dsimp only
        rw [if_neg (by omega), if_pos o]
      refine ⟨.slice none 0 0, ?_⟩
      rw [hd]
      dsimp only [failF]
      rw [hs]
      repeat' first | exact trivial | refine And.intro ?_ ?_ | with_reducible refine bif_dt (by assumption) ?_ | with_reducible refine bif_df (by assumption) ?_ | with_reducible refine bif_dec (fun _ => ?_) (fun _ => ?_) | with_reducible refine bif_not ?_ | with_reducible refine bif_and ?_ | with_reducible refine bif_or ?_ | with_reducible refine bif_t (by assumption) ?_ | with_reducible refine bif_f (by assumption) ?_ | with_reducible refine bif_t (beq_self_eq_true _) ?_ | with_reducible refine bif_b (fun _ => ?_) (fun _ => ?_) | with_reducible refine ⟨_, Eq.refl (List.map _ _), ?_⟩ | (with_reducible refine Exists.intro (by omega) ?_) | rfl | (intro h0; omega) | omega
    refine bif_b (fun o => ?_) (fun o19 => ?_)
    · have o : op = 19 := by simpa using o
      have hd : doesF op arg c s word = (failF { s with gas := IntKind.u64.wrap (s.gas - costF op) } 38, word) := by
        unfold doesF
        rw [if_neg g]
        dsimp only
        rw [if_neg (by omega), if_neg (by omega), if_pos o]
      refine ⟨.slice none 0 0, ?_⟩
      rw [hd]
      dsimp only [failF]
      rw [hs]
      repeat' first | exact trivial | refine And.intro ?_ ?_ | with_reducible refine bif_dt (by assumption) ?_ | with_reducible refine bif_df (by assumption) ?_ | with_reducible refine bif_dec (fun _ => ?_) (fun _ => ?_) | with_reducible refine bif_not ?_ | with_reducible refine bif_and ?_ | with_reducible refine bif_or ?_ | with_reducible refine bif_t (by assumption) ?_ | with_reducible refine bif_f (by assumption) ?_ | with_reducible refine bif_t (beq_self_eq_true _) ?_ | with_reducible refine bif_b (fun _ => ?_) (fun _ => ?_) | with_reducible refine ⟨_, Eq.refl (List.map _ _), ?_⟩ | (with_reducible refine Exists.intro (by omega) ?_) | rfl | (intro h0; omega) | omega
    refine bif_b (fun o => ?_) (fun o1 => ?_)
    · have o : op = 1 := by simpa using o
      subst o
      refine ⟨⟨arg, IntKind.i64.wrap (s.pc + 1), word, by decide, by decide, by simp [layF]⟩, ?_⟩
      repeat' first | exact trivial | refine And.intro ?_ ?_ | with_reducible refine bif_dt (by assumption) ?_ | with_reducible refine bif_df (by assumption) ?_ | with_reducible refine bif_dec (fun _ => ?_) (fun _ => ?_) | with_reducible refine bif_not ?_ | with_reducible refine bif_and ?_ | with_reducible refine bif_or ?_ | with_reducible refine bif_t (by assumption) ?_ | with_reducible refine bif_f (by assumption) ?_ | with_reducible refine bif_t (beq_self_eq_true _) ?_ | with_reducible refine bif_b (fun _ => ?_) (fun _ => ?_) | with_reducible refine ⟨_, Eq.refl (List.map _ _), ?_⟩ | (with_reducible refine Exists.intro (by omega) ?_) | rfl | (intro h0; omega) | omega
    refine bif_b (fun o => ?_) (fun o3 => ?_)
    · have o : op = 3 := by simpa using o
      subst o
      exfalso
      have := takes3 hr ha
      rw [this] at f1
      dsimp only at f1
      omega
    refine bif_b (fun o => ?_) (fun o4 => ?_)
    · have o : op = 4 := by simpa using o
      subst o
      exfalso
      have := takes4 hr ha
      rw [this] at f1
      dsimp only at f1
      omega
    refine bif_b (fun o => ?_) (fun o12 => ?_)
    · have o : op = 12 := by simpa using o
      subst o
      refine ⟨⟨0, IntKind.i64.wrap (if 128 < arg then 128 else arg), word, by decide, by decide, by simp [layF]⟩, ?_⟩
      repeat' first | exact trivial | refine And.intro ?_ ?_ | with_reducible refine bif_dt (by assumption) ?_ | with_reducible refine bif_df (by assumption) ?_ | with_reducible refine bif_dec (fun _ => ?_) (fun _ => ?_) | with_reducible refine bif_not ?_ | with_reducible refine bif_and ?_ | with_reducible refine bif_or ?_ | with_reducible refine bif_t (by assumption) ?_ | with_reducible refine bif_f (by assumption) ?_ | with_reducible refine bif_t (beq_self_eq_true _) ?_ | with_reducible refine bif_b (fun _ => ?_) (fun _ => ?_) | with_reducible refine ⟨_, Eq.refl (List.map _ _), ?_⟩ | (with_reducible refine Exists.intro (by omega) ?_) | rfl | (intro h0; omega) | omega
    refine bif_b (fun o => ?_) (fun o13 => ?_)
    · have o : op = 13 := by simpa using o
      subst o
      exfalso
      have : (takesF 13 arg).2.2 = 1 := by simp [takesF]
      omega
    refine bif_b (fun o => ?_) (fun o14 => ?_)
    · have o : op = 14 := by simpa using o
      subst o
      refine ⟨⟨word, IntKind.i64.wrap (s.pc + 1), word, by decide, by decide, by simp [layF]⟩, ?_⟩
      repeat' first | exact trivial | refine And.intro ?_ ?_ | with_reducible refine bif_dt (by assumption) ?_ | with_reducible refine bif_df (by assumption) ?_ | with_reducible refine bif_dec (fun _ => ?_) (fun _ => ?_) | with_reducible refine bif_not ?_ | with_reducible refine bif_and ?_ | with_reducible refine bif_or ?_ | with_reducible refine bif_t (by assumption) ?_ | with_reducible refine bif_f (by assumption) ?_ | with_reducible refine bif_t (beq_self_eq_true _) ?_ | with_reducible refine bif_b (fun _ => ?_) (fun _ => ?_) | with_reducible refine ⟨_, Eq.refl (List.map _ _), ?_⟩ | (with_reducible refine Exists.intro (by omega) ?_) | rfl | (intro h0; omega) | omega
    refine bif_b (fun o => ?_) (fun o15 => ?_)
    · have o : op = 15 := by simpa using o
      subst o
      exfalso
      have : (takesF 15 arg).2.2 = 1 := by simp [takesF]
      omega
    refine bif_b (fun o => ?_) (fun o16 => ?_)
    · have o : op = 16 := by simpa using o
      subst o
      have hu : IntKind.u64.wrap (c.input.length : Int) = (c.input.length : Int) := by rw [wrapU64]; omega
      rw [hu]
      refine bif_dec (fun b => ?_) (fun b => ?_)
      · have hk : arg.toNat < c.input.length := by omega
        refine ⟨ha, hk, ⟨c.input.getD arg.toNat 0, IntKind.i64.wrap (s.pc + 1), word, by decide, by decide, ?_⟩, ?_⟩
        · unfold layF
          simp only [if_pos b]
          simp
        repeat' first | exact (gd hk).symm | exact trivial | refine And.intro ?_ ?_ | with_reducible refine bif_dt (by assumption) ?_ | with_reducible refine bif_df (by assumption) ?_ | with_reducible refine bif_dec (fun _ => ?_) (fun _ => ?_) | with_reducible refine bif_not ?_ | with_reducible refine bif_and ?_ | with_reducible refine bif_or ?_ | with_reducible refine bif_t (by assumption) ?_ | with_reducible refine bif_f (by assumption) ?_ | with_reducible refine bif_t (beq_self_eq_true _) ?_ | with_reducible refine bif_b (fun _ => ?_) (fun _ => ?_) | with_reducible refine ⟨_, Eq.refl (List.map _ _), ?_⟩ | (with_reducible refine Exists.intro (by omega) ?_) | rfl | (intro h0; omega) | omega
      · refine ⟨⟨0, IntKind.i64.wrap (s.pc + 1), word, by decide, by decide, ?_⟩, ?_⟩
        · unfold layF
          simp only [if_neg b]
          simp
        repeat' first | exact trivial | refine And.intro ?_ ?_ | with_reducible refine bif_dt (by assumption) ?_ | with_reducible refine bif_df (by assumption) ?_ | with_reducible refine bif_dec (fun _ => ?_) (fun _ => ?_) | with_reducible refine bif_not ?_ | with_reducible refine bif_and ?_ | with_reducible refine bif_or ?_ | with_reducible refine bif_t (by assumption) ?_ | with_reducible refine bif_f (by assumption) ?_ | with_reducible refine bif_t (beq_self_eq_true _) ?_ | with_reducible refine bif_b (fun _ => ?_) (fun _ => ?_) | with_reducible refine ⟨_, Eq.refl (List.map _ _), ?_⟩ | (with_reducible refine Exists.intro (by omega) ?_) | rfl | (intro h0; omega) | omega
    refine bif_b (fun o => ?_) (fun o17 => ?_)
    · have o : op = 17 := by simpa using o
      subst o
      refine ⟨⟨c.value, IntKind.i64.wrap (s.pc + 1), word, by decide, by decide, by simp [layF]⟩, ?_⟩
      repeat' first | exact trivial | refine And.intro ?_ ?_ | with_reducible refine bif_dt (by assumption) ?_ | with_reducible refine bif_df (by assumption) ?_ | with_reducible refine bif_dec (fun _ => ?_) (fun _ => ?_) | with_reducible refine bif_not ?_ | with_reducible refine bif_and ?_ | with_reducible refine bif_or ?_ | with_reducible refine bif_t (by assumption) ?_ | with_reducible refine bif_f (by assumption) ?_ | with_reducible refine bif_t (beq_self_eq_true _) ?_ | with_reducible refine bif_b (fun _ => ?_) (fun _ => ?_) | with_reducible refine ⟨_, Eq.refl (List.map _ _), ?_⟩ | (with_reducible refine Exists.intro (by omega) ?_) | rfl | (intro h0; omega) | omega
    refine bif_b (fun o => ?_) (fun o18 => ?_)
    · have o : op = 18 := by simpa using o
      subst o
      refine ⟨⟨c.caller, IntKind.i64.wrap (s.pc + 1), word, by decide, by decide, by simp [layF]⟩, ?_⟩
      repeat' first | exact trivial | refine And.intro ?_ ?_ | with_reducible refine bif_dt (by assumption) ?_ | with_reducible refine bif_df (by assumption) ?_ | with_reducible refine bif_dec (fun _ => ?_) (fun _ => ?_) | with_reducible refine bif_not ?_ | with_reducible refine bif_and ?_ | with_reducible refine bif_or ?_ | with_reducible refine bif_t (by assumption) ?_ | with_reducible refine bif_f (by assumption) ?_ | with_reducible refine bif_t (beq_self_eq_true _) ?_ | with_reducible refine bif_b (fun _ => ?_) (fun _ => ?_) | with_reducible refine ⟨_, Eq.refl (List.map _ _), ?_⟩ | (with_reducible refine Exists.intro (by omega) ?_) | rfl | (intro h0; omega) | omega
    refine bif_b (fun o => ?_) (fun o2 => ?_)
    · have o : op = 2 := by simpa using o
      subst o
      exfalso
      have : (takesF 2 arg).2.2 = 1 := by simp [takesF]
      omega
    exfalso
    have n0 : op ≠ 0 := by simpa using o0
    have n19 : op ≠ 19 := by simpa using o19
    have n1 : op ≠ 1 := by simpa using o1
    have n2 : op ≠ 2 := by simpa using o2
    have n3 : op ≠ 3 := by simpa using o3
    have n4 : op ≠ 4 := by simpa using o4
    have n12 : op ≠ 12 := by simpa using o12
    have n13 : op ≠ 13 := by simpa using o13
    have n14 : op ≠ 14 := by simpa using o14
    have n15 : op ≠ 15 := by simpa using o15
    have n16 : op ≠ 16 := by simpa using o16
    have n17 : op ≠ 17 := by simpa using o17
    have n18 : op ≠ 18 := by simpa using o18
    have hrg : 0 ≤ op ∧ op ≤ 19 := by
      unfold rightF at hr
      rw [if_neg (by omega), if_neg (by omega), if_neg (by omega)] at hr
      simp at hr
      omega
    have ht : takesF op arg = (2, 1, 2) := by
      unfold takesF
      rw [if_neg (by omega), if_neg (by omega), if_neg (by omega), if_neg (by omega), if_pos (by omega)]
    rw [ht] at f1
    dsimp only at f1
    omega
  rintro ⟨lay, next, w, h0, h19, hl⟩
  dsimp only
  have hd : doesF op arg c s word = ({ s with gas := IntKind.u64.wrap (s.gas - costF op), stk := if 0 < (takesF op arg).2.1 then [] ++ [lay] else [], pc := next }, w) := by
    unfold doesF
    rw [if_neg g]
    dsimp only
    rw [if_neg (by omega), if_neg h0, if_neg h19, hs, List.take_nil, List.drop_nil, hl]
    dsimp only
    rw [if_neg (by simp)]
  refine bif_dec (fun hon => ?_) (fun hon => ?_)
  · rw [if_pos hon] at hd
    have e9 : List.take 1 (castL (encInt .u64) (encInt .u64) (List.take 1 (List.drop 0 [(encInt .u64).of (lay, ())]))) = [lay] := rfl
    refine ⟨by omega, by omega, fun cap k => ⟨Nat.le_refl _, k, rfl, fun _ => rfl, fun x1 => ⟨x1, ?_⟩⟩⟩
    rw [hd, e9]
    repeat' first | exact trivial | refine And.intro ?_ ?_ | with_reducible refine bif_dt (by assumption) ?_ | with_reducible refine bif_df (by assumption) ?_ | with_reducible refine bif_dec (fun _ => ?_) (fun _ => ?_) | with_reducible refine bif_not ?_ | with_reducible refine bif_and ?_ | with_reducible refine bif_or ?_ | with_reducible refine bif_t (by assumption) ?_ | with_reducible refine bif_f (by assumption) ?_ | with_reducible refine bif_t (beq_self_eq_true _) ?_ | with_reducible refine bif_b (fun _ => ?_) (fun _ => ?_) | with_reducible refine ⟨_, Eq.refl (List.map _ _), ?_⟩ | (with_reducible refine Exists.intro (by omega) ?_) | rfl | (intro h0; omega) | omega
  · rw [if_neg hon] at hd
    refine ⟨.slice none 0 0, ?_⟩
    rw [hd]
    repeat' first | exact trivial | refine And.intro ?_ ?_ | with_reducible refine bif_dt (by assumption) ?_ | with_reducible refine bif_df (by assumption) ?_ | with_reducible refine bif_dec (fun _ => ?_) (fun _ => ?_) | with_reducible refine bif_not ?_ | with_reducible refine bif_and ?_ | with_reducible refine bif_or ?_ | with_reducible refine bif_t (by assumption) ?_ | with_reducible refine bif_f (by assumption) ?_ | with_reducible refine bif_t (beq_self_eq_true _) ?_ | with_reducible refine bif_b (fun _ => ?_) (fun _ => ?_) | with_reducible refine ⟨_, Eq.refl (List.map _ _), ?_⟩ | (with_reducible refine Exists.intro (by omega) ?_) | rfl | (intro h0; omega) | omega
end Go.Proofs.Ytgbikcniediomaa
