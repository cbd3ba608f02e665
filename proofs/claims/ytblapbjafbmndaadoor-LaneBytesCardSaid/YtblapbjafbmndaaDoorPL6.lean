/- The document's reader of a proof. -/
import Derived.Test.YtblapbjafbmndaaDoorPL5
import Derived.Test.YtblapbjafbmndaaDoorDD
import Derived.Test.YtblapbjafbmndaaDoorSx24
namespace Go.Proofs.YtblapbjafbmndaaDoor
open Go Go.Sx Go.Sha
set_option linter.unusedVariables false
set_option linter.unusedSimpArgs false
set_option maxRecDepth 100000
set_option maxHeartbeats 4000000

structure FmT (b : List Int) (K : Nat) (s3 : RS) where
  i : Nat
  n : Nat
  cp : Nat
  acc : List (List Int)
  s : RS
  o : AtT b s
  hc : acc.length ≤ cp
  hn : i + n = K
  hs : acc ++ (fN n s).1 = (fN K s3).1
  hs2 : (fN n s).2 = (fN K s3).2
  hl : acc.length ≤ i
structure FrO (b : List Int) (s : RS) where
  y : Value
  o : AtT b s
theorem AtE {l : List Int} {s : RS} (h : l = s.l) : (⟨l, s.e⟩ : RS) = s := by
  subst h
  rfl
theorem from_spec (b : List Int) (cap a : Nat) (e : Int) (hc : b.length ≤ cap) (ha : a ≤ b.length) (hb : b.length ≤ 140737488351232) (hB : By b) :
    SMem Tryd.prog 80 [.one (.ptr 0 0)] 2 [(0, .cells (drC b cap a e)), (1, .row 1 EB b cap)]
    (fun o : FrO b (frF ⟨b.drop a, e⟩).2 => ⟨2, pfM o.y ((q1 ⟨b.drop a, e⟩).1, (q2 ⟨b.drop a, e⟩).1) (frF ⟨b.drop a, e⟩).1, [(0, .cells (drC b cap o.o.a (frF ⟨b.drop a, e⟩).2.e)), (1, .row 1 EB b cap)]⟩) := by
  refine SMem.inf 32 H32 [] SOK.nil [(114, rctT), (115, rhsT)] (MSOK.cons rct_ok (MSOK.cons rhs_ok MSOK.nil)) tok mixed [] IOK.nil false [(5, ⟨FmT b (q3 ⟨b.drop a, e⟩).1.toNat (q3 ⟨b.drop a, e⟩).2, fun p => ⟨5, [(0, .one (.ptr 0 0)), (2, .one (.ptr 2 0)), (3, .one (.ptr 3 0)), (4, int (q3 ⟨b.drop a, e⟩).1), (5, int p.i)], [(0, .cells (drC b cap p.o.a p.s.e)), (1, .row 1 EB b cap), (2, .cells p00), (3, .cells [.v (.int .i64 (q1 ⟨b.drop a, e⟩).1), .v (.int .i64 (q2 ⟨b.drop a, e⟩).1), .nslc 4 32 p.acc.length p.cp]), (4, .row 32 H32 p.acc p.cp)]⟩, fun p => p.n, fun _ _ => True⟩)] [] Tryd.call80 Tryd.func80 rfl (by rfl) ?_
  refine Eq.mp (α := (∃ b_1 : List Int, (And (List.map (Enc.enc EB) b = List.map (Enc.enc EB) b_1) (And (And (List.length b = List.length b_1) (And (cap = cap) (And (List.length b_1 ≤ cap) (And (And ((0 : Int) ≤ (↑a : Int)) ((↑a : Int) ≤ (↑(List.length b_1) : Int))) (And (And ((0 : Int) ≤ (65536 : Int)) ((65536 : Int) ≤ (1000000 : Int))) (And (List.length b_1 ≤ (140737488351232 : Nat)) (∀ x : Int, (∀ a_1 : x ∈ b_1, (And ((0 : Int) ≤ x) (x < (256 : Int))))))))))) (∀ o : AtT b_1 (Prod.snd (cF (65536 : Int) { l := List.drop (Int.toNat (↑a : Int)) b_1, e := e })), (∃ b_2 : List Int, (And (List.map (Enc.enc EB) b_1 = List.map (Enc.enc EB) b_2) (And (And (List.length b_1 = List.length b_2) (And (cap = cap) (And (List.length b_2 ≤ cap) (And (And ((0 : Int) ≤ (↑(AtT.a o) : Int)) ((↑(AtT.a o) : Int) ≤ (↑(List.length b_2) : Int))) (And (And ((0 : Int) ≤ (65536 : Int)) ((65536 : Int) ≤ (1000000 : Int))) (And (List.length b_2 ≤ (140737488351232 : Nat)) (∀ x : Int, (∀ a_1 : x ∈ b_2, (And ((0 : Int) ≤ x) (x < (256 : Int))))))))))) (∀ o_1 : AtT b_2 (Prod.snd (cF (65536 : Int) { l := List.drop (Int.toNat (↑(AtT.a o) : Int)) b_2, e := RS.e (Prod.snd (cF (65536 : Int) { l := List.drop (Int.toNat (↑a : Int)) b_1, e := e })) })), (∃ b_3 : List Int, (And (List.map (Enc.enc EB) b_2 = List.map (Enc.enc EB) b_3) (And (And (List.length b_2 = List.length b_3) (And (cap = cap) (And (List.length b_3 ≤ cap) (And (And ((0 : Int) ≤ (↑(AtT.a o_1) : Int)) ((↑(AtT.a o_1) : Int) ≤ (↑(List.length b_3) : Int))) (And (And ((0 : Int) ≤ (32 : Int)) ((32 : Int) ≤ (1000000 : Int))) (And (List.length b_3 ≤ (140737488351232 : Nat)) (∀ x : Int, (∀ a_1 : x ∈ b_3, (And ((0 : Int) ≤ x) (x < (256 : Int))))))))))) (∀ o_2 : AtT b_3 (Prod.snd (cF (32 : Int) { l := List.drop (Int.toNat (↑(AtT.a o_1) : Int)) b_3, e := RS.e (Prod.snd (cF (65536 : Int) { l := List.drop (Int.toNat (↑(AtT.a o) : Int)) b_2, e := RS.e (Prod.snd (cF (65536 : Int) { l := List.drop (Int.toNat (↑a : Int)) b_1, e := e })) })) })), (∃ i0 : FmT b (Int.toNat (Prod.fst (q3 { l := List.drop a b, e := e }))) (Prod.snd (q3 { l := List.drop a b, e := e })), (And (And True (And (And (And ((true : Bool) = true) ((0 : Nat) = (0 : Nat))) (And (And ((true : Bool) = true) ((0 : Nat) = (0 : Nat))) (And (And ((true : Bool) = true) ((0 : Nat) = (0 : Nat))) (And (Prod.fst (q3 { l := List.drop a b, e := e }) = Prod.fst (cF (32 : Int) { l := List.drop (Int.toNat (↑(AtT.a o_1) : Int)) b_3, e := RS.e (Prod.snd (cF (65536 : Int) { l := List.drop (Int.toNat (↑(AtT.a o) : Int)) b_2, e := RS.e (Prod.snd (cF (65536 : Int) { l := List.drop (Int.toNat (↑a : Int)) b_1, e := e })) })) })) (And ((↑(FmT.i i0) : Int) = (0 : Int)) True))))) (And (And (And (And ((true : Bool) = true) (And ((0 : Nat) = (0 : Nat)) (And (List.length b = List.length b_3) (cap = cap)))) (And ((↑(AtT.a (FmT.o i0)) : Int) = (↑(AtT.a o_2) : Int)) (And (RS.e (FmT.s i0) = RS.e (Prod.snd (cF (32 : Int) { l := List.drop (Int.toNat (↑(AtT.a o_1) : Int)) b_3, e := RS.e (Prod.snd (cF (65536 : Int) { l := List.drop (Int.toNat (↑(AtT.a o) : Int)) b_2, e := RS.e (Prod.snd (cF (65536 : Int) { l := List.drop (Int.toNat (↑a : Int)) b_1, e := e })) })) }))) True))) (And ((true : Bool) = true) (And (And ((true : Bool) = true) (And (cap = cap) (And (List.map (Enc.enc EB) b = List.map (Enc.enc EB) b_3) (∀ x : Int, (∀ a_1 : x ∈ b, (∀ s : SV, (∀ a_2 : s ∈ Enc.enc EB x, ((SV.isPure s : Bool) = (true))))))))) (And ((true : Bool) = true) (And (And ((0 : Int) = (0 : Int)) (And ((0 : Int) = (0 : Int)) (And (Value.slice none (0 : Nat) (0 : Nat) = Value.slice none (0 : Nat) (0 : Nat)) True))) (And ((true : Bool) = true) (And (And (Prod.fst (q1 { l := List.drop a b, e := e }) = Prod.fst (cF (65536 : Int) { l := List.drop (Int.toNat (↑a : Int)) b_1, e := e })) (And (Prod.fst (q2 { l := List.drop a b, e := e }) = Prod.fst (cF (65536 : Int) { l := List.drop (Int.toNat (↑(AtT.a o) : Int)) b_2, e := RS.e (Prod.snd (cF (65536 : Int) { l := List.drop (Int.toNat (↑a : Int)) b_1, e := e })) })) (And (And ((true : Bool) = true) (And (List.length (FmT.acc i0) = (0 : Nat)) (FmT.cp i0 = (0 : Nat)))) True))) (And ((true : Bool) = true) (And (And ((true : Bool) = true) (And (FmT.cp i0 = (0 : Nat)) (And (List.map (Enc.enc H32) (FmT.acc i0) = List.map (Enc.enc H32) []) (∀ x : List Int, (∀ a_1 : x ∈ FmT.acc i0, (∀ s : SV, (∀ a_2 : s ∈ Enc.enc H32 x, ((SV.isPure s : Bool) = (true))))))))) (And ((true : Bool) = true) True)))))))))) ((true : Bool) = true)))) (∀ i : FmT b (Int.toNat (Prod.fst (q3 { l := List.drop a b, e := e }))) (Prod.snd (q3 { l := List.drop a b, e := e })), (∀ a_1 : True, (@Bool.rec (fun _ => Prop) (And (List.length (FmT.acc i) ≤ List.length (FmT.acc i)) (And (List.length (FmT.acc i) ≤ FmT.cp i) (And (FmT.cp i = FmT.cp i) (And (∀ y : List Int, ((true : Bool) = true)) (∀ x : Value, (∃ o_3 : FrO b (Prod.snd (frF { l := List.drop a b, e := e })), (And (And (And (Prod.fst (q1 { l := List.drop a b, e := e }) = Prod.fst (q1 { l := List.drop a b, e := e })) (And (Prod.fst (q2 { l := List.drop a b, e := e }) = Prod.fst (q2 { l := List.drop a b, e := e })) (And (SV.view (FrO.y o_3) (32 : Nat) (Enc.enc H32) (Prod.fst (frF { l := List.drop a b, e := e })) = nilV (32 : Nat) H32 (SV.view x (32 : Nat) (Enc.enc H32) (List.take (List.length (FmT.acc i)) (FmT.acc i)))) True))) True) (And (And (And (And ((true : Bool) = true) (And ((0 : Nat) = (0 : Nat)) (And (List.length b = List.length b) (cap = cap)))) (And ((↑(AtT.a (FrO.o o_3)) : Int) = (↑(AtT.a (FmT.o i)) : Int)) (And (RS.e (Prod.snd (frF { l := List.drop a b, e := e })) = RS.e (FmT.s i)) True))) (And ((true : Bool) = true) (And (And ((true : Bool) = true) (And (cap = cap) (And (List.map (Enc.enc EB) b = List.map (Enc.enc EB) b) (∀ x_1 : Int, (∀ a_2 : x_1 ∈ b, (∀ s : SV, (∀ a_3 : s ∈ Enc.enc EB x_1, ((SV.isPure s : Bool) = (true))))))))) (And ((true : Bool) = true) True)))) ((true : Bool) = true))))))))) (@Bool.rec (fun _ => Prop) (And (List.length (FmT.acc i) ≤ List.length (FmT.acc i)) (And (List.length (FmT.acc i) ≤ FmT.cp i) (And (FmT.cp i = FmT.cp i) (And (∀ y : List Int, ((true : Bool) = true)) (∀ x : Value, (∃ o_3 : FrO b (Prod.snd (frF { l := List.drop a b, e := e })), (And (And (And (Prod.fst (q1 { l := List.drop a b, e := e }) = Prod.fst (q1 { l := List.drop a b, e := e })) (And (Prod.fst (q2 { l := List.drop a b, e := e }) = Prod.fst (q2 { l := List.drop a b, e := e })) (And (SV.view (FrO.y o_3) (32 : Nat) (Enc.enc H32) (Prod.fst (frF { l := List.drop a b, e := e })) = nilV (32 : Nat) H32 (SV.view x (32 : Nat) (Enc.enc H32) (List.take (List.length (FmT.acc i)) (FmT.acc i)))) True))) True) (And (And (And (And ((true : Bool) = true) (And ((0 : Nat) = (0 : Nat)) (And (List.length b = List.length b) (cap = cap)))) (And ((↑(AtT.a (FrO.o o_3)) : Int) = (↑(AtT.a (FmT.o i)) : Int)) (And (RS.e (Prod.snd (frF { l := List.drop a b, e := e })) = RS.e (FmT.s i)) True))) (And ((true : Bool) = true) (And (And ((true : Bool) = true) (And (cap = cap) (And (List.map (Enc.enc EB) b = List.map (Enc.enc EB) b) (∀ x_1 : Int, (∀ a_2 : x_1 ∈ b, (∀ s : SV, (∀ a_3 : s ∈ Enc.enc EB x_1, ((SV.isPure s : Bool) = (true))))))))) (And ((true : Bool) = true) True)))) ((true : Bool) = true))))))))) (And (And (∃ b_4 : List Int, (And (List.map (Enc.enc EB) b = List.map (Enc.enc EB) b_4) (And (And (List.length b = List.length b_4) (And (cap = cap) (And (List.length b_4 ≤ cap) (And (And ((0 : Int) ≤ (↑(AtT.a (FmT.o i)) : Int)) ((↑(AtT.a (FmT.o i)) : Int) ≤ (↑(List.length b_4) : Int))) (And (List.length b_4 ≤ (140737488351232 : Nat)) (∀ x : Int, (∀ a_2 : x ∈ b_4, (And ((0 : Int) ≤ x) (x < (256 : Int)))))))))) (∀ o_3 : AtT b_4 (Prod.snd (hF { l := List.drop (Int.toNat (↑(AtT.a (FmT.o i)) : Int)) b_4, e := RS.e (FmT.s i) })), (And (And (And (List.length (FmT.acc i) = List.length (FmT.acc i)) (And (FmT.cp i = FmT.cp i) (And ((0 : Nat) + (1 : Nat) ≤ (1 : Nat)) (And ((List.length (FmT.acc i) + (1 : Nat)) * (32 : Nat) ≤ (150000000000000 : Nat)) (∀ cap2 : Nat, (∀ a_2 : List.length (FmT.acc i) + (1 : Nat) ≤ cap2, (And (∃ i' : FmT b (Int.toNat (Prod.fst (q3 { l := List.drop a b, e := e }))) (Prod.snd (q3 { l := List.drop a b, e := e })), (And (And (FmT.n i' < FmT.n i) True) (And (And (And ((true : Bool) = true) ((0 : Nat) = (0 : Nat))) (And (And ((true : Bool) = true) ((0 : Nat) = (0 : Nat))) (And (And ((true : Bool) = true) ((0 : Nat) = (0 : Nat))) (And (Prod.fst (q3 { l := List.drop a b, e := e }) = Prod.fst (q3 { l := List.drop a b, e := e })) (And ((↑(FmT.i i') : Int) = IntKind.wrap IntKind.i64 ((↑(FmT.i i) : Int) + (1 : Int))) True))))) (And (And (And (And ((true : Bool) = true) (And ((0 : Nat) = (0 : Nat)) (And (List.length b = List.length b_4) (cap = cap)))) (And ((↑(AtT.a (FmT.o i')) : Int) = (↑(AtT.a o_3) : Int)) (And (RS.e (FmT.s i') = RS.e (Prod.snd (hF { l := List.drop (Int.toNat (↑(AtT.a (FmT.o i)) : Int)) b_4, e := RS.e (FmT.s i) }))) True))) (And ((true : Bool) = true) (And (And ((true : Bool) = true) (And (cap = cap) (And (List.map (Enc.enc EB) b = List.map (Enc.enc EB) b_4) (∀ x : Int, (∀ a_3 : x ∈ b, (∀ s : SV, (∀ a_4 : s ∈ Enc.enc EB x, ((SV.isPure s : Bool) = (true))))))))) (And ((true : Bool) = true) (And (And ((0 : Int) = (0 : Int)) (And ((0 : Int) = (0 : Int)) (And (Value.slice none (0 : Nat) (0 : Nat) = Value.slice none (0 : Nat) (0 : Nat)) True))) (And ((true : Bool) = true) (And (And (Prod.fst (q1 { l := List.drop a b, e := e }) = Prod.fst (q1 { l := List.drop a b, e := e })) (And (Prod.fst (q2 { l := List.drop a b, e := e }) = Prod.fst (q2 { l := List.drop a b, e := e })) (And (And ((true : Bool) = true) (And (List.length (FmT.acc i') = List.length (FmT.acc i ++ castL (encInts IntKind.u8 (32 : Nat)) H32 (List.take (1 : Nat) (List.drop (0 : Nat) [Enc.of (encInts IntKind.u8 (32 : Nat)) (Prod.fst (hF { l := List.drop (Int.toNat (↑(AtT.a (FmT.o i)) : Int)) b_4, e := RS.e (FmT.s i) }), ())])))) (FmT.cp i' = cap2))) True))) (And ((true : Bool) = true) (And (And ((true : Bool) = true) (And (FmT.cp i' = cap2) (And (List.map (Enc.enc H32) (FmT.acc i') = List.map (Enc.enc H32) (FmT.acc i ++ castL (encInts IntKind.u8 (32 : Nat)) H32 (List.take (1 : Nat) (List.drop (0 : Nat) [Enc.of (encInts IntKind.u8 (32 : Nat)) (Prod.fst (hF { l := List.drop (Int.toNat (↑(AtT.a (FmT.o i)) : Int)) b_4, e := RS.e (FmT.s i) }), ())])))) (∀ x : List Int, (∀ a_3 : x ∈ FmT.acc i', (∀ s : SV, (∀ a_4 : s ∈ Enc.enc H32 x, ((SV.isPure s : Bool) = (true))))))))) (And ((true : Bool) = true) True)))))))))) ((true : Bool) = true))))) True))))))) True) True))))) True) (And (∃ b_4 : List Int, (And (List.map (Enc.enc EB) b = List.map (Enc.enc EB) b_4) (And (And (List.length b = List.length b_4) (And (cap = cap) (And (List.length b_4 ≤ cap) (And (And ((0 : Int) ≤ (↑(AtT.a (FmT.o i)) : Int)) ((↑(AtT.a (FmT.o i)) : Int) ≤ (↑(List.length b_4) : Int))) (And (List.length b_4 ≤ (140737488351232 : Nat)) (∀ x : Int, (∀ a_2 : x ∈ b_4, (And ((0 : Int) ≤ x) (x < (256 : Int)))))))))) (∀ o_3 : AtT b_4 (Prod.snd (hF { l := List.drop (Int.toNat (↑(AtT.a (FmT.o i)) : Int)) b_4, e := RS.e (FmT.s i) })), (And (And (And (List.length (FmT.acc i) = List.length (FmT.acc i)) (And (FmT.cp i = FmT.cp i) (And ((0 : Nat) + (1 : Nat) ≤ (1 : Nat)) (And ((List.length (FmT.acc i) + (1 : Nat)) * (32 : Nat) ≤ (150000000000000 : Nat)) (∀ cap2 : Nat, (∀ a_2 : List.length (FmT.acc i) + (1 : Nat) ≤ cap2, (And (∃ i' : FmT b (Int.toNat (Prod.fst (q3 { l := List.drop a b, e := e }))) (Prod.snd (q3 { l := List.drop a b, e := e })), (And (And (FmT.n i' < FmT.n i) True) (And (And (And ((true : Bool) = true) ((0 : Nat) = (0 : Nat))) (And (And ((true : Bool) = true) ((0 : Nat) = (0 : Nat))) (And (And ((true : Bool) = true) ((0 : Nat) = (0 : Nat))) (And (Prod.fst (q3 { l := List.drop a b, e := e }) = Prod.fst (q3 { l := List.drop a b, e := e })) (And ((↑(FmT.i i') : Int) = IntKind.wrap IntKind.i64 ((↑(FmT.i i) : Int) + (1 : Int))) True))))) (And (And (And (And ((true : Bool) = true) (And ((0 : Nat) = (0 : Nat)) (And (List.length b = List.length b_4) (cap = cap)))) (And ((↑(AtT.a (FmT.o i')) : Int) = (↑(AtT.a o_3) : Int)) (And (RS.e (FmT.s i') = RS.e (Prod.snd (hF { l := List.drop (Int.toNat (↑(AtT.a (FmT.o i)) : Int)) b_4, e := RS.e (FmT.s i) }))) True))) (And ((true : Bool) = true) (And (And ((true : Bool) = true) (And (cap = cap) (And (List.map (Enc.enc EB) b = List.map (Enc.enc EB) b_4) (∀ x : Int, (∀ a_3 : x ∈ b, (∀ s : SV, (∀ a_4 : s ∈ Enc.enc EB x, ((SV.isPure s : Bool) = (true))))))))) (And ((true : Bool) = true) (And (And ((0 : Int) = (0 : Int)) (And ((0 : Int) = (0 : Int)) (And (Value.slice none (0 : Nat) (0 : Nat) = Value.slice none (0 : Nat) (0 : Nat)) True))) (And ((true : Bool) = true) (And (And (Prod.fst (q1 { l := List.drop a b, e := e }) = Prod.fst (q1 { l := List.drop a b, e := e })) (And (Prod.fst (q2 { l := List.drop a b, e := e }) = Prod.fst (q2 { l := List.drop a b, e := e })) (And (And ((true : Bool) = true) (And (List.length (FmT.acc i') = List.length (FmT.acc i ++ castL (encInts IntKind.u8 (32 : Nat)) H32 (List.take (1 : Nat) (List.drop (0 : Nat) [Enc.of (encInts IntKind.u8 (32 : Nat)) (Prod.fst (hF { l := List.drop (Int.toNat (↑(AtT.a (FmT.o i)) : Int)) b_4, e := RS.e (FmT.s i) }), ())])))) (FmT.cp i' = cap2))) True))) (And ((true : Bool) = true) (And (And ((true : Bool) = true) (And (FmT.cp i' = cap2) (And (List.map (Enc.enc H32) (FmT.acc i') = List.map (Enc.enc H32) (FmT.acc i ++ castL (encInts IntKind.u8 (32 : Nat)) H32 (List.take (1 : Nat) (List.drop (0 : Nat) [Enc.of (encInts IntKind.u8 (32 : Nat)) (Prod.fst (hF { l := List.drop (Int.toNat (↑(AtT.a (FmT.o i)) : Int)) b_4, e := RS.e (FmT.s i) }), ())])))) (∀ x : List Int, (∀ a_3 : x ∈ FmT.acc i', (∀ s : SV, (∀ a_4 : s ∈ Enc.enc H32 x, ((SV.isPure s : Bool) = (true))))))))) (And ((true : Bool) = true) True)))))))))) ((true : Bool) = true))))) True))))))) True) True))))) True)) (RS.e (FmT.s i) == (0 : Int))) (decide ((↑(FmT.i i) : Int) < Prod.fst (q3 { l := List.drop a b, e := e }))))))))))))))))))))) (by kernel_rfl) ?_
  have hq1 := cF_bound (m := 65536) (by decide) (s := ⟨b.drop a, e⟩) (hB.drop a)
  refine ⟨b, rfl, ⟨rfl, rfl, hc, ⟨by omega, by omega⟩, ⟨by decide, by decide⟩, hb, hB⟩, fun o => ?_⟩
  obtain ⟨oa, oy, hoh, hoe⟩ := o
  refine ⟨b, rfl, ⟨rfl, rfl, hc, ⟨Int.natCast_nonneg _, Int.ofNat_le.2 hoh⟩, ⟨by decide, by decide⟩, hb, hB⟩, ?_⟩
  have r1 : (⟨List.drop (oa : Int).toNat b, (cF 65536 ⟨List.drop (a : Int).toNat b, e⟩).2.e⟩ : RS) = (q1 ⟨b.drop a, e⟩).2 := AtE hoe
  dsimp only
  rw [r1]
  intro o1
  obtain ⟨oa1, oy1, hoh1, hoe1⟩ := o1
  refine ⟨b, rfl, ⟨rfl, rfl, hc, ⟨Int.natCast_nonneg _, Int.ofNat_le.2 hoh1⟩, ⟨by decide, by decide⟩, hb, hB⟩, ?_⟩
  have r2 : (⟨List.drop (oa1 : Int).toNat b, (cF 65536 (q1 ⟨b.drop a, e⟩).2).2.e⟩ : RS) = (q2 ⟨b.drop a, e⟩).2 := AtE hoe1
  dsimp only
  rw [r2]
  intro o2
  have hB2 : By (q2 ⟨b.drop a, e⟩).2.l := cF_By (cF_By (hB.drop a))
  have hq3 : 0 ≤ (q3 ⟨b.drop a, e⟩).1 ∧ (q3 ⟨b.drop a, e⟩).1 ≤ 32 := cF_bound (by decide) hB2
  have hK : ((q3 ⟨b.drop a, e⟩).1.toNat : Int) = (q3 ⟨b.drop a, e⟩).1 := by omega
  refine ⟨⟨0, (q3 ⟨b.drop a, e⟩).1.toNat, 0, [], (q3 ⟨b.drop a, e⟩).2, o2, Nat.le_refl _, by omega, rfl, rfl, Nat.le_refl _⟩, ?_, ?_⟩
  ·
    repeat' first | exact encB_pure _ | exact H32_pure _ | exact trivial | refine And.intro ?_ ?_ | with_reducible refine bif_dt (by assumption) ?_ | with_reducible refine bif_df (by assumption) ?_ | with_reducible refine bif_dec (fun _ => ?_) (fun _ => ?_) | with_reducible refine bif_not ?_ | with_reducible refine bif_and ?_ | with_reducible refine bif_or ?_ | with_reducible refine bif_t (by assumption) ?_ | with_reducible refine bif_f (by assumption) ?_ | with_reducible refine bif_t (beq_self_eq_true _) ?_ | with_reducible refine bif_b (fun _ => ?_) (fun _ => ?_) | with_reducible refine ⟨_, Eq.refl (List.map _ _), ?_⟩ | (with_reducible refine Exists.intro (by omega) ?_) | rfl | (intro h0; omega) | omega
  rintro ⟨i, n, cp, acc, ⟨sl, se⟩, ⟨ia, iy, hia, hil⟩, hcp, hn, hs, hs2, hl⟩ -
  dsimp only at hs hs2 hl hcp hn hil ⊢
  subst hil
  have stop : (n = 0 ∨ se ≠ 0) → acc = (frF ⟨b.drop a, e⟩).1 ∧ (⟨b.drop ia, se⟩ : RS) = (frF ⟨b.drop a, e⟩).2 := fun h => by
    have e1 : fN n ⟨b.drop ia, se⟩ = ([], ⟨b.drop ia, se⟩) := by
      rcases h with h | h
      · subst h
        rfl
      · exact fN_err h
    rw [e1, List.append_nil] at hs
    rw [e1] at hs2
    exact ⟨hs, hs2⟩
  have done : (n = 0 ∨ se ≠ 0) → ∀ x : Value, ∃ o_3 : FrO b (frF ⟨b.drop a, e⟩).2, o_3.y = x ∧ o_3.o.a = ia := fun h x => by
    obtain ⟨h1, h2⟩ := stop h
    exact ⟨⟨x, ⟨ia, iy, hia, by rw [← h2]⟩⟩, rfl, rfl⟩
  refine bif_dec (fun h1 => ?_) (fun h1 => ?_)
  rotate_left
  · have h0 : n = 0 := by omega
    refine ⟨Nat.le_refl _, hcp, rfl, fun _ => rfl, fun x => ?_⟩
    obtain ⟨o3, k1, k2⟩ := done (Or.inl h0) x
    obtain ⟨k3, k4⟩ := stop (Or.inl h0)
    refine ⟨o3, ?_⟩
    rw [k1, k2, List.take_length, ← k3, ← k4]
    repeat' first | exact encB_pure _ | exact trivial | refine And.intro ?_ ?_ | with_reducible refine bif_dt (by assumption) ?_ | with_reducible refine bif_df (by assumption) ?_ | with_reducible refine bif_dec (fun _ => ?_) (fun _ => ?_) | with_reducible refine bif_not ?_ | with_reducible refine bif_and ?_ | with_reducible refine bif_or ?_ | with_reducible refine bif_t (by assumption) ?_ | with_reducible refine bif_f (by assumption) ?_ | with_reducible refine bif_t (beq_self_eq_true _) ?_ | with_reducible refine bif_b (fun _ => ?_) (fun _ => ?_) | with_reducible refine ⟨_, Eq.refl (List.map _ _), ?_⟩ | (with_reducible refine Exists.intro (by omega) ?_) | rfl | (intro h0; omega) | omega
  refine bif_b (fun h2 => ?_) (fun h2 => ?_)
  rotate_left
  · have h0 : se ≠ 0 := fun h => by rw [h] at h2; cases h2
    refine ⟨Nat.le_refl _, hcp, rfl, fun _ => rfl, fun x => ?_⟩
    obtain ⟨o3, k1, k2⟩ := done (Or.inr h0) x
    obtain ⟨k3, k4⟩ := stop (Or.inr h0)
    refine ⟨o3, ?_⟩
    rw [k1, k2, List.take_length, ← k3, ← k4]
    repeat' first | exact encB_pure _ | exact trivial | refine And.intro ?_ ?_ | with_reducible refine bif_dt (by assumption) ?_ | with_reducible refine bif_df (by assumption) ?_ | with_reducible refine bif_dec (fun _ => ?_) (fun _ => ?_) | with_reducible refine bif_not ?_ | with_reducible refine bif_and ?_ | with_reducible refine bif_or ?_ | with_reducible refine bif_t (by assumption) ?_ | with_reducible refine bif_f (by assumption) ?_ | with_reducible refine bif_t (beq_self_eq_true _) ?_ | with_reducible refine bif_b (fun _ => ?_) (fun _ => ?_) | with_reducible refine ⟨_, Eq.refl (List.map _ _), ?_⟩ | (with_reducible refine Exists.intro (by omega) ?_) | rfl | (intro h0; omega) | omega
  have h2 : se = 0 := eq_of_beq h2
  obtain ⟨m, rfl⟩ : ∃ m, n = m + 1 := ⟨n - 1, by omega⟩
  have hw : IntKind.i64.wrap ((i : Int) + 1) = ((i + 1 : Nat) : Int) := inext (by omega)
  rw [fN_step h2] at hs hs2
  rw [hw]
  have nxt : ∀ (o3 : AtT b (hF ⟨b.drop ia, se⟩).2) (cap2 : Nat), acc.length + 1 ≤ cap2 → ∃ i' : FmT b (q3 ⟨b.drop a, e⟩).1.toNat (q3 ⟨b.drop a, e⟩).2, i'.n = m ∧ i'.i = i + 1 ∧ i'.cp = cap2 ∧ i'.acc = acc ++ [(hF ⟨b.drop ia, se⟩).1] ∧ i'.s = (hF ⟨b.drop ia, se⟩).2 ∧ i'.o.a = o3.a := fun o3 cap2 k2 =>
    ⟨⟨i + 1, m, cap2, acc ++ [(hF ⟨b.drop ia, se⟩).1], (hF ⟨b.drop ia, se⟩).2, o3, by rw [List.length_append]; exact k2, by omega, by rw [List.append_assoc]; exact hs, hs2, by rw [List.length_append, List.length_singleton]; omega⟩, rfl, rfl, rfl, rfl, rfl, rfl⟩
  repeat' (with_reducible refine And.intro ?_ ?_)
  all_goals first
    | exact trivial
    | skip
  all_goals refine ⟨b, rfl, ⟨rfl, rfl, hc, ⟨by omega, by omega⟩, hb, hB⟩, fun o3 => ?_⟩
  all_goals repeat' (with_reducible refine And.intro ?_ ?_)
  all_goals first
    | exact trivial
    | exact rfl
    | decide
    | omega
    | skip
  all_goals intro cap2 k2
  all_goals obtain ⟨i', e1, e2, e3, e4, e5, e6⟩ := nxt o3 cap2 k2
  all_goals repeat' (with_reducible refine And.intro ?_ ?_)
  all_goals first
    | exact trivial
    | skip
  all_goals refine ⟨i', ?_⟩
  all_goals rw [e1, e2, e3, e4, e6, e5, cast1]
  all_goals
    repeat' first | exact encB_pure _ | exact H32_pure _ | exact trivial | refine And.intro ?_ ?_ | with_reducible refine bif_dt (by assumption) ?_ | with_reducible refine bif_df (by assumption) ?_ | with_reducible refine bif_dec (fun _ => ?_) (fun _ => ?_) | with_reducible refine bif_not ?_ | with_reducible refine bif_and ?_ | with_reducible refine bif_or ?_ | with_reducible refine bif_t (by assumption) ?_ | with_reducible refine bif_f (by assumption) ?_ | with_reducible refine bif_t (beq_self_eq_true _) ?_ | with_reducible refine bif_b (fun _ => ?_) (fun _ => ?_) | with_reducible refine ⟨_, Eq.refl (List.map _ _), ?_⟩ | (with_reducible refine Exists.intro (by omega) ?_) | rfl | (intro h0; omega) | omega
theorem fr_row {b : List Int} {len cap cp : Nat} {at_ e : Int} (h : len = b.length ∧ cap = cp ∧ b.length ≤ cp ∧ (0 ≤ at_ ∧ at_ ≤ b.length) ∧ b.length ≤ 140737488351232 ∧ By b) :
    SMem Tryd.prog 80 [.one (.ptr 0 0)] 2 [(0, .cells [.slc 1 1 0 len cap, .v (.int .i64 at_), .v (.int .i64 e)]), (1, .row 1 EB b cp)]
    (fun o : FrO b (frF ⟨b.drop at_.toNat, e⟩).2 => ⟨2, pfM o.y ((q1 ⟨b.drop at_.toNat, e⟩).1, (q2 ⟨b.drop at_.toNat, e⟩).1) (frF ⟨b.drop at_.toNat, e⟩).1, [(0, .cells (drC b cap o.o.a (frF ⟨b.drop at_.toNat, e⟩).2.e)), (1, .row 1 EB b cp)]⟩) := by
  obtain ⟨rfl, rfl, h1, h2, h3, h4⟩ := h
  obtain ⟨a, rfl⟩ : ∃ a : Nat, at_ = (a : Int) := ⟨at_.toNat, by omega⟩
  exact from_spec b cap a e h1 (by omega) h3 h4
def rfrT : MT := fun ms n h K => match ms with
  | [.one (.ptr P0 0)] => (match get h P0 with
    | some (.cells [.slc P1 1 0 len cap, .v (.int .i64 at_), .v (.int .i64 e)]) => (match get h P1 with
    | some (.row we1 wn1 wl1 cp) => bif Nat.beq we1 1 && noDup [P0, P1] then ∃ b : List (Int), wl1.map wn1.enc = b.map (EB).enc ∧ ((len = b.length ∧ cap = cp ∧ b.length ≤ cp ∧ (0 ≤ at_ ∧ at_ ≤ b.length) ∧ b.length ≤ 140737488351232 ∧ By b)) ∧ (∀ o : FrO b (frF ⟨b.drop at_.toNat, e⟩).2, K (n + 0) (pfM o.y ((q1 ⟨b.drop at_.toNat, e⟩).1, (q2 ⟨b.drop at_.toNat, e⟩).1) (frF ⟨b.drop at_.toNat, e⟩).1) ([(P0, .cells [.slc P1 1 0 b.length cap, .v (.int .i64 o.o.a), .v (.int .i64 (frF ⟨b.drop at_.toNat, e⟩).2.e)]), (P1, .row 1 EB b cp)] ++ delL [P0, P1] h)) else False
    | _ => False)
    | _ => False)
  | _ => False
theorem rfr_mono : MMono rfrT := by
  intro ms n h K K' hkk hk
  unfold rfrT at hk ⊢
  split at hk
  · rename_i P0
    split at hk
    · rename_i P1 len cap at_ e hg0
      try simp only [hg0]
      split at hk
      · rename_i we1 wa1 wn1 wl1 cp hg1
        try simp only [hg1]
        obtain ⟨hb, y0, z0, h1, h2⟩ := cond_false_elim hk
        rw [hb]
        exact ⟨y0, z0, h1, fun o => hkk _ _ _ (h2 o)⟩
      · exact hk.elim
    · exact hk.elim
  · exact hk.elim
theorem rfr_ok : MOK Tryd.prog 80 rfrT := by
  refine ⟨?_, rfr_mono⟩
  intro ms n hB K hk
  unfold rfrT at hk
  split at hk
  · rename_i P0
    split at hk
    · rename_i P1 len cap at_ e hg0
      split at hk
      · rename_i we1 wa1 wn1 wl1 cp hg1
        obtain ⟨hb, b, hl1, h, hk2⟩ := cond_false_elim hk
        clear hk
        simp only [Bool.and_eq_true] at hb
        obtain ⟨hc0, hnd⟩ := hb
        have hs0 := Nat.eq_of_beq_eq_true hc0
        subst hs0
        refine SCall.seen ?_ (.cons (.refl _) .nil)
        exact (fr_row (e := e) h).use (fun j => match j with | 0 => P0 | 1 => P1 | _ => 0) rfl rfl ⟨by show (match get hB P0 with | some b0 => Blk.imp _ _ _ b0 | none => False); rw [hg0]; exact ⟨rfl, rfl⟩, rfl, ⟨by show (match get hB P1 with | some b0 => Blk.imp _ _ _ b0 | none => False); rw [hg1]; exact ⟨rfl, rfl, hl1.symm, fun y _ => Enc.pures _ y⟩, rfl, trivial⟩⟩ hnd (fun j hj => by cases j with
            | zero => exact ⟨_, rfl⟩
            | succ j => cases j with
             | zero => exact ⟨_, rfl⟩
             | succ j => omega) (fun o => hk2 o)
      · exact hk.elim
    · exact hk.elim
  · exact hk.elim

def okG (e place count : Int) (n : Nat) : Bool := (e == 0) && rightP place count n
noncomputable def getF (b : List Int) : (Int × Int) × (List (List Int) × Int) :=
  bif okG (dF (frF ⟨b, 0⟩).2) (q1 ⟨b, 0⟩).1 (q2 ⟨b, 0⟩).1 (frF ⟨b, 0⟩).1.length then (((q1 ⟨b, 0⟩).1, (q2 ⟨b, 0⟩).1), ((frF ⟨b, 0⟩).1, 0)) else ((0, 0), ([], 21))
theorem rget_spec (x : Value) {b : List Int} (hb : b.length ≤ 140737488351232) (hB : By b) :
    SMem Tryd.prog 37 [byV x b] 0 [] (fun y : Value => ⟨0, .tup [pfM y (getF b).1 (getF b).2.1, int (getF b).2.2], []⟩) := by
  refine SMem.inf 32 H32 [] SOK.nil [(79, rnwT), (80, rfrT), (81, rdnT), (73, rrightT)] (MSOK.cons rnw_ok (MSOK.cons rfr_ok (MSOK.cons rdn_ok (MSOK.cons rright_ok MSOK.nil)))) tok mixed [] IOK.nil true [] [] Tryd.call37 Tryd.func37 rfl (by rfl) ?_
  refine Eq.mp (α := (∃ b_1 : List Int, (And (List.map (Enc.enc (encInt IntKind.u8)) b = List.map eB b_1) (And (List.length b_1 ≤ (140737488351232 : Nat)) (∀ o : CapT (List.length b_1), (∃ b_2 : List Int, (And (List.map (Enc.enc EB) b_1 = List.map (Enc.enc EB) b_2) (And (And (List.length b_1 = List.length b_2) (And (CapT.cap o = CapT.cap o) (And (List.length b_2 ≤ CapT.cap o) (And (And ((0 : Int) ≤ (0 : Int)) ((0 : Int) ≤ (↑(List.length b_2) : Int))) (And (List.length b_2 ≤ (140737488351232 : Nat)) (∀ x_1 : Int, (∀ a : x_1 ∈ b_2, (And ((0 : Int) ≤ x_1) (x_1 < (256 : Int)))))))))) (∀ o_1 : FrO b_2 (Prod.snd (frF { l := List.drop (Int.toNat (0 : Int)) b_2, e := (0 : Int) })), (∃ b_3 : List Int, (And (List.map (Enc.enc EB) b_2 = List.map (Enc.enc EB) b_3) (And (And (List.length b_2 = List.length b_3) (And (CapT.cap o = CapT.cap o) (And (And ((0 : Int) ≤ (↑(AtT.a (FrO.o o_1)) : Int)) ((↑(AtT.a (FrO.o o_1)) : Int) ≤ (↑(List.length b_3) : Int))) (List.length b_3 ≤ (140737488351232 : Nat))))) (∀ o_2 : Unit, (@Bool.rec (fun _ => Prop) (∃ s : List (List Int), (And (List.map (Enc.enc H32) (Prod.fst (frF { l := List.drop (Int.toNat (0 : Int)) b_2, e := (0 : Int) })) = List.map eH s) (And (List.length s < (9223372036854775808 : Nat)) (∀ o_3 : Unit, (@Bool.rec (fun _ => Prop) (∃ o_4 : Value, (And (And (And (And (Prod.fst (Prod.fst (getF b)) = Prod.fst (q1 { l := List.drop (Int.toNat (0 : Int)) b_2, e := (0 : Int) })) (And (Prod.snd (Prod.fst (getF b)) = Prod.fst (q2 { l := List.drop (Int.toNat (0 : Int)) b_2, e := (0 : Int) })) (And (SV.view o_4 (32 : Nat) (Enc.enc H32) (Prod.fst (Prod.snd (getF b))) = nilV (32 : Nat) H32 (SV.view (FrO.y o_1) (32 : Nat) (Enc.enc H32) (Prod.fst (frF { l := List.drop (Int.toNat (0 : Int)) b_2, e := (0 : Int) })))) True))) (And (Prod.snd (Prod.snd (getF b)) = (0 : Int)) True)) True) (And True ((true : Bool) = true)))) (∃ o_4 : Value, (And (And (And (And (Prod.fst (Prod.fst (getF b)) = (0 : Int)) (And (Prod.snd (Prod.fst (getF b)) = (0 : Int)) (And (SV.view o_4 (32 : Nat) (Enc.enc H32) (Prod.fst (Prod.snd (getF b))) = nilV (32 : Nat) H32 (SV.v (Value.slice none (0 : Nat) (0 : Nat)))) True))) (And (Prod.snd (Prod.snd (getF b)) = (21 : Int)) True)) True) (And True ((true : Bool) = true)))) (!rightP (Prod.fst (q1 { l := List.drop (Int.toNat (0 : Int)) b_2, e := (0 : Int) })) (Prod.fst (q2 { l := List.drop (Int.toNat (0 : Int)) b_2, e := (0 : Int) })) (List.length s))))))) (∃ o_3 : Value, (And (And (And (And (Prod.fst (Prod.fst (getF b)) = (0 : Int)) (And (Prod.snd (Prod.fst (getF b)) = (0 : Int)) (And (SV.view o_3 (32 : Nat) (Enc.enc H32) (Prod.fst (Prod.snd (getF b))) = nilV (32 : Nat) H32 (SV.v (Value.slice none (0 : Nat) (0 : Nat)))) True))) (And (Prod.snd (Prod.snd (getF b)) = (21 : Int)) True)) True) (And True ((true : Bool) = true)))) (dF { l := List.drop (Int.toNat (↑(AtT.a (FrO.o o_1)) : Int)) b_3, e := RS.e (Prod.snd (frF { l := List.drop (Int.toNat (0 : Int)) b_2, e := (0 : Int) })) } != (0 : Int)))))))))))))))) (by kernel_rfl) ?_
  refine ⟨b, rfl, hb, fun o => ⟨b, rfl, ⟨rfl, rfl, o.h, ⟨Int.le_refl _, Int.natCast_nonneg _⟩, hb, hB⟩, fun o1 => ?_⟩⟩
  have e0 : frF ⟨List.drop (Int.toNat 0) b, 0⟩ = frF ⟨b, 0⟩ := rfl
  have ef : (⟨List.drop (o1.o.a : Int).toNat b, (frF ⟨List.drop (Int.toNat 0) b, 0⟩).2.e⟩ : RS) = (frF ⟨b, 0⟩).2 := AtE o1.o.e
  have eq1 : q1 ⟨List.drop (Int.toNat 0) b, 0⟩ = q1 ⟨b, 0⟩ := rfl
  have eq2 : q2 ⟨List.drop (Int.toNat 0) b, 0⟩ = q2 ⟨b, 0⟩ := rfl
  refine ⟨b, rfl, ⟨rfl, rfl, ⟨Int.natCast_nonneg _, Int.ofNat_le.2 o1.o.h⟩, hb⟩, fun _ => ?_⟩
  rw [ef, eq1, eq2]
  obtain ⟨y1, o1⟩ := o1
  dsimp only
  clear ef
  rw [e0] at *
  have hlen : (frF ⟨b, 0⟩).1.length ≤ 32 := Nat.le_trans (fN_len _ _) (by
    have : 0 ≤ (q3 ⟨b, 0⟩).1 ∧ (q3 ⟨b, 0⟩).1 ≤ 32 := cF_bound (by decide) (cF_By (cF_By hB))
    omega)
  have hg : okG (dF (frF ⟨b, 0⟩).2) (q1 ⟨b, 0⟩).1 (q2 ⟨b, 0⟩).1 (frF ⟨b, 0⟩).1.length = ((dF (frF ⟨b, 0⟩).2 == 0) && rightP (q1 ⟨b, 0⟩).1 (q2 ⟨b, 0⟩).1 (frF ⟨b, 0⟩).1.length) := rfl
  unfold getF
  refine bif_b (fun h1 => ?_) (fun h1 => ?_)
  · have h2 : (dF (frF ⟨b, 0⟩).2 == 0) = false := by
      cases h3 : (dF (frF ⟨b, 0⟩).2 == 0)
      · rfl
      · have := eq_of_beq h3
        rw [this] at h1
        cases h1
    rw [hg, h2]
    refine ⟨.slice none 0 0, ?_⟩
    repeat' first | exact trivial | refine And.intro ?_ ?_ | with_reducible refine bif_dt (by assumption) ?_ | with_reducible refine bif_df (by assumption) ?_ | with_reducible refine bif_dec (fun _ => ?_) (fun _ => ?_) | with_reducible refine bif_not ?_ | with_reducible refine bif_and ?_ | with_reducible refine bif_or ?_ | with_reducible refine bif_t (by assumption) ?_ | with_reducible refine bif_f (by assumption) ?_ | with_reducible refine bif_t (beq_self_eq_true _) ?_ | with_reducible refine bif_b (fun _ => ?_) (fun _ => ?_) | with_reducible refine ⟨_, Eq.refl (List.map _ _), ?_⟩ | (with_reducible refine Exists.intro (by omega) ?_) | rfl | (intro h0; omega) | omega
  · have h2 : (dF (frF ⟨b, 0⟩).2 == 0) = true := by
      have : dF (frF ⟨b, 0⟩).2 = 0 := by simpa using h1
      rw [this]
      rfl
    rw [hg, h2]
    refine ⟨_, rfl, by omega, fun _ => ?_⟩
    cases h3 : rightP (q1 ⟨b, 0⟩).1 (q2 ⟨b, 0⟩).1 (frF ⟨b, 0⟩).1.length
    · refine ⟨.slice none 0 0, ?_⟩
      repeat' first | exact trivial | refine And.intro ?_ ?_ | with_reducible refine bif_dt (by assumption) ?_ | with_reducible refine bif_df (by assumption) ?_ | with_reducible refine bif_dec (fun _ => ?_) (fun _ => ?_) | with_reducible refine bif_not ?_ | with_reducible refine bif_and ?_ | with_reducible refine bif_or ?_ | with_reducible refine bif_t (by assumption) ?_ | with_reducible refine bif_f (by assumption) ?_ | with_reducible refine bif_t (beq_self_eq_true _) ?_ | with_reducible refine bif_b (fun _ => ?_) (fun _ => ?_) | with_reducible refine ⟨_, Eq.refl (List.map _ _), ?_⟩ | (with_reducible refine Exists.intro (by omega) ?_) | rfl | (intro h0; omega) | omega
    · refine ⟨y1, ?_⟩
      repeat' first | exact trivial | refine And.intro ?_ ?_ | with_reducible refine bif_dt (by assumption) ?_ | with_reducible refine bif_df (by assumption) ?_ | with_reducible refine bif_dec (fun _ => ?_) (fun _ => ?_) | with_reducible refine bif_not ?_ | with_reducible refine bif_and ?_ | with_reducible refine bif_or ?_ | with_reducible refine bif_t (by assumption) ?_ | with_reducible refine bif_f (by assumption) ?_ | with_reducible refine bif_t (beq_self_eq_true _) ?_ | with_reducible refine bif_b (fun _ => ?_) (fun _ => ?_) | with_reducible refine ⟨_, Eq.refl (List.map _ _), ?_⟩ | (with_reducible refine Exists.intro (by omega) ?_) | rfl | (intro h0; omega) | omega
def rgetT : MT := fun ms n h K => match ms with
  | [.one (.view vx0 ve0 en0 vl0)] => bif Nat.beq ve0 1 && noDup [] then ∃ b : List (Int), vl0.map en0 = b.map eB ∧ ((b.length ≤ 140737488351232 ∧ By b)) ∧ (∀ y : Value, K (n + 0) (.tup [pfM y (getF b).1 (getF b).2.1, int (getF b).2.2]) ([] ++ delL [] h)) else False
  | _ => False
theorem rget_mono : MMono rgetT := by
  intro ms n h K K' hkk hk
  unfold rgetT at hk ⊢
  split at hk
  · rename_i vx0 ve0 va0 en0 vl0
    obtain ⟨hb, y0, z0, h1, h2⟩ := cond_false_elim hk
    rw [hb]
    exact ⟨y0, z0, h1, fun o => hkk _ _ _ (h2 o)⟩
  · exact hk.elim
theorem rget_ok : MOK Tryd.prog 37 rgetT := by
  refine ⟨?_, rget_mono⟩
  intro ms n hB K hk
  unfold rgetT at hk
  split at hk
  · rename_i vx0 ve0 va0 en0 vl0
    obtain ⟨hb, b, he0, h, hk2⟩ := cond_false_elim hk
    clear hk
    simp only [Bool.and_eq_true] at hb
    obtain ⟨hc0, hnd⟩ := hb
    have hs0 := Nat.eq_of_beq_eq_true hc0
    subst hs0
    refine SCall.seen ?_ (.cons (.view he0) .nil)
    exact (rget_spec _ h.1 h.2).use (fun _ => 0) rfl rfl trivial hnd (fun j hj => absurd hj (Nat.not_lt_zero j)) (fun o => hk2 o)
  · exact hk.elim

end Go.Proofs.YtblapbjafbmndaaDoor

namespace Go.Proofs.YtblapbjafbmndaaDoor
open Go Go.Sx Go.Sha
set_option linter.unusedVariables false
set_option linter.unusedSimpArgs false
set_option maxRecDepth 100000
set_option maxHeartbeats 4000000

abbrev bxS (p : Int × Int) (len cap : Nat) : List SV := [.v (.int .i64 p.1), .v (.int .i64 p.2), .nslc 0 32 len cap]
abbrev rgJ (N : Nat) (box : List SV) (r0 : Blk) : List (Nat × Inv) := [(0, ⟨ClT N, fun p => ⟨3, [(0, int p.a), (1, int p.c), (2, .one (.clo 106 [.ptr 2 0]))], [(0, r0), (1, .cells box), (2, .cells [.v (.int .i64 p.n)])]⟩, fun p => p.c, fun _ _ => True⟩)]
theorem rightS_spec (p : Int × Int) (s : List (List Int)) (len cap cp : Nat) (hs : len < 9223372036854775808) (hc : cap = cp ∧ len = s.length) :
    SMem Tryd.prog 68 [.agg [.v (.int .i64 p.1), .v (.int .i64 p.2), .nslc 0 32 len cap]] 1 [(0, .row 32 H32 s cp)] (fun _ : Unit => ⟨1, bool (rightP p.1 p.2 len), [(0, .row 32 H32 s cp)]⟩) := by
  obtain ⟨rfl, rfl⟩ := hc
  refine SMem.inm [] SOK.nil [] MSOK.nil tok mixed [(90, ⟨Tryd.f90, false, (rgJ (climbN p.1.toNat p.2.toNat) (bxS p s.length cap) (.row 32 H32 s cap)), []⟩), (106, ⟨Tryd.f106, false, [], []⟩)] (IOK.cons Tryd.func90 Tryd.call90 (IOK.cons Tryd.func106 Tryd.call106 IOK.nil)) false [] [] Tryd.call68 Tryd.func68 rfl (by rfl) ?_
  refine Eq.mp (α := (@Bool.rec (fun _ => Prop) (@Bool.rec (fun _ => Prop) (@Bool.rec (fun _ => Prop) (∃ i0 : ClT (climbN (Int.toNat (Prod.fst p)) (Int.toNat (Prod.snd p))), (And (And True (And (And ((↑(ClT.a i0) : Int) = Prod.fst p) (And ((↑(ClT.c i0) : Int) = Prod.snd p) (And (And ((106 : Nat) = (106 : Nat)) (And ((true : Bool) = true) True)) True))) (And (And (And ((true : Bool) = true) (And (cap = cap) (And (List.map (Enc.enc H32) s = List.map (Enc.enc H32) s) (∀ x : List Int, (∀ a : x ∈ s, (∀ s_1 : SV, (∀ a_1 : s_1 ∈ Enc.enc H32 x, ((SV.isPure s_1 : Bool) = (true))))))))) (And ((true : Bool) = true) (And (And (Prod.fst p = Prod.fst p) (And (Prod.snd p = Prod.snd p) (And (And ((true : Bool) = true) (And (List.length s = List.length s) (cap = cap))) True))) (And ((true : Bool) = true) (And (And ((↑(ClT.n i0) : Int) = (0 : Int)) True) (And ((true : Bool) = true) True)))))) ((true : Bool) = true)))) (∀ i : ClT (climbN (Int.toNat (Prod.fst p)) (Int.toNat (Prod.snd p))), (∀ a : True, (@Bool.rec (fun _ => Prop) (∃ o : Unit, (And (And ((rightP (Prod.fst p) (Prod.snd p) (List.length s) : Bool) = ((↑(ClT.n i) : Int) == (↑(List.length s) : Int))) True) (And (And (And ((true : Bool) = true) (And (cap = cap) (And (List.map (Enc.enc H32) s = List.map (Enc.enc H32) s) (∀ x : List Int, (∀ a_1 : x ∈ s, (∀ s_1 : SV, (∀ a_2 : s_1 ∈ Enc.enc H32 x, ((SV.isPure s_1 : Bool) = (true))))))))) (And ((true : Bool) = true) True)) ((true : Bool) = true)))) (@Bool.rec (fun _ => Prop) (And ((2 : Int) ≠ (0 : Int)) (And ((2 : Int) ≠ (0 : Int)) (∃ i' : ClT (climbN (Int.toNat (Prod.fst p)) (Int.toNat (Prod.snd p))), (And (And (ClT.c i' < ClT.c i) True) (And (And ((↑(ClT.a i') : Int) = IntKind.wrap IntKind.i64 (Int.tdiv (↑(ClT.a i) : Int) (2 : Int))) (And ((↑(ClT.c i') : Int) = IntKind.wrap IntKind.i64 (Int.tdiv (IntKind.wrap IntKind.i64 ((↑(ClT.c i) : Int) + (1 : Int))) (2 : Int))) (And (And ((106 : Nat) = (106 : Nat)) (And ((true : Bool) = true) True)) True))) (And (And (And ((true : Bool) = true) (And (cap = cap) (And (List.map (Enc.enc H32) s = List.map (Enc.enc H32) s) (∀ x : List Int, (∀ a_1 : x ∈ s, (∀ s_1 : SV, (∀ a_2 : s_1 ∈ Enc.enc H32 x, ((SV.isPure s_1 : Bool) = (true))))))))) (And ((true : Bool) = true) (And (And (Prod.fst p = Prod.fst p) (And (Prod.snd p = Prod.snd p) (And (And ((true : Bool) = true) (And (List.length s = List.length s) (cap = cap))) True))) (And ((true : Bool) = true) (And (And ((↑(ClT.n i') : Int) = (↑(ClT.n i) : Int)) True) (And ((true : Bool) = true) True)))))) ((true : Bool) = true))))))) (And ((2 : Int) ≠ (0 : Int)) (And ((2 : Int) ≠ (0 : Int)) (And ((2 : Int) ≠ (0 : Int)) (∃ i' : ClT (climbN (Int.toNat (Prod.fst p)) (Int.toNat (Prod.snd p))), (And (And (ClT.c i' < ClT.c i) True) (And (And ((↑(ClT.a i') : Int) = IntKind.wrap IntKind.i64 (Int.tdiv (↑(ClT.a i) : Int) (2 : Int))) (And ((↑(ClT.c i') : Int) = IntKind.wrap IntKind.i64 (Int.tdiv (IntKind.wrap IntKind.i64 ((↑(ClT.c i) : Int) + (1 : Int))) (2 : Int))) (And (And ((106 : Nat) = (106 : Nat)) (And ((true : Bool) = true) True)) True))) (And (And (And ((true : Bool) = true) (And (cap = cap) (And (List.map (Enc.enc H32) s = List.map (Enc.enc H32) s) (∀ x : List Int, (∀ a_1 : x ∈ s, (∀ s_1 : SV, (∀ a_2 : s_1 ∈ Enc.enc H32 x, ((SV.isPure s_1 : Bool) = (true))))))))) (And ((true : Bool) = true) (And (And (Prod.fst p = Prod.fst p) (And (Prod.snd p = Prod.snd p) (And (And ((true : Bool) = true) (And (List.length s = List.length s) (cap = cap))) True))) (And ((true : Bool) = true) (And (And ((↑(ClT.n i') : Int) = IntKind.wrap IntKind.i64 ((↑(ClT.n i) : Int) + (1 : Int))) True) (And ((true : Bool) = true) True)))))) ((true : Bool) = true)))))))) (decide (Sx.bits BinOp.xor IntKind.i64 (↑(ClT.a i) : Int) (1 : Int) < (↑(ClT.c i) : Int)))) (decide ((1 : Int) < (↑(ClT.c i) : Int)))))))) (∃ o : Unit, (And (And ((rightP (Prod.fst p) (Prod.snd p) (List.length s) : Bool) = (false)) True) (And (And (And ((true : Bool) = true) (And (cap = cap) (And (List.map (Enc.enc H32) s = List.map (Enc.enc H32) s) (∀ x : List Int, (∀ a : x ∈ s, (∀ s_1 : SV, (∀ a_1 : s_1 ∈ Enc.enc H32 x, ((SV.isPure s_1 : Bool) = (true))))))))) (And ((true : Bool) = true) True)) ((true : Bool) = true)))) (decide (Prod.snd p ≤ Prod.fst p))) (∃ o : Unit, (And (And ((rightP (Prod.fst p) (Prod.snd p) (List.length s) : Bool) = (false)) True) (And (And (And ((true : Bool) = true) (And (cap = cap) (And (List.map (Enc.enc H32) s = List.map (Enc.enc H32) s) (∀ x : List Int, (∀ a : x ∈ s, (∀ s_1 : SV, (∀ a_1 : s_1 ∈ Enc.enc H32 x, ((SV.isPure s_1 : Bool) = (true))))))))) (And ((true : Bool) = true) True)) ((true : Bool) = true)))) (decide (Prod.fst p < (0 : Int)))) (∃ o : Unit, (And (And ((rightP (Prod.fst p) (Prod.snd p) (List.length s) : Bool) = (false)) True) (And (And (And ((true : Bool) = true) (And (cap = cap) (And (List.map (Enc.enc H32) s = List.map (Enc.enc H32) s) (∀ x : List Int, (∀ a : x ∈ s, (∀ s_1 : SV, (∀ a_1 : s_1 ∈ Enc.enc H32 x, ((SV.isPure s_1 : Bool) = (true))))))))) (And ((true : Bool) = true) True)) ((true : Bool) = true)))) (decide ((65536 : Int) < Prod.snd p)))) (by kernel_rfl) ?_
  unfold rightP
  refine bif_dec (fun h1 => ?_) (fun h1 => ?_)
  · rw [decide_eq_false (by omega)]
    refine ⟨(), ?_⟩
    repeat' first | exact H32_pure _ | exact trivial | refine And.intro ?_ ?_ | with_reducible refine bif_dt (by assumption) ?_ | with_reducible refine bif_df (by assumption) ?_ | with_reducible refine bif_dec (fun _ => ?_) (fun _ => ?_) | with_reducible refine bif_not ?_ | with_reducible refine bif_and ?_ | with_reducible refine bif_or ?_ | with_reducible refine bif_t (by assumption) ?_ | with_reducible refine bif_f (by assumption) ?_ | with_reducible refine bif_t (beq_self_eq_true _) ?_ | with_reducible refine bif_b (fun _ => ?_) (fun _ => ?_) | with_reducible refine ⟨_, Eq.refl (List.map _ _), ?_⟩ | (with_reducible refine Exists.intro (by omega) ?_) | rfl | (intro h0; omega) | omega
  refine bif_dec (fun h2 => ?_) (fun h2 => ?_)
  · rw [decide_eq_false (p := 0 ≤ p.1) (by omega), Bool.and_comm]
    refine ⟨(), ?_⟩
    repeat' first | exact H32_pure _ | exact trivial | refine And.intro ?_ ?_ | with_reducible refine bif_dt (by assumption) ?_ | with_reducible refine bif_df (by assumption) ?_ | with_reducible refine bif_dec (fun _ => ?_) (fun _ => ?_) | with_reducible refine bif_not ?_ | with_reducible refine bif_and ?_ | with_reducible refine bif_or ?_ | with_reducible refine bif_t (by assumption) ?_ | with_reducible refine bif_f (by assumption) ?_ | with_reducible refine bif_t (beq_self_eq_true _) ?_ | with_reducible refine bif_b (fun _ => ?_) (fun _ => ?_) | with_reducible refine ⟨_, Eq.refl (List.map _ _), ?_⟩ | (with_reducible refine Exists.intro (by omega) ?_) | rfl | (intro h0; omega) | omega
  refine bif_dec (fun h3 => ?_) (fun h3 => ?_)
  · rw [decide_eq_false (p := p.1 < p.2) (by omega), Bool.false_and, Bool.and_false, Bool.and_false]
    refine ⟨(), ?_⟩
    repeat' first | exact H32_pure _ | exact trivial | refine And.intro ?_ ?_ | with_reducible refine bif_dt (by assumption) ?_ | with_reducible refine bif_df (by assumption) ?_ | with_reducible refine bif_dec (fun _ => ?_) (fun _ => ?_) | with_reducible refine bif_not ?_ | with_reducible refine bif_and ?_ | with_reducible refine bif_or ?_ | with_reducible refine bif_t (by assumption) ?_ | with_reducible refine bif_f (by assumption) ?_ | with_reducible refine bif_t (beq_self_eq_true _) ?_ | with_reducible refine bif_b (fun _ => ?_) (fun _ => ?_) | with_reducible refine ⟨_, Eq.refl (List.map _ _), ?_⟩ | (with_reducible refine Exists.intro (by omega) ?_) | rfl | (intro h0; omega) | omega
  rw [decide_eq_true (p := p.2 ≤ 65536) (by omega), decide_eq_true (p := 0 ≤ p.1) (by omega), decide_eq_true (p := p.1 < p.2) (by omega), Bool.true_and, Bool.true_and, Bool.true_and]
  have hN := climbN_le (a := p.1.toNat) (c := p.2.toNat) (by omega)
  refine ⟨⟨p.1.toNat, p.2.toNat, p.2.toNat, 0, by omega, by omega, Nat.le_refl _, Nat.zero_add _, by omega⟩, ?_, ?_⟩
  · dsimp only
    repeat' first | exact H32_pure _ | exact trivial | refine And.intro ?_ ?_ | with_reducible refine bif_dt (by assumption) ?_ | with_reducible refine bif_df (by assumption) ?_ | with_reducible refine bif_dec (fun _ => ?_) (fun _ => ?_) | with_reducible refine bif_not ?_ | with_reducible refine bif_and ?_ | with_reducible refine bif_or ?_ | with_reducible refine bif_t (by assumption) ?_ | with_reducible refine bif_f (by assumption) ?_ | with_reducible refine bif_t (beq_self_eq_true _) ?_ | with_reducible refine bif_b (fun _ => ?_) (fun _ => ?_) | with_reducible refine ⟨_, Eq.refl (List.map _ _), ?_⟩ | (with_reducible refine Exists.intro (by omega) ?_) | rfl | (intro h0; omega) | omega
  rintro ⟨a, c, f, n, hc, ha, hf, hs1, hN1⟩ -
  dsimp only
  refine bif_dec (fun h4 => ?_) (fun h4 => ?_)
  rotate_left
  · have hn : n = climbN p.1.toNat p.2.toNat := by
      rw [climbF_end (by omega)] at hs1
      simpa using hs1
    rw [show (climbF p.2.toNat p.1.toNat p.2.toNat).length = n from hn.symm]
    have : ((n : Int) == (s.length : Int)) = Nat.beq n s.length := by
      by_cases e : n = s.length
      · rw [e, Nat.beq_refl]; exact beq_self_eq_true _
      · rw [beqF e]
        exact beq_eq_false_iff_ne.2 (fun h => e (by omega))
    rw [this]
    refine ⟨(), ?_⟩
    repeat' first | exact H32_pure _ | exact trivial | refine And.intro ?_ ?_ | with_reducible refine bif_dt (by assumption) ?_ | with_reducible refine bif_df (by assumption) ?_ | with_reducible refine bif_dec (fun _ => ?_) (fun _ => ?_) | with_reducible refine bif_not ?_ | with_reducible refine bif_and ?_ | with_reducible refine bif_or ?_ | with_reducible refine bif_t (by assumption) ?_ | with_reducible refine bif_f (by assumption) ?_ | with_reducible refine bif_t (beq_self_eq_true _) ?_ | with_reducible refine bif_b (fun _ => ?_) (fun _ => ?_) | with_reducible refine ⟨_, Eq.refl (List.map _ _), ?_⟩ | (with_reducible refine Exists.intro (by omega) ?_) | rfl | (intro h0; omega) | omega
  obtain ⟨g, rfl, hg, hstep⟩ := climbF_step (a := a) (show 1 < c by omega) hf
  have hx : Sx.bits .xor .i64 (a : Int) 1 = ((sideN a : Nat) : Int) := xor1 (by omega) (by omega)
  have w3 : IntKind.i64.wrap ((n : Int) + 1) = ((n + 1 : Nat) : Int) := inext (by omega)
  rw [hstep, List.length_append] at hs1
  simp only [hx, half_i a (by omega), halfc c (by omega), w3]
  refine bif_dec (fun h5 => ?_) (fun h5 => ?_)
  · have hb : Nat.blt (sideN a) c = true := Nat.ble_eq_true_of_le (show sideN a + 1 ≤ c by omega)
    rw [hb] at hs1
    have hs1 : n + (1 + (climbF g (a / 2) ((c + 1) / 2)).length) = climbN p.1.toNat p.2.toNat := hs1
    refine ⟨by decide, by decide, by decide, ⟨a / 2, (c + 1) / 2, g, n + 1, by omega, by omega, hg, by omega, hN1⟩, ⟨show (c + 1) / 2 < c by omega, trivial⟩, ?_⟩
    repeat' first | exact H32_pure _ | exact trivial | refine And.intro ?_ ?_ | with_reducible refine bif_dt (by assumption) ?_ | with_reducible refine bif_df (by assumption) ?_ | with_reducible refine bif_dec (fun _ => ?_) (fun _ => ?_) | with_reducible refine bif_not ?_ | with_reducible refine bif_and ?_ | with_reducible refine bif_or ?_ | with_reducible refine bif_t (by assumption) ?_ | with_reducible refine bif_f (by assumption) ?_ | with_reducible refine bif_t (beq_self_eq_true _) ?_ | with_reducible refine bif_b (fun _ => ?_) (fun _ => ?_) | with_reducible refine ⟨_, Eq.refl (List.map _ _), ?_⟩ | (with_reducible refine Exists.intro (by omega) ?_) | rfl | (intro h0; omega) | omega
  · have hb : Nat.blt (sideN a) c = false := bleF (show ¬ sideN a + 1 ≤ c by omega)
    rw [hb] at hs1
    have hs1 : n + (0 + (climbF g (a / 2) ((c + 1) / 2)).length) = climbN p.1.toNat p.2.toNat := hs1
    refine ⟨by decide, by decide, ⟨a / 2, (c + 1) / 2, g, n, by omega, by omega, hg, by omega, hN1⟩, ⟨show (c + 1) / 2 < c by omega, trivial⟩, ?_⟩
    repeat' first | exact H32_pure _ | exact trivial | refine And.intro ?_ ?_ | with_reducible refine bif_dt (by assumption) ?_ | with_reducible refine bif_df (by assumption) ?_ | with_reducible refine bif_dec (fun _ => ?_) (fun _ => ?_) | with_reducible refine bif_not ?_ | with_reducible refine bif_and ?_ | with_reducible refine bif_or ?_ | with_reducible refine bif_t (by assumption) ?_ | with_reducible refine bif_f (by assumption) ?_ | with_reducible refine bif_t (beq_self_eq_true _) ?_ | with_reducible refine bif_b (fun _ => ?_) (fun _ => ?_) | with_reducible refine ⟨_, Eq.refl (List.map _ _), ?_⟩ | (with_reducible refine Exists.intro (by omega) ?_) | rfl | (intro h0; omega) | omega
def rightST : MT := fun ms n h K => match ms with
  | [.agg [.v (.int .i64 p1), .v (.int .i64 p2), .nslc P0 32 len cap]] => (match get h P0 with
    | some (.row we0 wn0 wl0 cp) => bif Nat.beq we0 32 && noDup [P0] then ∃ s : List (List Int), wl0.map wn0.enc = s.map (H32).enc ∧ ((len < 9223372036854775808 ∧ cap = cp ∧ len = s.length)) ∧ (∀ o : Unit, K (n + 0) (bool (rightP p1 p2 len)) ([(P0, .row 32 H32 s cp)] ++ delL [P0] h)) else False
    | _ => False)
  | _ => False
theorem rightS_mono : MMono rightST := by
  intro ms n h K K' hkk hk
  unfold rightST at hk ⊢
  split at hk
  · rename_i p1 p2 P0 len cap
    split at hk
    · rename_i we0 wa0 wn0 wl0 cp hg0
      try simp only [hg0]
      obtain ⟨hb, y0, z0, h1, h2⟩ := cond_false_elim hk
      rw [hb]
      exact ⟨y0, z0, h1, fun o => hkk _ _ _ (h2 o)⟩
    · exact hk.elim
  · exact hk.elim
theorem rightS_ok : MOK Tryd.prog 68 rightST := by
  refine ⟨?_, rightS_mono⟩
  intro ms n hB K hk
  unfold rightST at hk
  split at hk
  · rename_i p1 p2 P0 len cap
    split at hk
    · rename_i we0 wa0 wn0 wl0 cp hg0
      obtain ⟨hb, s, hl0, h, hk2⟩ := cond_false_elim hk
      clear hk
      simp only [Bool.and_eq_true] at hb
      obtain ⟨hc0, hnd⟩ := hb
      have hs0 := Nat.eq_of_beq_eq_true hc0
      subst hs0
      refine SCall.seen ?_ (.cons (.refl _) .nil)
      exact (rightS_spec (p1, p2) s len cap cp h.1 h.2).use (fun j => match j with | 0 => P0 | _ => 0) rfl rfl ⟨by show (match get hB P0 with | some b0 => Blk.imp _ _ _ b0 | none => False); rw [hg0]; exact ⟨rfl, rfl, hl0.symm, fun y _ => Enc.pures _ y⟩, rfl, trivial⟩ hnd (fun j hj => by cases j with
          | zero => exact ⟨_, rfl⟩
          | succ j => omega) (fun o => hk2 o)
    · exact hk.elim
  · exact hk.elim

structure GmT (K : Nat) (s3 : RS) where
  i : Nat
  n : Nat
  cp : Nat
  y : Value
  acc : List (List Int)
  s : RS
  hc : acc.length ≤ cp
  hn : i + n = K
  hs : acc ++ (hashN n s).1 = (hashN K s3).1
  hs2 : (hashN n s).2 = (hashN K s3).2
  hl : acc.length = i
  hle : s.l.length ≤ 140737488351232
  hb : By s.l
def getG (b : List Int) : (Int × Int) × (List (List Int) × Int) :=
  bif okG (dF (grF ⟨b, 0⟩).2) (q1 ⟨b, 0⟩).1 (q2 ⟨b, 0⟩).1 (grF ⟨b, 0⟩).1.length then (((q1 ⟨b, 0⟩).1, (q2 ⟨b, 0⟩).1), ((grF ⟨b, 0⟩).1, 0)) else ((0, 0), ([], 21))
theorem get_spec (x : Value) {b : List Int} (hb : b.length ≤ 140737488351232) (hB : By b) :
    SMem Tryd.prog 36 [byV x b] 0 [] (fun y : Value => ⟨0, .tup [pfM y (getG b).1 (getG b).2.1, int (getG b).2.2], []⟩) := by
  refine SMem.inf 32 H32 [] SOK.nil [(2000075, noT), (75, newRT), (76, rcountRT), (77, rhashRT), (78, rdoneRT), (2000068, noT), (68, rightST)] (MSOK.cons noT_ok (MSOK.cons newR_ok (MSOK.cons rcountR_ok (MSOK.cons rhashR_ok (MSOK.cons rdoneR_ok (MSOK.cons noT_ok (MSOK.cons rightS_ok MSOK.nil))))))) tok mixed [] IOK.nil false [(4, ⟨GmT (q3 ⟨b, 0⟩).1.toNat (q3 ⟨b, 0⟩).2, fun p => ⟨4, [(2, .one (.ptr 0 0)), (4, .one (.ptr 1 0)), (5, .one (.ptr 2 0)), (14, int (q3 ⟨b, 0⟩).1), (15, int p.i)], [(0, .cells p00), (1, .cells (rdC p.y p.s)), (2, .cells [.v (.int .i64 (q1 ⟨b, 0⟩).1), .v (.int .i64 (q2 ⟨b, 0⟩).1), .nslc 3 32 p.acc.length p.cp]), (3, .row 32 H32 p.acc p.cp)]⟩, fun p => p.n, fun _ _ => True⟩)] [] Tryd.call36 Tryd.func36 rfl (by rfl) ?_
  refine Eq.mp (α := (∃ b_1 : List Int, (And (List.map (Enc.enc (encInt IntKind.u8)) b = List.map eB b_1) (And (List.length b_1 ≤ (140737488351232 : Nat)) (∀ y : Value, (∃ y0 : Value, (∃ l : List Int, (And (And (SV.view y (1 : Nat) (Enc.enc EB) b_1 = SV.view y0 (1 : Nat) (Enc.enc EB) l) (And (And ((0 : Int) ≤ (65536 : Int)) ((65536 : Int) ≤ (1000000 : Int))) (And (List.length l ≤ (140737488351232 : Nat)) (∀ x_1 : Int, (∀ a : x_1 ∈ l, (And ((0 : Int) ≤ x_1) (x_1 < (256 : Int)))))))) (∀ o : Value, (∃ y0_1 : Value, (∃ l_1 : List Int, (And (And (SV.view o (1 : Nat) (Enc.enc EB) (RS.l (Prod.snd (cF (65536 : Int) { l := l, e := (0 : Int) }))) = SV.view y0_1 (1 : Nat) (Enc.enc EB) l_1) (And (And ((0 : Int) ≤ (65536 : Int)) ((65536 : Int) ≤ (1000000 : Int))) (And (List.length l_1 ≤ (140737488351232 : Nat)) (∀ x_1 : Int, (∀ a : x_1 ∈ l_1, (And ((0 : Int) ≤ x_1) (x_1 < (256 : Int)))))))) (∀ o_1 : Value, (∃ y0_2 : Value, (∃ l_2 : List Int, (And (And (SV.view o_1 (1 : Nat) (Enc.enc EB) (RS.l (Prod.snd (cF (65536 : Int) { l := l_1, e := RS.e (Prod.snd (cF (65536 : Int) { l := l, e := (0 : Int) })) }))) = SV.view y0_2 (1 : Nat) (Enc.enc EB) l_2) (And (And ((0 : Int) ≤ (32 : Int)) ((32 : Int) ≤ (1000000 : Int))) (And (List.length l_2 ≤ (140737488351232 : Nat)) (∀ x_1 : Int, (∀ a : x_1 ∈ l_2, (And ((0 : Int) ≤ x_1) (x_1 < (256 : Int)))))))) (∀ o_2 : Value, (∃ i0 : GmT (Int.toNat (Prod.fst (q3 { l := b, e := (0 : Int) }))) (Prod.snd (q3 { l := b, e := (0 : Int) })), (And (And True (And (And (And ((true : Bool) = true) ((0 : Nat) = (0 : Nat))) (And (And ((true : Bool) = true) ((0 : Nat) = (0 : Nat))) (And (And ((true : Bool) = true) ((0 : Nat) = (0 : Nat))) (And (Prod.fst (q3 { l := b, e := (0 : Int) }) = Prod.fst (cF (32 : Int) { l := l_2, e := RS.e (Prod.snd (cF (65536 : Int) { l := l_1, e := RS.e (Prod.snd (cF (65536 : Int) { l := l, e := (0 : Int) })) })) })) (And ((↑(GmT.i i0) : Int) = (0 : Int)) True))))) (And (And (And ((0 : Int) = (0 : Int)) (And ((0 : Int) = (0 : Int)) (And (Value.slice none (0 : Nat) (0 : Nat) = Value.slice none (0 : Nat) (0 : Nat)) True))) (And ((true : Bool) = true) (And (And (SV.view (GmT.y i0) (1 : Nat) (Enc.enc EB) (RS.l (GmT.s i0)) = SV.view o_2 (1 : Nat) (Enc.enc EB) (RS.l (Prod.snd (cF (32 : Int) { l := l_2, e := RS.e (Prod.snd (cF (65536 : Int) { l := l_1, e := RS.e (Prod.snd (cF (65536 : Int) { l := l, e := (0 : Int) })) })) })))) (And ((true : Bool) = true) (And (RS.e (GmT.s i0) = RS.e (Prod.snd (cF (32 : Int) { l := l_2, e := RS.e (Prod.snd (cF (65536 : Int) { l := l_1, e := RS.e (Prod.snd (cF (65536 : Int) { l := l, e := (0 : Int) })) })) }))) True))) (And ((true : Bool) = true) (And (And (Prod.fst (q1 { l := b, e := (0 : Int) }) = Prod.fst (cF (65536 : Int) { l := l, e := (0 : Int) })) (And (Prod.fst (q2 { l := b, e := (0 : Int) }) = Prod.fst (cF (65536 : Int) { l := l_1, e := RS.e (Prod.snd (cF (65536 : Int) { l := l, e := (0 : Int) })) })) (And (And ((true : Bool) = true) (And (List.length (GmT.acc i0) = (0 : Nat)) (GmT.cp i0 = (0 : Nat)))) True))) (And ((true : Bool) = true) (And (And ((true : Bool) = true) (And (GmT.cp i0 = (0 : Nat)) (And (List.map (Enc.enc H32) (GmT.acc i0) = List.map (Enc.enc H32) []) (∀ x_1 : List Int, (∀ a : x_1 ∈ GmT.acc i0, (∀ s : SV, (∀ a_1 : s ∈ Enc.enc H32 x_1, ((SV.isPure s : Bool) = (true))))))))) (And ((true : Bool) = true) True)))))))) ((true : Bool) = true)))) (∀ i : GmT (Int.toNat (Prod.fst (q3 { l := b, e := (0 : Int) }))) (Prod.snd (q3 { l := b, e := (0 : Int) })), (∀ a : True, (@Bool.rec (fun _ => Prop) (∃ y0_3 : Value, (∃ l_3 : List Int, (And (And (SV.view (GmT.y i) (1 : Nat) (Enc.enc EB) (RS.l (GmT.s i)) = SV.view y0_3 (1 : Nat) (Enc.enc EB) l_3) True) (∀ o_3 : Unit, (@Bool.rec (fun _ => Prop) (∃ s : List (List Int), (And (List.map (Enc.enc H32) (GmT.acc i) = List.map (Enc.enc H32) s) (And (And (List.length (GmT.acc i) < (9223372036854775808 : Nat)) (And (GmT.cp i = GmT.cp i) (List.length (GmT.acc i) = List.length s))) (∀ o_4 : Unit, (@Bool.rec (fun _ => Prop) (And (List.length (GmT.acc i) ≤ List.length s) (And (List.length (GmT.acc i) ≤ GmT.cp i) (And (GmT.cp i = GmT.cp i) (And (∀ y_1 : List Int, ((true : Bool) = true)) (∀ x_1 : Value, (∃ o_5 : Value, (And (And (And (And (Prod.fst (Prod.fst (getG b)) = Prod.fst (q1 { l := b, e := (0 : Int) })) (And (Prod.snd (Prod.fst (getG b)) = Prod.fst (q2 { l := b, e := (0 : Int) })) (And (SV.view o_5 (32 : Nat) (Enc.enc H32) (Prod.fst (Prod.snd (getG b))) = nilV (32 : Nat) H32 (SV.view x_1 (32 : Nat) (Enc.enc H32) (List.take (List.length (GmT.acc i)) s))) True))) (And (Prod.snd (Prod.snd (getG b)) = (0 : Int)) True)) True) (And True ((true : Bool) = true))))))))) (∃ o_5 : Value, (And (And (And (And (Prod.fst (Prod.fst (getG b)) = (0 : Int)) (And (Prod.snd (Prod.fst (getG b)) = (0 : Int)) (And (SV.view o_5 (32 : Nat) (Enc.enc H32) (Prod.fst (Prod.snd (getG b))) = nilV (32 : Nat) H32 (SV.v (Value.slice none (0 : Nat) (0 : Nat)))) True))) (And (Prod.snd (Prod.snd (getG b)) = (21 : Int)) True)) True) (And True ((true : Bool) = true)))) (!rightP (Prod.fst (q1 { l := b, e := (0 : Int) })) (Prod.fst (q2 { l := b, e := (0 : Int) })) (List.length (GmT.acc i)))))))) (∃ o_4 : Value, (And (And (And (And (Prod.fst (Prod.fst (getG b)) = (0 : Int)) (And (Prod.snd (Prod.fst (getG b)) = (0 : Int)) (And (SV.view o_4 (32 : Nat) (Enc.enc H32) (Prod.fst (Prod.snd (getG b))) = nilV (32 : Nat) H32 (SV.v (Value.slice none (0 : Nat) (0 : Nat)))) True))) (And (Prod.snd (Prod.snd (getG b)) = (21 : Int)) True)) True) (And True ((true : Bool) = true)))) (dF { l := l_3, e := RS.e (GmT.s i) } != (0 : Int))))))) (And (And (∃ y0_3 : Value, (∃ l_3 : List Int, (And (And (SV.view (GmT.y i) (1 : Nat) (Enc.enc EB) (RS.l (GmT.s i)) = SV.view y0_3 (1 : Nat) (Enc.enc EB) l_3) (And (List.length l_3 ≤ (140737488351232 : Nat)) (∀ x_1 : Int, (∀ a_1 : x_1 ∈ l_3, (And ((0 : Int) ≤ x_1) (x_1 < (256 : Int))))))) (∀ o_3 : Value, (And (And (And (List.length (GmT.acc i) = List.length (GmT.acc i)) (And (GmT.cp i = GmT.cp i) (And ((0 : Nat) + (1 : Nat) ≤ (1 : Nat)) (And ((List.length (GmT.acc i) + (1 : Nat)) * (32 : Nat) ≤ (150000000000000 : Nat)) (∀ cap2 : Nat, (∀ a_1 : List.length (GmT.acc i) + (1 : Nat) ≤ cap2, (And (∃ i' : GmT (Int.toNat (Prod.fst (q3 { l := b, e := (0 : Int) }))) (Prod.snd (q3 { l := b, e := (0 : Int) })), (And (And (GmT.n i' < GmT.n i) True) (And (And (And ((true : Bool) = true) ((0 : Nat) = (0 : Nat))) (And (And ((true : Bool) = true) ((0 : Nat) = (0 : Nat))) (And (And ((true : Bool) = true) ((0 : Nat) = (0 : Nat))) (And (Prod.fst (q3 { l := b, e := (0 : Int) }) = Prod.fst (q3 { l := b, e := (0 : Int) })) (And ((↑(GmT.i i') : Int) = IntKind.wrap IntKind.i64 ((↑(GmT.i i) : Int) + (1 : Int))) True))))) (And (And (And ((0 : Int) = (0 : Int)) (And ((0 : Int) = (0 : Int)) (And (Value.slice none (0 : Nat) (0 : Nat) = Value.slice none (0 : Nat) (0 : Nat)) True))) (And ((true : Bool) = true) (And (And (SV.view (GmT.y i') (1 : Nat) (Enc.enc EB) (RS.l (GmT.s i')) = SV.view o_3 (1 : Nat) (Enc.enc EB) (RS.l (Prod.snd (hF { l := l_3, e := RS.e (GmT.s i) })))) (And ((true : Bool) = true) (And (RS.e (GmT.s i') = RS.e (Prod.snd (hF { l := l_3, e := RS.e (GmT.s i) }))) True))) (And ((true : Bool) = true) (And (And (Prod.fst (q1 { l := b, e := (0 : Int) }) = Prod.fst (q1 { l := b, e := (0 : Int) })) (And (Prod.fst (q2 { l := b, e := (0 : Int) }) = Prod.fst (q2 { l := b, e := (0 : Int) })) (And (And ((true : Bool) = true) (And (List.length (GmT.acc i') = List.length (GmT.acc i ++ castL (encInts IntKind.u8 (32 : Nat)) H32 (List.take (1 : Nat) (List.drop (0 : Nat) [Enc.of (encInts IntKind.u8 (32 : Nat)) (Prod.fst (hF { l := l_3, e := RS.e (GmT.s i) }), ())])))) (GmT.cp i' = cap2))) True))) (And ((true : Bool) = true) (And (And ((true : Bool) = true) (And (GmT.cp i' = cap2) (And (List.map (Enc.enc H32) (GmT.acc i') = List.map (Enc.enc H32) (GmT.acc i ++ castL (encInts IntKind.u8 (32 : Nat)) H32 (List.take (1 : Nat) (List.drop (0 : Nat) [Enc.of (encInts IntKind.u8 (32 : Nat)) (Prod.fst (hF { l := l_3, e := RS.e (GmT.s i) }), ())])))) (∀ x_1 : List Int, (∀ a_2 : x_1 ∈ GmT.acc i', (∀ s : SV, (∀ a_3 : s ∈ Enc.enc H32 x_1, ((SV.isPure s : Bool) = (true))))))))) (And ((true : Bool) = true) True)))))))) ((true : Bool) = true))))) True))))))) True) True))))) True) (And (∃ y0_3 : Value, (∃ l_3 : List Int, (And (And (SV.view (GmT.y i) (1 : Nat) (Enc.enc EB) (RS.l (GmT.s i)) = SV.view y0_3 (1 : Nat) (Enc.enc EB) l_3) (And (List.length l_3 ≤ (140737488351232 : Nat)) (∀ x_1 : Int, (∀ a_1 : x_1 ∈ l_3, (And ((0 : Int) ≤ x_1) (x_1 < (256 : Int))))))) (∀ o_3 : Value, (And (And (And (List.length (GmT.acc i) = List.length (GmT.acc i)) (And (GmT.cp i = GmT.cp i) (And ((0 : Nat) + (1 : Nat) ≤ (1 : Nat)) (And ((List.length (GmT.acc i) + (1 : Nat)) * (32 : Nat) ≤ (150000000000000 : Nat)) (∀ cap2 : Nat, (∀ a_1 : List.length (GmT.acc i) + (1 : Nat) ≤ cap2, (And (∃ i' : GmT (Int.toNat (Prod.fst (q3 { l := b, e := (0 : Int) }))) (Prod.snd (q3 { l := b, e := (0 : Int) })), (And (And (GmT.n i' < GmT.n i) True) (And (And (And ((true : Bool) = true) ((0 : Nat) = (0 : Nat))) (And (And ((true : Bool) = true) ((0 : Nat) = (0 : Nat))) (And (And ((true : Bool) = true) ((0 : Nat) = (0 : Nat))) (And (Prod.fst (q3 { l := b, e := (0 : Int) }) = Prod.fst (q3 { l := b, e := (0 : Int) })) (And ((↑(GmT.i i') : Int) = IntKind.wrap IntKind.i64 ((↑(GmT.i i) : Int) + (1 : Int))) True))))) (And (And (And ((0 : Int) = (0 : Int)) (And ((0 : Int) = (0 : Int)) (And (Value.slice none (0 : Nat) (0 : Nat) = Value.slice none (0 : Nat) (0 : Nat)) True))) (And ((true : Bool) = true) (And (And (SV.view (GmT.y i') (1 : Nat) (Enc.enc EB) (RS.l (GmT.s i')) = SV.view o_3 (1 : Nat) (Enc.enc EB) (RS.l (Prod.snd (hF { l := l_3, e := RS.e (GmT.s i) })))) (And ((true : Bool) = true) (And (RS.e (GmT.s i') = RS.e (Prod.snd (hF { l := l_3, e := RS.e (GmT.s i) }))) True))) (And ((true : Bool) = true) (And (And (Prod.fst (q1 { l := b, e := (0 : Int) }) = Prod.fst (q1 { l := b, e := (0 : Int) })) (And (Prod.fst (q2 { l := b, e := (0 : Int) }) = Prod.fst (q2 { l := b, e := (0 : Int) })) (And (And ((true : Bool) = true) (And (List.length (GmT.acc i') = List.length (GmT.acc i ++ castL (encInts IntKind.u8 (32 : Nat)) H32 (List.take (1 : Nat) (List.drop (0 : Nat) [Enc.of (encInts IntKind.u8 (32 : Nat)) (Prod.fst (hF { l := l_3, e := RS.e (GmT.s i) }), ())])))) (GmT.cp i' = cap2))) True))) (And ((true : Bool) = true) (And (And ((true : Bool) = true) (And (GmT.cp i' = cap2) (And (List.map (Enc.enc H32) (GmT.acc i') = List.map (Enc.enc H32) (GmT.acc i ++ castL (encInts IntKind.u8 (32 : Nat)) H32 (List.take (1 : Nat) (List.drop (0 : Nat) [Enc.of (encInts IntKind.u8 (32 : Nat)) (Prod.fst (hF { l := l_3, e := RS.e (GmT.s i) }), ())])))) (∀ x_1 : List Int, (∀ a_2 : x_1 ∈ GmT.acc i', (∀ s : SV, (∀ a_3 : s ∈ Enc.enc H32 x_1, ((SV.isPure s : Bool) = (true))))))))) (And ((true : Bool) = true) True)))))))) ((true : Bool) = true))))) True))))))) True) True))))) True)) (decide ((↑(GmT.i i) : Int) < Prod.fst (q3 { l := b, e := (0 : Int) }))))))))))))))))))))))))) (by kernel_rfl) ?_
  refine ⟨b, rfl, hb, fun y0 => ?_⟩
  have hB1 : By (q1 ⟨b, 0⟩).2.l := cF_By hB
  have hB2 : By (q2 ⟨b, 0⟩).2.l := cF_By hB1
  have hB3 : By (q3 ⟨b, 0⟩).2.l := cF_By hB2
  have hl1 : (q1 ⟨b, 0⟩).2.l.length ≤ 140737488351232 := Nat.le_trans (cF_le _ _) hb
  have hl2 : (q2 ⟨b, 0⟩).2.l.length ≤ 140737488351232 := Nat.le_trans (cF_le _ _) hl1
  have hl3 : (q3 ⟨b, 0⟩).2.l.length ≤ 140737488351232 := Nat.le_trans (cF_le _ _) hl2
  have hq3 : 0 ≤ (q3 ⟨b, 0⟩).1 ∧ (q3 ⟨b, 0⟩).1 ≤ 32 := cF_bound (by decide) hB2
  have hK : ((q3 ⟨b, 0⟩).1.toNat : Int) = (q3 ⟨b, 0⟩).1 := by omega
  refine ⟨y0, b, ⟨rfl, ⟨by decide, by decide⟩, hb, hB⟩, fun o => ?_⟩
  refine ⟨o, (q1 ⟨b, 0⟩).2.l, ⟨rfl, ⟨by decide, by decide⟩, hl1, hB1⟩, fun o1 => ?_⟩
  refine ⟨o1, (q2 ⟨b, 0⟩).2.l, ⟨rfl, ⟨by decide, by decide⟩, hl2, hB2⟩, fun o2 => ?_⟩
  refine ⟨⟨0, (q3 ⟨b, 0⟩).1.toNat, 0, o2, [], (q3 ⟨b, 0⟩).2, Nat.le_refl _, by omega, rfl, rfl, rfl, hl3, hB3⟩, ?_, ?_⟩
  ·
    repeat' first | exact H32_pure _ | exact encB_pure _ | exact trivial | refine And.intro ?_ ?_ | with_reducible refine bif_dt (by assumption) ?_ | with_reducible refine bif_df (by assumption) ?_ | with_reducible refine bif_dec (fun _ => ?_) (fun _ => ?_) | with_reducible refine bif_not ?_ | with_reducible refine bif_and ?_ | with_reducible refine bif_or ?_ | with_reducible refine bif_t (by assumption) ?_ | with_reducible refine bif_f (by assumption) ?_ | with_reducible refine bif_t (beq_self_eq_true _) ?_ | with_reducible refine bif_b (fun _ => ?_) (fun _ => ?_) | with_reducible refine ⟨_, Eq.refl (List.map _ _), ?_⟩ | (with_reducible refine Exists.intro (by omega) ?_) | rfl | (intro h0; omega) | omega
  rintro ⟨i, n, cp, iy, acc, ⟨sl, se⟩, hcp, hn, hs, hs2, hl, hle, hbs⟩ -
  dsimp only at hs hs2 hl hcp hn hle hbs ⊢
  refine bif_dec (fun h1 => ?_) (fun h1 => ?_)
  rotate_left
  · have h0 : n = 0 := by omega
    subst h0
    have e1 : acc = (grF ⟨b, 0⟩).1 := (List.append_nil acc).symm.trans hs
    have e2 : (⟨sl, se⟩ : RS) = (grF ⟨b, 0⟩).2 := hs2
    refine ⟨iy, sl, ⟨rfl, trivial⟩, fun _ => ?_⟩
    rw [e2]
    have hg : ∀ n, okG (dF (grF ⟨b, 0⟩).2) (q1 ⟨b, 0⟩).1 (q2 ⟨b, 0⟩).1 n = ((dF (grF ⟨b, 0⟩).2 == 0) && rightP (q1 ⟨b, 0⟩).1 (q2 ⟨b, 0⟩).1 n) := fun _ => rfl
    unfold getG
    refine bif_b (fun h1 => ?_) (fun h1 => ?_)
    · have h2 : (dF (grF ⟨b, 0⟩).2 == 0) = false := by
        cases h3 : (dF (grF ⟨b, 0⟩).2 == 0)
        · rfl
        · have := eq_of_beq h3
          rw [this] at h1
          cases h1
      rw [hg, h2]
      refine ⟨.slice none 0 0, ?_⟩
      repeat' first | exact H32_pure _ | exact encB_pure _ | exact trivial | refine And.intro ?_ ?_ | with_reducible refine bif_dt (by assumption) ?_ | with_reducible refine bif_df (by assumption) ?_ | with_reducible refine bif_dec (fun _ => ?_) (fun _ => ?_) | with_reducible refine bif_not ?_ | with_reducible refine bif_and ?_ | with_reducible refine bif_or ?_ | with_reducible refine bif_t (by assumption) ?_ | with_reducible refine bif_f (by assumption) ?_ | with_reducible refine bif_t (beq_self_eq_true _) ?_ | with_reducible refine bif_b (fun _ => ?_) (fun _ => ?_) | with_reducible refine ⟨_, Eq.refl (List.map _ _), ?_⟩ | (with_reducible refine Exists.intro (by omega) ?_) | rfl | (intro h0; omega) | omega
    · have h2 : (dF (grF ⟨b, 0⟩).2 == 0) = true := by
        have : dF (grF ⟨b, 0⟩).2 = 0 := by simpa using h1
        rw [this]
        rfl
      rw [hg, h2]
      refine ⟨acc, rfl, ⟨by omega, rfl, rfl⟩, fun _ => ?_⟩
      rw [e1]
      cases h3 : rightP (q1 ⟨b, 0⟩).1 (q2 ⟨b, 0⟩).1 (grF ⟨b, 0⟩).1.length
      · refine ⟨.slice none 0 0, ?_⟩
        repeat' first | exact H32_pure _ | exact encB_pure _ | exact trivial | refine And.intro ?_ ?_ | with_reducible refine bif_dt (by assumption) ?_ | with_reducible refine bif_df (by assumption) ?_ | with_reducible refine bif_dec (fun _ => ?_) (fun _ => ?_) | with_reducible refine bif_not ?_ | with_reducible refine bif_and ?_ | with_reducible refine bif_or ?_ | with_reducible refine bif_t (by assumption) ?_ | with_reducible refine bif_f (by assumption) ?_ | with_reducible refine bif_t (beq_self_eq_true _) ?_ | with_reducible refine bif_b (fun _ => ?_) (fun _ => ?_) | with_reducible refine ⟨_, Eq.refl (List.map _ _), ?_⟩ | (with_reducible refine Exists.intro (by omega) ?_) | rfl | (intro h0; omega) | omega
      · refine ⟨Nat.le_refl _, by rw [← e1]; exact hcp, rfl, fun _ => rfl, fun y => ⟨y, ?_⟩⟩
        rw [List.take_length]
        repeat' first | exact H32_pure _ | exact encB_pure _ | exact trivial | refine And.intro ?_ ?_ | with_reducible refine bif_dt (by assumption) ?_ | with_reducible refine bif_df (by assumption) ?_ | with_reducible refine bif_dec (fun _ => ?_) (fun _ => ?_) | with_reducible refine bif_not ?_ | with_reducible refine bif_and ?_ | with_reducible refine bif_or ?_ | with_reducible refine bif_t (by assumption) ?_ | with_reducible refine bif_f (by assumption) ?_ | with_reducible refine bif_t (beq_self_eq_true _) ?_ | with_reducible refine bif_b (fun _ => ?_) (fun _ => ?_) | with_reducible refine ⟨_, Eq.refl (List.map _ _), ?_⟩ | (with_reducible refine Exists.intro (by omega) ?_) | rfl | (intro h0; omega) | omega
  obtain ⟨m, rfl⟩ : ∃ m, n = m + 1 := ⟨n - 1, by omega⟩
  have hw : IntKind.i64.wrap ((i : Int) + 1) = ((i + 1 : Nat) : Int) := inext (by omega)
  have hb2 : By (hF ⟨sl, se⟩).2.l := (takeF_By hbs 32).2
  have hle2 : (hF ⟨sl, se⟩).2.l.length ≤ 140737488351232 := Nat.le_trans (takeF_le 32 ⟨sl, se⟩) hle
  have nxt : ∀ (y : Value) (cap2 : Nat), acc.length + 1 ≤ cap2 → ∃ i' : GmT (q3 ⟨b, 0⟩).1.toNat (q3 ⟨b, 0⟩).2, i'.n = m ∧ i'.i = i + 1 ∧ i'.cp = cap2 ∧ i'.acc = acc ++ [(hF ⟨sl, se⟩).1] ∧ i'.s = (hF ⟨sl, se⟩).2 ∧ i'.y = y := fun y cap2 k2 =>
    ⟨⟨i + 1, m, cap2, y, acc ++ [(hF ⟨sl, se⟩).1], (hF ⟨sl, se⟩).2, by rw [List.length_append]; exact k2, by omega, by rw [List.append_assoc]; exact hs, hs2, by rw [List.length_append, List.length_singleton, hl], hle2, hb2⟩, rfl, rfl, rfl, rfl, rfl, rfl⟩
  rw [hw]
  repeat' (with_reducible refine And.intro ?_ ?_)
  all_goals first
    | exact trivial
    | skip
  all_goals refine ⟨iy, sl, ⟨rfl, hle, hbs⟩, fun o3 => ?_⟩
  all_goals repeat' (with_reducible refine And.intro ?_ ?_)
  all_goals first
    | exact trivial
    | exact rfl
    | decide
    | omega
    | skip
  all_goals intro cap2 k2
  all_goals obtain ⟨i', e1, e2, e3, e4, e5, e6⟩ := nxt o3 cap2 k2
  all_goals repeat' (with_reducible refine And.intro ?_ ?_)
  all_goals first
    | exact trivial
    | skip
  all_goals refine ⟨i', ?_⟩
  all_goals rw [e1, e2, e3, e4, e6, e5, cast1]
  all_goals
    repeat' first | exact encB_pure _ | exact H32_pure _ | exact trivial | refine And.intro ?_ ?_ | with_reducible refine bif_dt (by assumption) ?_ | with_reducible refine bif_df (by assumption) ?_ | with_reducible refine bif_dec (fun _ => ?_) (fun _ => ?_) | with_reducible refine bif_not ?_ | with_reducible refine bif_and ?_ | with_reducible refine bif_or ?_ | with_reducible refine bif_t (by assumption) ?_ | with_reducible refine bif_f (by assumption) ?_ | with_reducible refine bif_t (beq_self_eq_true _) ?_ | with_reducible refine bif_b (fun _ => ?_) (fun _ => ?_) | with_reducible refine ⟨_, Eq.refl (List.map _ _), ?_⟩ | (with_reducible refine Exists.intro (by omega) ?_) | rfl | (intro h0; omega) | omega
theorem getS_spec {bb : List Int} {len cap : Nat} (h0 : bb.length ≤ 150000000000000) (h1 : len ≤ bb.length) (h2 : len ≤ cap) (h3 : 0 < cap) (hb : (bb.take len).length ≤ 140737488351232) (hB : By (bb.take len)) :
    SMem Tryd.prog 36 [.one (.slc 0 1 0 len cap)] 1 [(0, .row 1 EB bb cap)] (fun y : Value => ⟨1, .tup [pfM y (getG (bb.take len)).1 (getG (bb.take len)).2.1, int (getG (bb.take len)).2.2], [(0, .row 1 EB bb cap)]⟩) := by
  refine SMem.inf 32 H32 [] SOK.nil [(2000075, noT), (75, newRT), (76, rcountRT), (77, rhashRT), (78, rdoneRT), (2000068, noT), (68, rightST)] (MSOK.cons noT_ok (MSOK.cons newR_ok (MSOK.cons rcountR_ok (MSOK.cons rhashR_ok (MSOK.cons rdoneR_ok (MSOK.cons noT_ok (MSOK.cons rightS_ok MSOK.nil))))))) tok mixed [] IOK.nil false [(4, ⟨GmT (q3 ⟨(bb.take len), 0⟩).1.toNat (q3 ⟨(bb.take len), 0⟩).2, fun p => ⟨5, [(2, .one (.ptr 1 0)), (4, .one (.ptr 2 0)), (5, .one (.ptr 3 0)), (14, int (q3 ⟨(bb.take len), 0⟩).1), (15, int p.i)], [(0, .row 1 EB bb cap), (1, .cells p00), (2, .cells (rdC p.y p.s)), (3, .cells [.v (.int .i64 (q1 ⟨(bb.take len), 0⟩).1), .v (.int .i64 (q2 ⟨(bb.take len), 0⟩).1), .nslc 4 32 p.acc.length p.cp]), (4, .row 32 H32 p.acc p.cp)]⟩, fun p => p.n, fun _ _ => True⟩)] [] Tryd.call36 Tryd.func36 rfl (by rfl) ?_
  refine Eq.mp (α := (∃ b : List Int, (And (List.map (Enc.enc EB) bb = List.map (Enc.enc EB) b) (And (And (cap = cap) (And (List.length b ≤ (150000000000000 : Nat)) (And (len ≤ List.length b) (And (len ≤ cap) ((0 : Nat) < cap))))) (∀ y : Value, (∃ y0 : Value, (∃ l : List Int, (And (And (SV.view y (1 : Nat) (Enc.enc EB) (List.take len b) = SV.view y0 (1 : Nat) (Enc.enc EB) l) (And (And ((0 : Int) ≤ (65536 : Int)) ((65536 : Int) ≤ (1000000 : Int))) (And (List.length l ≤ (140737488351232 : Nat)) (∀ x : Int, (∀ a : x ∈ l, (And ((0 : Int) ≤ x) (x < (256 : Int)))))))) (∀ o : Value, (∃ y0_1 : Value, (∃ l_1 : List Int, (And (And (SV.view o (1 : Nat) (Enc.enc EB) (RS.l (Prod.snd (cF (65536 : Int) { l := l, e := (0 : Int) }))) = SV.view y0_1 (1 : Nat) (Enc.enc EB) l_1) (And (And ((0 : Int) ≤ (65536 : Int)) ((65536 : Int) ≤ (1000000 : Int))) (And (List.length l_1 ≤ (140737488351232 : Nat)) (∀ x : Int, (∀ a : x ∈ l_1, (And ((0 : Int) ≤ x) (x < (256 : Int)))))))) (∀ o_1 : Value, (∃ y0_2 : Value, (∃ l_2 : List Int, (And (And (SV.view o_1 (1 : Nat) (Enc.enc EB) (RS.l (Prod.snd (cF (65536 : Int) { l := l_1, e := RS.e (Prod.snd (cF (65536 : Int) { l := l, e := (0 : Int) })) }))) = SV.view y0_2 (1 : Nat) (Enc.enc EB) l_2) (And (And ((0 : Int) ≤ (32 : Int)) ((32 : Int) ≤ (1000000 : Int))) (And (List.length l_2 ≤ (140737488351232 : Nat)) (∀ x : Int, (∀ a : x ∈ l_2, (And ((0 : Int) ≤ x) (x < (256 : Int)))))))) (∀ o_2 : Value, (∃ i0 : GmT (Int.toNat (Prod.fst (q3 { l := List.take len bb, e := (0 : Int) }))) (Prod.snd (q3 { l := List.take len bb, e := (0 : Int) })), (And (And True (And (And (And ((true : Bool) = true) ((0 : Nat) = (0 : Nat))) (And (And ((true : Bool) = true) ((0 : Nat) = (0 : Nat))) (And (And ((true : Bool) = true) ((0 : Nat) = (0 : Nat))) (And (Prod.fst (q3 { l := List.take len bb, e := (0 : Int) }) = Prod.fst (cF (32 : Int) { l := l_2, e := RS.e (Prod.snd (cF (65536 : Int) { l := l_1, e := RS.e (Prod.snd (cF (65536 : Int) { l := l, e := (0 : Int) })) })) })) (And ((↑(GmT.i i0) : Int) = (0 : Int)) True))))) (And (And (And ((true : Bool) = true) (And (cap = cap) (And (List.map (Enc.enc EB) bb = List.map (Enc.enc EB) b) (∀ x : Int, (∀ a : x ∈ bb, (∀ s : SV, (∀ a_1 : s ∈ Enc.enc EB x, ((SV.isPure s : Bool) = (true))))))))) (And ((true : Bool) = true) (And (And ((0 : Int) = (0 : Int)) (And ((0 : Int) = (0 : Int)) (And (Value.slice none (0 : Nat) (0 : Nat) = Value.slice none (0 : Nat) (0 : Nat)) True))) (And ((true : Bool) = true) (And (And (SV.view (GmT.y i0) (1 : Nat) (Enc.enc EB) (RS.l (GmT.s i0)) = SV.view o_2 (1 : Nat) (Enc.enc EB) (RS.l (Prod.snd (cF (32 : Int) { l := l_2, e := RS.e (Prod.snd (cF (65536 : Int) { l := l_1, e := RS.e (Prod.snd (cF (65536 : Int) { l := l, e := (0 : Int) })) })) })))) (And ((true : Bool) = true) (And (RS.e (GmT.s i0) = RS.e (Prod.snd (cF (32 : Int) { l := l_2, e := RS.e (Prod.snd (cF (65536 : Int) { l := l_1, e := RS.e (Prod.snd (cF (65536 : Int) { l := l, e := (0 : Int) })) })) }))) True))) (And ((true : Bool) = true) (And (And (Prod.fst (q1 { l := List.take len bb, e := (0 : Int) }) = Prod.fst (cF (65536 : Int) { l := l, e := (0 : Int) })) (And (Prod.fst (q2 { l := List.take len bb, e := (0 : Int) }) = Prod.fst (cF (65536 : Int) { l := l_1, e := RS.e (Prod.snd (cF (65536 : Int) { l := l, e := (0 : Int) })) })) (And (And ((true : Bool) = true) (And (List.length (GmT.acc i0) = (0 : Nat)) (GmT.cp i0 = (0 : Nat)))) True))) (And ((true : Bool) = true) (And (And ((true : Bool) = true) (And (GmT.cp i0 = (0 : Nat)) (And (List.map (Enc.enc H32) (GmT.acc i0) = List.map (Enc.enc H32) []) (∀ x : List Int, (∀ a : x ∈ GmT.acc i0, (∀ s : SV, (∀ a_1 : s ∈ Enc.enc H32 x, ((SV.isPure s : Bool) = (true))))))))) (And ((true : Bool) = true) True)))))))))) ((true : Bool) = true)))) (∀ i : GmT (Int.toNat (Prod.fst (q3 { l := List.take len bb, e := (0 : Int) }))) (Prod.snd (q3 { l := List.take len bb, e := (0 : Int) })), (∀ a : True, (@Bool.rec (fun _ => Prop) (∃ y0_3 : Value, (∃ l_3 : List Int, (And (And (SV.view (GmT.y i) (1 : Nat) (Enc.enc EB) (RS.l (GmT.s i)) = SV.view y0_3 (1 : Nat) (Enc.enc EB) l_3) True) (∀ o_3 : Unit, (@Bool.rec (fun _ => Prop) (∃ s : List (List Int), (And (List.map (Enc.enc H32) (GmT.acc i) = List.map (Enc.enc H32) s) (And (And (List.length (GmT.acc i) < (9223372036854775808 : Nat)) (And (GmT.cp i = GmT.cp i) (List.length (GmT.acc i) = List.length s))) (∀ o_4 : Unit, (@Bool.rec (fun _ => Prop) (And (List.length (GmT.acc i) ≤ List.length s) (And (List.length (GmT.acc i) ≤ GmT.cp i) (And (GmT.cp i = GmT.cp i) (And (∀ y_1 : List Int, ((true : Bool) = true)) (∀ x : Value, (∃ o_5 : Value, (And (And (And (And (Prod.fst (Prod.fst (getG (List.take len bb))) = Prod.fst (q1 { l := List.take len bb, e := (0 : Int) })) (And (Prod.snd (Prod.fst (getG (List.take len bb))) = Prod.fst (q2 { l := List.take len bb, e := (0 : Int) })) (And (SV.view o_5 (32 : Nat) (Enc.enc H32) (Prod.fst (Prod.snd (getG (List.take len bb)))) = nilV (32 : Nat) H32 (SV.view x (32 : Nat) (Enc.enc H32) (List.take (List.length (GmT.acc i)) s))) True))) (And (Prod.snd (Prod.snd (getG (List.take len bb))) = (0 : Int)) True)) True) (And (And (And ((true : Bool) = true) (And (cap = cap) (And (List.map (Enc.enc EB) bb = List.map (Enc.enc EB) bb) (∀ x_1 : Int, (∀ a_1 : x_1 ∈ bb, (∀ s_1 : SV, (∀ a_2 : s_1 ∈ Enc.enc EB x_1, ((SV.isPure s_1 : Bool) = (true))))))))) (And ((true : Bool) = true) True)) ((true : Bool) = true))))))))) (∃ o_5 : Value, (And (And (And (And (Prod.fst (Prod.fst (getG (List.take len bb))) = (0 : Int)) (And (Prod.snd (Prod.fst (getG (List.take len bb))) = (0 : Int)) (And (SV.view o_5 (32 : Nat) (Enc.enc H32) (Prod.fst (Prod.snd (getG (List.take len bb)))) = nilV (32 : Nat) H32 (SV.v (Value.slice none (0 : Nat) (0 : Nat)))) True))) (And (Prod.snd (Prod.snd (getG (List.take len bb))) = (21 : Int)) True)) True) (And (And (And ((true : Bool) = true) (And (cap = cap) (And (List.map (Enc.enc EB) bb = List.map (Enc.enc EB) bb) (∀ x : Int, (∀ a_1 : x ∈ bb, (∀ s_1 : SV, (∀ a_2 : s_1 ∈ Enc.enc EB x, ((SV.isPure s_1 : Bool) = (true))))))))) (And ((true : Bool) = true) True)) ((true : Bool) = true)))) (!rightP (Prod.fst (q1 { l := List.take len bb, e := (0 : Int) })) (Prod.fst (q2 { l := List.take len bb, e := (0 : Int) })) (List.length (GmT.acc i)))))))) (∃ o_4 : Value, (And (And (And (And (Prod.fst (Prod.fst (getG (List.take len bb))) = (0 : Int)) (And (Prod.snd (Prod.fst (getG (List.take len bb))) = (0 : Int)) (And (SV.view o_4 (32 : Nat) (Enc.enc H32) (Prod.fst (Prod.snd (getG (List.take len bb)))) = nilV (32 : Nat) H32 (SV.v (Value.slice none (0 : Nat) (0 : Nat)))) True))) (And (Prod.snd (Prod.snd (getG (List.take len bb))) = (21 : Int)) True)) True) (And (And (And ((true : Bool) = true) (And (cap = cap) (And (List.map (Enc.enc EB) bb = List.map (Enc.enc EB) bb) (∀ x : Int, (∀ a_1 : x ∈ bb, (∀ s : SV, (∀ a_2 : s ∈ Enc.enc EB x, ((SV.isPure s : Bool) = (true))))))))) (And ((true : Bool) = true) True)) ((true : Bool) = true)))) (dF { l := l_3, e := RS.e (GmT.s i) } != (0 : Int))))))) (And (And (∃ y0_3 : Value, (∃ l_3 : List Int, (And (And (SV.view (GmT.y i) (1 : Nat) (Enc.enc EB) (RS.l (GmT.s i)) = SV.view y0_3 (1 : Nat) (Enc.enc EB) l_3) (And (List.length l_3 ≤ (140737488351232 : Nat)) (∀ x : Int, (∀ a_1 : x ∈ l_3, (And ((0 : Int) ≤ x) (x < (256 : Int))))))) (∀ o_3 : Value, (And (And (And (List.length (GmT.acc i) = List.length (GmT.acc i)) (And (GmT.cp i = GmT.cp i) (And ((0 : Nat) + (1 : Nat) ≤ (1 : Nat)) (And ((List.length (GmT.acc i) + (1 : Nat)) * (32 : Nat) ≤ (150000000000000 : Nat)) (∀ cap2 : Nat, (∀ a_1 : List.length (GmT.acc i) + (1 : Nat) ≤ cap2, (And (∃ i' : GmT (Int.toNat (Prod.fst (q3 { l := List.take len bb, e := (0 : Int) }))) (Prod.snd (q3 { l := List.take len bb, e := (0 : Int) })), (And (And (GmT.n i' < GmT.n i) True) (And (And (And ((true : Bool) = true) ((0 : Nat) = (0 : Nat))) (And (And ((true : Bool) = true) ((0 : Nat) = (0 : Nat))) (And (And ((true : Bool) = true) ((0 : Nat) = (0 : Nat))) (And (Prod.fst (q3 { l := List.take len bb, e := (0 : Int) }) = Prod.fst (q3 { l := List.take len bb, e := (0 : Int) })) (And ((↑(GmT.i i') : Int) = IntKind.wrap IntKind.i64 ((↑(GmT.i i) : Int) + (1 : Int))) True))))) (And (And (And ((true : Bool) = true) (And (cap = cap) (And (List.map (Enc.enc EB) bb = List.map (Enc.enc EB) bb) (∀ x : Int, (∀ a_2 : x ∈ bb, (∀ s : SV, (∀ a_3 : s ∈ Enc.enc EB x, ((SV.isPure s : Bool) = (true))))))))) (And ((true : Bool) = true) (And (And ((0 : Int) = (0 : Int)) (And ((0 : Int) = (0 : Int)) (And (Value.slice none (0 : Nat) (0 : Nat) = Value.slice none (0 : Nat) (0 : Nat)) True))) (And ((true : Bool) = true) (And (And (SV.view (GmT.y i') (1 : Nat) (Enc.enc EB) (RS.l (GmT.s i')) = SV.view o_3 (1 : Nat) (Enc.enc EB) (RS.l (Prod.snd (hF { l := l_3, e := RS.e (GmT.s i) })))) (And ((true : Bool) = true) (And (RS.e (GmT.s i') = RS.e (Prod.snd (hF { l := l_3, e := RS.e (GmT.s i) }))) True))) (And ((true : Bool) = true) (And (And (Prod.fst (q1 { l := List.take len bb, e := (0 : Int) }) = Prod.fst (q1 { l := List.take len bb, e := (0 : Int) })) (And (Prod.fst (q2 { l := List.take len bb, e := (0 : Int) }) = Prod.fst (q2 { l := List.take len bb, e := (0 : Int) })) (And (And ((true : Bool) = true) (And (List.length (GmT.acc i') = List.length (GmT.acc i ++ castL (encInts IntKind.u8 (32 : Nat)) H32 (List.take (1 : Nat) (List.drop (0 : Nat) [Enc.of (encInts IntKind.u8 (32 : Nat)) (Prod.fst (hF { l := l_3, e := RS.e (GmT.s i) }), ())])))) (GmT.cp i' = cap2))) True))) (And ((true : Bool) = true) (And (And ((true : Bool) = true) (And (GmT.cp i' = cap2) (And (List.map (Enc.enc H32) (GmT.acc i') = List.map (Enc.enc H32) (GmT.acc i ++ castL (encInts IntKind.u8 (32 : Nat)) H32 (List.take (1 : Nat) (List.drop (0 : Nat) [Enc.of (encInts IntKind.u8 (32 : Nat)) (Prod.fst (hF { l := l_3, e := RS.e (GmT.s i) }), ())])))) (∀ x : List Int, (∀ a_2 : x ∈ GmT.acc i', (∀ s : SV, (∀ a_3 : s ∈ Enc.enc H32 x, ((SV.isPure s : Bool) = (true))))))))) (And ((true : Bool) = true) True)))))))))) ((true : Bool) = true))))) True))))))) True) True))))) True) (And (∃ y0_3 : Value, (∃ l_3 : List Int, (And (And (SV.view (GmT.y i) (1 : Nat) (Enc.enc EB) (RS.l (GmT.s i)) = SV.view y0_3 (1 : Nat) (Enc.enc EB) l_3) (And (List.length l_3 ≤ (140737488351232 : Nat)) (∀ x : Int, (∀ a_1 : x ∈ l_3, (And ((0 : Int) ≤ x) (x < (256 : Int))))))) (∀ o_3 : Value, (And (And (And (List.length (GmT.acc i) = List.length (GmT.acc i)) (And (GmT.cp i = GmT.cp i) (And ((0 : Nat) + (1 : Nat) ≤ (1 : Nat)) (And ((List.length (GmT.acc i) + (1 : Nat)) * (32 : Nat) ≤ (150000000000000 : Nat)) (∀ cap2 : Nat, (∀ a_1 : List.length (GmT.acc i) + (1 : Nat) ≤ cap2, (And (∃ i' : GmT (Int.toNat (Prod.fst (q3 { l := List.take len bb, e := (0 : Int) }))) (Prod.snd (q3 { l := List.take len bb, e := (0 : Int) })), (And (And (GmT.n i' < GmT.n i) True) (And (And (And ((true : Bool) = true) ((0 : Nat) = (0 : Nat))) (And (And ((true : Bool) = true) ((0 : Nat) = (0 : Nat))) (And (And ((true : Bool) = true) ((0 : Nat) = (0 : Nat))) (And (Prod.fst (q3 { l := List.take len bb, e := (0 : Int) }) = Prod.fst (q3 { l := List.take len bb, e := (0 : Int) })) (And ((↑(GmT.i i') : Int) = IntKind.wrap IntKind.i64 ((↑(GmT.i i) : Int) + (1 : Int))) True))))) (And (And (And ((true : Bool) = true) (And (cap = cap) (And (List.map (Enc.enc EB) bb = List.map (Enc.enc EB) bb) (∀ x : Int, (∀ a_2 : x ∈ bb, (∀ s : SV, (∀ a_3 : s ∈ Enc.enc EB x, ((SV.isPure s : Bool) = (true))))))))) (And ((true : Bool) = true) (And (And ((0 : Int) = (0 : Int)) (And ((0 : Int) = (0 : Int)) (And (Value.slice none (0 : Nat) (0 : Nat) = Value.slice none (0 : Nat) (0 : Nat)) True))) (And ((true : Bool) = true) (And (And (SV.view (GmT.y i') (1 : Nat) (Enc.enc EB) (RS.l (GmT.s i')) = SV.view o_3 (1 : Nat) (Enc.enc EB) (RS.l (Prod.snd (hF { l := l_3, e := RS.e (GmT.s i) })))) (And ((true : Bool) = true) (And (RS.e (GmT.s i') = RS.e (Prod.snd (hF { l := l_3, e := RS.e (GmT.s i) }))) True))) (And ((true : Bool) = true) (And (And (Prod.fst (q1 { l := List.take len bb, e := (0 : Int) }) = Prod.fst (q1 { l := List.take len bb, e := (0 : Int) })) (And (Prod.fst (q2 { l := List.take len bb, e := (0 : Int) }) = Prod.fst (q2 { l := List.take len bb, e := (0 : Int) })) (And (And ((true : Bool) = true) (And (List.length (GmT.acc i') = List.length (GmT.acc i ++ castL (encInts IntKind.u8 (32 : Nat)) H32 (List.take (1 : Nat) (List.drop (0 : Nat) [Enc.of (encInts IntKind.u8 (32 : Nat)) (Prod.fst (hF { l := l_3, e := RS.e (GmT.s i) }), ())])))) (GmT.cp i' = cap2))) True))) (And ((true : Bool) = true) (And (And ((true : Bool) = true) (And (GmT.cp i' = cap2) (And (List.map (Enc.enc H32) (GmT.acc i') = List.map (Enc.enc H32) (GmT.acc i ++ castL (encInts IntKind.u8 (32 : Nat)) H32 (List.take (1 : Nat) (List.drop (0 : Nat) [Enc.of (encInts IntKind.u8 (32 : Nat)) (Prod.fst (hF { l := l_3, e := RS.e (GmT.s i) }), ())])))) (∀ x : List Int, (∀ a_2 : x ∈ GmT.acc i', (∀ s : SV, (∀ a_3 : s ∈ Enc.enc H32 x, ((SV.isPure s : Bool) = (true))))))))) (And ((true : Bool) = true) True)))))))))) ((true : Bool) = true))))) True))))))) True) True))))) True)) (decide ((↑(GmT.i i) : Int) < Prod.fst (q3 { l := List.take len bb, e := (0 : Int) }))))))))))))))))))))))))) (by kernel_rfl) ?_
  refine ⟨bb, rfl, ⟨rfl, h0, h1, h2, h3⟩, fun y0 => ?_⟩
  have hB1 : By (q1 ⟨(bb.take len), 0⟩).2.l := cF_By hB
  have hB2 : By (q2 ⟨(bb.take len), 0⟩).2.l := cF_By hB1
  have hB3 : By (q3 ⟨(bb.take len), 0⟩).2.l := cF_By hB2
  have hl1 : (q1 ⟨(bb.take len), 0⟩).2.l.length ≤ 140737488351232 := Nat.le_trans (cF_le _ _) hb
  have hl2 : (q2 ⟨(bb.take len), 0⟩).2.l.length ≤ 140737488351232 := Nat.le_trans (cF_le _ _) hl1
  have hl3 : (q3 ⟨(bb.take len), 0⟩).2.l.length ≤ 140737488351232 := Nat.le_trans (cF_le _ _) hl2
  have hq3 : 0 ≤ (q3 ⟨(bb.take len), 0⟩).1 ∧ (q3 ⟨(bb.take len), 0⟩).1 ≤ 32 := cF_bound (by decide) hB2
  have hK : ((q3 ⟨(bb.take len), 0⟩).1.toNat : Int) = (q3 ⟨(bb.take len), 0⟩).1 := by omega
  refine ⟨y0, (bb.take len), ⟨rfl, ⟨by decide, by decide⟩, hb, hB⟩, fun o => ?_⟩
  refine ⟨o, (q1 ⟨(bb.take len), 0⟩).2.l, ⟨rfl, ⟨by decide, by decide⟩, hl1, hB1⟩, fun o1 => ?_⟩
  refine ⟨o1, (q2 ⟨(bb.take len), 0⟩).2.l, ⟨rfl, ⟨by decide, by decide⟩, hl2, hB2⟩, fun o2 => ?_⟩
  refine ⟨⟨0, (q3 ⟨(bb.take len), 0⟩).1.toNat, 0, o2, [], (q3 ⟨(bb.take len), 0⟩).2, Nat.le_refl _, by omega, rfl, rfl, rfl, hl3, hB3⟩, ?_, ?_⟩
  ·
    repeat' first | exact H32_pure _ | exact encB_pure _ | exact trivial | refine And.intro ?_ ?_ | with_reducible refine bif_dt (by assumption) ?_ | with_reducible refine bif_df (by assumption) ?_ | with_reducible refine bif_dec (fun _ => ?_) (fun _ => ?_) | with_reducible refine bif_not ?_ | with_reducible refine bif_and ?_ | with_reducible refine bif_or ?_ | with_reducible refine bif_t (by assumption) ?_ | with_reducible refine bif_f (by assumption) ?_ | with_reducible refine bif_t (beq_self_eq_true _) ?_ | with_reducible refine bif_b (fun _ => ?_) (fun _ => ?_) | with_reducible refine ⟨_, Eq.refl (List.map _ _), ?_⟩ | (with_reducible refine Exists.intro (by omega) ?_) | rfl | (intro h0; omega) | omega
  rintro ⟨i, n, cp, iy, acc, ⟨sl, se⟩, hcp, hn, hs, hs2, hl, hle, hbs⟩ -
  dsimp only at hs hs2 hl hcp hn hle hbs ⊢
  refine bif_dec (fun h1 => ?_) (fun h1 => ?_)
  rotate_left
  · have h0 : n = 0 := by omega
    subst h0
    have e1 : acc = (grF ⟨(bb.take len), 0⟩).1 := (List.append_nil acc).symm.trans hs
    have e2 : (⟨sl, se⟩ : RS) = (grF ⟨(bb.take len), 0⟩).2 := hs2
    refine ⟨iy, sl, ⟨rfl, trivial⟩, fun _ => ?_⟩
    rw [e2]
    have hg : ∀ n, okG (dF (grF ⟨(bb.take len), 0⟩).2) (q1 ⟨(bb.take len), 0⟩).1 (q2 ⟨(bb.take len), 0⟩).1 n = ((dF (grF ⟨(bb.take len), 0⟩).2 == 0) && rightP (q1 ⟨(bb.take len), 0⟩).1 (q2 ⟨(bb.take len), 0⟩).1 n) := fun _ => rfl
    unfold getG
    refine bif_b (fun h1 => ?_) (fun h1 => ?_)
    · have h2 : (dF (grF ⟨(bb.take len), 0⟩).2 == 0) = false := by
        cases h3 : (dF (grF ⟨(bb.take len), 0⟩).2 == 0)
        · rfl
        · have := eq_of_beq h3
          rw [this] at h1
          cases h1
      rw [hg, h2]
      refine ⟨.slice none 0 0, ?_⟩
      repeat' first | exact H32_pure _ | exact encB_pure _ | exact trivial | refine And.intro ?_ ?_ | with_reducible refine bif_dt (by assumption) ?_ | with_reducible refine bif_df (by assumption) ?_ | with_reducible refine bif_dec (fun _ => ?_) (fun _ => ?_) | with_reducible refine bif_not ?_ | with_reducible refine bif_and ?_ | with_reducible refine bif_or ?_ | with_reducible refine bif_t (by assumption) ?_ | with_reducible refine bif_f (by assumption) ?_ | with_reducible refine bif_t (beq_self_eq_true _) ?_ | with_reducible refine bif_b (fun _ => ?_) (fun _ => ?_) | with_reducible refine ⟨_, Eq.refl (List.map _ _), ?_⟩ | (with_reducible refine Exists.intro (by omega) ?_) | rfl | (intro h0; omega) | omega
    · have h2 : (dF (grF ⟨(bb.take len), 0⟩).2 == 0) = true := by
        have : dF (grF ⟨(bb.take len), 0⟩).2 = 0 := by simpa using h1
        rw [this]
        rfl
      rw [hg, h2]
      refine ⟨acc, rfl, ⟨by omega, rfl, rfl⟩, fun _ => ?_⟩
      rw [e1]
      cases h3 : rightP (q1 ⟨(bb.take len), 0⟩).1 (q2 ⟨(bb.take len), 0⟩).1 (grF ⟨(bb.take len), 0⟩).1.length
      · refine ⟨.slice none 0 0, ?_⟩
        repeat' first | exact H32_pure _ | exact encB_pure _ | exact trivial | refine And.intro ?_ ?_ | with_reducible refine bif_dt (by assumption) ?_ | with_reducible refine bif_df (by assumption) ?_ | with_reducible refine bif_dec (fun _ => ?_) (fun _ => ?_) | with_reducible refine bif_not ?_ | with_reducible refine bif_and ?_ | with_reducible refine bif_or ?_ | with_reducible refine bif_t (by assumption) ?_ | with_reducible refine bif_f (by assumption) ?_ | with_reducible refine bif_t (beq_self_eq_true _) ?_ | with_reducible refine bif_b (fun _ => ?_) (fun _ => ?_) | with_reducible refine ⟨_, Eq.refl (List.map _ _), ?_⟩ | (with_reducible refine Exists.intro (by omega) ?_) | rfl | (intro h0; omega) | omega
      · refine ⟨Nat.le_refl _, by rw [← e1]; exact hcp, rfl, fun _ => rfl, fun y => ⟨y, ?_⟩⟩
        rw [List.take_length]
        repeat' first | exact H32_pure _ | exact encB_pure _ | exact trivial | refine And.intro ?_ ?_ | with_reducible refine bif_dt (by assumption) ?_ | with_reducible refine bif_df (by assumption) ?_ | with_reducible refine bif_dec (fun _ => ?_) (fun _ => ?_) | with_reducible refine bif_not ?_ | with_reducible refine bif_and ?_ | with_reducible refine bif_or ?_ | with_reducible refine bif_t (by assumption) ?_ | with_reducible refine bif_f (by assumption) ?_ | with_reducible refine bif_t (beq_self_eq_true _) ?_ | with_reducible refine bif_b (fun _ => ?_) (fun _ => ?_) | with_reducible refine ⟨_, Eq.refl (List.map _ _), ?_⟩ | (with_reducible refine Exists.intro (by omega) ?_) | rfl | (intro h0; omega) | omega
  obtain ⟨m, rfl⟩ : ∃ m, n = m + 1 := ⟨n - 1, by omega⟩
  have hw : IntKind.i64.wrap ((i : Int) + 1) = ((i + 1 : Nat) : Int) := inext (by omega)
  have hb2 : By (hF ⟨sl, se⟩).2.l := (takeF_By hbs 32).2
  have hle2 : (hF ⟨sl, se⟩).2.l.length ≤ 140737488351232 := Nat.le_trans (takeF_le 32 ⟨sl, se⟩) hle
  have nxt : ∀ (y : Value) (cap2 : Nat), acc.length + 1 ≤ cap2 → ∃ i' : GmT (q3 ⟨(bb.take len), 0⟩).1.toNat (q3 ⟨(bb.take len), 0⟩).2, i'.n = m ∧ i'.i = i + 1 ∧ i'.cp = cap2 ∧ i'.acc = acc ++ [(hF ⟨sl, se⟩).1] ∧ i'.s = (hF ⟨sl, se⟩).2 ∧ i'.y = y := fun y cap2 k2 =>
    ⟨⟨i + 1, m, cap2, y, acc ++ [(hF ⟨sl, se⟩).1], (hF ⟨sl, se⟩).2, by rw [List.length_append]; exact k2, by omega, by rw [List.append_assoc]; exact hs, hs2, by rw [List.length_append, List.length_singleton, hl], hle2, hb2⟩, rfl, rfl, rfl, rfl, rfl, rfl⟩
  rw [hw]
  repeat' (with_reducible refine And.intro ?_ ?_)
  all_goals first
    | exact trivial
    | skip
  all_goals refine ⟨iy, sl, ⟨rfl, hle, hbs⟩, fun o3 => ?_⟩
  all_goals repeat' (with_reducible refine And.intro ?_ ?_)
  all_goals first
    | exact trivial
    | exact rfl
    | decide
    | omega
    | skip
  all_goals intro cap2 k2
  all_goals obtain ⟨i', e1, e2, e3, e4, e5, e6⟩ := nxt o3 cap2 k2
  all_goals repeat' (with_reducible refine And.intro ?_ ?_)
  all_goals first
    | exact trivial
    | skip
  all_goals refine ⟨i', ?_⟩
  all_goals rw [e1, e2, e3, e4, e6, e5, cast1]
  all_goals
    repeat' first | exact encB_pure _ | exact H32_pure _ | exact trivial | refine And.intro ?_ ?_ | with_reducible refine bif_dt (by assumption) ?_ | with_reducible refine bif_df (by assumption) ?_ | with_reducible refine bif_dec (fun _ => ?_) (fun _ => ?_) | with_reducible refine bif_not ?_ | with_reducible refine bif_and ?_ | with_reducible refine bif_or ?_ | with_reducible refine bif_t (by assumption) ?_ | with_reducible refine bif_f (by assumption) ?_ | with_reducible refine bif_t (beq_self_eq_true _) ?_ | with_reducible refine bif_b (fun _ => ?_) (fun _ => ?_) | with_reducible refine ⟨_, Eq.refl (List.map _ _), ?_⟩ | (with_reducible refine Exists.intro (by omega) ?_) | rfl | (intro h0; omega) | omega
def getVT : MT := fun ms n h K => match ms with
  | [.one (.view vx0 ve0 en0 vl0)] => bif Nat.beq ve0 1 && noDup [] then ∃ b : List (Int), vl0.map en0 = b.map eB ∧ ((b.length ≤ 140737488351232 ∧ By b)) ∧ (∀ y : Value, K (n + 0) (.tup [pfM y (getG b).1 (getG b).2.1, int (getG b).2.2]) ([] ++ delL [] h)) else False
  | _ => False
theorem getV_mono : MMono getVT := by
  intro ms n h K K' hkk hk
  unfold getVT at hk ⊢
  split at hk
  · rename_i vx0 ve0 va0 en0 vl0
    obtain ⟨hb, y0, z0, h1, h2⟩ := cond_false_elim hk
    rw [hb]
    exact ⟨y0, z0, h1, fun o => hkk _ _ _ (h2 o)⟩
  · exact hk.elim
theorem getV_ok : MOK Tryd.prog 36 getVT := by
  refine ⟨?_, getV_mono⟩
  intro ms n hB K hk
  unfold getVT at hk
  split at hk
  · rename_i vx0 ve0 va0 en0 vl0
    obtain ⟨hb, b, he0, h, hk2⟩ := cond_false_elim hk
    clear hk
    simp only [Bool.and_eq_true] at hb
    obtain ⟨hc0, hnd⟩ := hb
    have hs0 := Nat.eq_of_beq_eq_true hc0
    subst hs0
    refine SCall.seen ?_ (.cons (.view he0) .nil)
    exact (get_spec _ h.1 h.2).use (fun _ => 0) rfl rfl trivial hnd (fun j hj => absurd hj (Nat.not_lt_zero j)) (fun o => hk2 o)
  · exact hk.elim

theorem getS_row {bb : List Int} {len cap cp : Nat} (h : cap = cp ∧ bb.length ≤ 150000000000000 ∧ len ≤ bb.length ∧ len ≤ cap ∧ 0 < cap ∧ len ≤ 140737488351232 ∧ By (bb.take len)) :
    SMem Tryd.prog 36 [.one (.slc 0 1 0 len cap)] 1 [(0, .row 1 EB bb cp)] (fun y : Value => ⟨1, .tup [pfM y (getG (bb.take len)).1 (getG (bb.take len)).2.1, int (getG (bb.take len)).2.2], [(0, .row 1 EB bb cp)]⟩) := by
  obtain ⟨rfl, h0, h1, h2, h3, h4, h5⟩ := h
  exact getS_spec h0 h1 h2 h3 (by rw [List.length_take]; omega) h5
def getST : MT := fun ms n h K => match ms with
  | [.one (.slc P0 1 0 len cap)] => (match get h P0 with
    | some (.row we0 wn0 wl0 cp) => bif Nat.beq we0 1 && noDup [P0] then ∃ bb : List (Int), wl0.map wn0.enc = bb.map (EB).enc ∧ ((cap = cp ∧ bb.length ≤ 150000000000000 ∧ len ≤ bb.length ∧ len ≤ cap ∧ 0 < cap ∧ len ≤ 140737488351232 ∧ By (bb.take len))) ∧ (∀ y : Value, K (n + 0) (.tup [pfM y (getG (bb.take len)).1 (getG (bb.take len)).2.1, int (getG (bb.take len)).2.2]) ([(P0, .row 1 EB bb cp)] ++ delL [P0] h)) else False
    | _ => False)
  | _ => False
theorem getS_mono : MMono getST := by
  intro ms n h K K' hkk hk
  unfold getST at hk ⊢
  split at hk
  · rename_i P0 len cap
    split at hk
    · rename_i we0 wa0 wn0 wl0 cp hg0
      try simp only [hg0]
      obtain ⟨hb, y0, z0, h1, h2⟩ := cond_false_elim hk
      rw [hb]
      exact ⟨y0, z0, h1, fun o => hkk _ _ _ (h2 o)⟩
    · exact hk.elim
  · exact hk.elim
theorem getS_ok : MOK Tryd.prog 36 getST := by
  refine ⟨?_, getS_mono⟩
  intro ms n hB K hk
  unfold getST at hk
  split at hk
  · rename_i P0 len cap
    split at hk
    · rename_i we0 wa0 wn0 wl0 cp hg0
      obtain ⟨hb, bb, hl0, h, hk2⟩ := cond_false_elim hk
      clear hk
      simp only [Bool.and_eq_true] at hb
      obtain ⟨hc0, hnd⟩ := hb
      have hs0 := Nat.eq_of_beq_eq_true hc0
      subst hs0
      refine SCall.seen ?_ (.cons (.refl _) .nil)
      exact (getS_row h).use (fun j => match j with | 0 => P0 | _ => 0) rfl rfl ⟨by show (match get hB P0 with | some b0 => Blk.imp _ _ _ b0 | none => False); rw [hg0]; exact ⟨rfl, rfl, hl0.symm, fun y _ => Enc.pures _ y⟩, rfl, trivial⟩ hnd (fun j hj => by cases j with
          | zero => exact ⟨_, rfl⟩
          | succ j => omega) (fun o => hk2 o)
    · exact hk.elim
  · exact hk.elim

def getGT : MT := fun ms n h K => match ms with
  | [.one (.view x es en l)] => getVT [.one (.view x es en l)] n h K
  | ms => getST ms n h K
theorem getG_ok : MOK Tryd.prog 36 getGT := by
  refine ⟨fun args n h K hk => ?_, fun args n h K K' hkk hk => ?_⟩
  · unfold getGT at hk
    split at hk
    · exact getV_ok.ok _ _ _ _ hk
    · exact getS_ok.ok _ _ _ _ hk
  · unfold getGT at hk ⊢
    split at hk
    · exact getV_ok.mono _ _ _ _ _ hkk hk
    · exact getS_ok.mono _ _ _ _ _ hkk hk
end Go.Proofs.YtblapbjafbmndaaDoor
