/- The law BookExtracts. -/
import Derived.Test.YtblapbjafbmndaaDoorP49
import Derived.Test.YtblapbjafbmndaaDoorSx24
namespace Go.Proofs.YtblapbjafbmndaaDoor
open Go Go.Sx Go.Sha
set_option linter.unusedVariables false
set_option linter.unusedSimpArgs false
set_option maxRecDepth 100000
set_option maxHeartbeats 4000000

instance {k : IntKind} : BEq (RK.int k).T := inferInstanceAs (BEq Int)
abbrev HR : Enc (List Int) := encInts .u8 32
theorem castHR (v : List Int) : castL (encInts IntKind.u8 32) HR (List.take 1 (List.drop 0 [(encInts IntKind.u8 32).of (v, ())])) = [v] := castL_self _ _ rfl
/-- What digests alone filled. -/
structure Ext (L : Ents) (cs : List ByteArray) (ds : List (List Int)) : Prop where
  I : Inv L cs
  h : ∀ x ∈ L, x.1 = shaF (sl x.2) ∧ x.2.size ≤ 140737488351232
  d : ∀ b ∈ ds, By b ∧ (shaF b, strOfNums b) ∈ L
theorem Ext.put {L : Ents} {cs : List ByteArray} {ds : List (List Int)} (X : Ext L cs ds) {b : List Int} (hb : By b) (hl : b.length ≤ 140737488351232) (hL : L.length < 65536) :
    Ext (putB L cs (shaF b) (strOfNums b)).1 (putB L cs (shaF b) (strOfNums b)).2 (ds ++ [b]) := by
  have I := X.I.put (shaF_length b) (strOfNums b)
  have hs : (strOfNums b).size ≤ 140737488351232 := by rw [← sl_length, sl_strOf hb]; exact hl
  refine ⟨I, ?_, ?_⟩
  · by_cases he : putE L (shaF b) (strOfNums b) = 0
    · have e1 : (putB L cs (shaF b) (strOfNums b)).1 = L ++ [(shaF b, strOfNums b)] := by unfold putB; rw [if_pos he]
      rw [e1]
      intro x hx
      rcases List.mem_append.1 hx with hx | hx
      · exact X.h x hx
      · rw [List.mem_singleton.1 hx]
        exact ⟨by rw [sl_strOf hb], hs⟩
    · have e1 : putB L cs (shaF b) (strOfNums b) = (L, cs) := if_neg he
      rw [e1]
      exact X.h
  · by_cases he : putE L (shaF b) (strOfNums b) = 0
    · have e1 : (putB L cs (shaF b) (strOfNums b)).1 = L ++ [(shaF b, strOfNums b)] := by unfold putB; rw [if_pos he]
      rw [e1]
      intro c hc
      rcases List.mem_append.1 hc with hc | hc
      · exact ⟨(X.d c hc).1, List.mem_append_left _ (X.d c hc).2⟩
      · rw [List.mem_singleton.1 hc]
        exact ⟨hb, List.mem_append_right _ (List.mem_singleton.2 rfl)⟩
    · have e1 : putB L cs (shaF b) (strOfNums b) = (L, cs) := if_neg he
      rw [e1]
      have hm : strOfNums b ∈ under L (shaF b) := by
        refine Classical.byContradiction fun hn => he ?_
        unfold putE
        cases h : hasS (strOfNums b) (under L (shaF b)) with
        | true => exact absurd (hasS_iff.1 h) hn
        | false => rw [cond_false, if_neg (by omega)]
      intro c hc
      rcases List.mem_append.1 hc with hc | hc
      · exact X.d c hc
      · rw [List.mem_singleton.1 hc]
        exact ⟨hb, mem_under.1 hm⟩
theorem mem_hdS {l : List ByteArray} (h : l ≠ []) : hdS l ∈ l := by
  cases l with
  | nil => exact absurd rfl h
  | cons a r => exact List.mem_cons_self
theorem Ext.check {L : Ents} {cs : List ByteArray} {ds : List (List Int)} (X : Ext L cs ds) (h : (!cs.isEmpty) = true) :
    chk (c0 cs) (c1 cs) = true ∧ By (c0 cs) ∧ By (c1 cs) ∧ (c0 cs).length ≤ 140737488351232 ∧ (c1 cs).length ≤ 140737488351232 := by
  have hc := X.I.cl
  cases hd : dcl L with
  | none =>
    rw [hd] at hc
    subst hc
    cases h
  | some x =>
    rw [hd] at hc
    subst hc
    have h1 := List.find?_some hd
    have hx := List.mem_of_find?_eq_some hd
    have hne : ¬ hdS (under L x.1) = x.2 := by simpa using h1
    have hu : under L x.1 ≠ [] := fun h0 => by
      have : x.2 ∈ under L x.1 := mem_under.2 hx
      rw [h0] at this
      cases this
    have h2 := X.h _ (mem_under.1 (mem_hdS hu))
    have h3 := X.h _ hx
    refine ⟨?_, sl_By _, sl_By _, ?_, ?_⟩
    · show chk (sl (hdS (under L x.1))) (sl x.2) = true
      unfold chk
      rw [decide_eq_false (fun e => hne (by rw [← strOf_sl (hdS (under L x.1)), ← strOf_sl x.2, e])), ← h2.1, ← h3.1]
      simp
    · show (sl (hdS (under L x.1))).length ≤ 140737488351232
      rw [sl_length]
      exact h2.2
    · show (sl x.2).length ≤ 140737488351232
      rw [sl_length]
      exact h3.2
theorem Ext.seek {L : Ents} {cs : List ByteArray} {ds : List (List Int)} (X : Ext L cs ds) (h : cs = []) {b : List Int} (hb : b ∈ ds) :
    hdS (under L (shaF b)) = strOfNums b ∧ (under L (shaF b)).isEmpty = false := by
  have hc := X.I.cl
  cases hd : dcl L with
  | some x =>
    rw [hd, h] at hc
    cases hc
  | none =>
    have h1 := (X.d b hb).2
    have h2 := List.find?_eq_none.1 hd _ h1
    refine ⟨by simpa using h2, ?_⟩
    have := mem_under.2 h1
    cases hu : under L (shaF b) with
    | nil => rw [hu] at this; cases this
    | cons a r => rfl
structure ExT (n : Nat) where
  i : Nat
  A : List Nat
  L : Ents
  cs : List ByteArray
  al : List BTy
  ca : Nat
  ch : Nat
  X : Ext L cs (al.map bl)
  hi : i ≤ n
  hL : L.length ≤ i
  ha : al.length ≤ i
  hca : al.length ≤ ca
  hch : al.length ≤ ch
noncomputable abbrev hsL (al : List BTy) : List (List Int) := al.map fun y => shaF (bl y)
structure EyT extends ExT 200 where
  j : Nat
  hj : j ≤ al.length
  hc : cs = []
theorem bextracts_spec (x : Value) (l : List OTy) (ho : ∀ o ∈ l, OkO o) (hl : l.length ≤ 9223372036854775807) : SFun Tryd.prog 14 [oV x l] (bool true) := by
  refine SFun.inm [(48, bknowsT), (49, bcheckT)] (SOK.cons bknows_ok (SOK.cons bcheck_ok SOK.nil)) [(53, blongT), (51, bnewT), (57, bfirstT), (56, bsumT), (58, btaggedT), (23, rframeT), (22, partsT), (54, bseekT), (55, bclashT)] (MSOK.cons blong_ok (MSOK.cons bnew_ok (MSOK.cons bfirst_ok (MSOK.cons bsum_ok (MSOK.cons btagged_ok (MSOK.cons rframe_ok (MSOK.cons parts_ok (MSOK.cons bseek_ok (MSOK.cons bclash_ok MSOK.nil))))))))) tok mixed [] IOK.nil false [(9, ⟨ExT l.length, fun p => ⟨3, [(0, oV x l), (3, .one (.ptr 0 0)), (4, .one (.nslc 1 1 p.al.length p.ca)), (5, .one (.nslc 2 32 p.al.length p.ch)), (6, int p.i)], [(0, .obj p.A [] (bookAbs p.L p.cs)), (1, .row 1 BE p.al p.ca), (2, .row 32 HR (hsL p.al) p.ch)]⟩, fun p => l.length - p.i, fun _ _ => True⟩), (21, ⟨EyT, fun p => ⟨3, [(3, .one (.ptr 0 0)), (4, .one (.nslc 1 1 p.al.length p.ca)), (5, .one (.nslc 2 32 p.al.length p.ch)), (10, int p.j)], [(0, .obj p.A [] (bookAbs p.L p.cs)), (1, .row 1 BE p.al p.ca), (2, .row 32 HR (hsL p.al) p.ch)]⟩, fun p => p.al.length - p.j, fun _ _ => True⟩)] [] Tryd.call14 Tryd.func14 rfl (by rfl) ?_
  refine Eq.mp (α := (@Bool.rec (fun _ => Prop) (And True (∀ o : List Nat, (∃ i0 : ExT (List.length l), (And (And True (And (And (SV.view x (35 : Nat) (Enc.enc EO) l = SV.view x (35 : Nat) (Enc.enc EO) l) (And (And ((true : Bool) = true) ((0 : Nat) = (0 : Nat))) (And (And ((true : Bool) = true) (And (List.length (ExT.al i0) = (0 : Nat)) (ExT.ca i0 = (0 : Nat)))) (And (And ((true : Bool) = true) (And (List.length (ExT.al i0) = (0 : Nat)) (ExT.ch i0 = (0 : Nat)))) (And ((↑(ExT.i i0) : Int) = (0 : Int)) True))))) (And (And (And (ExT.A i0 = o) (And True (bookAbs (ExT.L i0) (ExT.cs i0) = bookAbs [] []))) (And ((true : Bool) = true) (And (And ((true : Bool) = true) (And (ExT.ca i0 = (0 : Nat)) (And (List.map (Enc.enc BE) (ExT.al i0) = List.map (Enc.enc BE) []) (∀ x_1 : RK.TL [RK.sl (1 : Nat) [RK.int IntKind.u8]], (∀ a : x_1 ∈ ExT.al i0, (∀ s : SV, (∀ a_1 : s ∈ Enc.enc BE x_1, ((SV.isPure s : Bool) = (true))))))))) (And ((true : Bool) = true) (And (And ((true : Bool) = true) (And (ExT.ch i0 = (0 : Nat)) (And (List.map (Enc.enc HR) (hsL (ExT.al i0)) = List.map (Enc.enc HR) []) (∀ x_1 : List Int, (∀ a : x_1 ∈ hsL (ExT.al i0), (∀ s : SV, (∀ a_1 : s ∈ Enc.enc HR x_1, ((SV.isPure s : Bool) = (true))))))))) (And ((true : Bool) = true) True)))))) ((true : Bool) = true)))) (∀ i : ExT (List.length l), (∀ a : True, (@Bool.rec (fun _ => Prop) (∃ L : Ents, (∃ cs : List ByteArray, (And (And (bookAbs (ExT.L i) (ExT.cs i) = bookAbs L cs) (Or (cs = []) (List.length cs = (2 : Nat)))) (∀ o_1 : (Value × Value) × List Nat, (@Bool.rec (fun _ => Prop) (∃ i0_1 : EyT, (And (And True (And (And (And ((true : Bool) = true) ((0 : Nat) = (0 : Nat))) (And (And ((true : Bool) = true) (And (List.length (ExT.al (EyT.toExT i0_1)) = List.length (ExT.al i)) (ExT.ca (EyT.toExT i0_1) = ExT.ca i))) (And (And ((true : Bool) = true) (And (List.length (ExT.al (EyT.toExT i0_1)) = List.length (ExT.al i)) (ExT.ch (EyT.toExT i0_1) = ExT.ch i))) (And ((↑(EyT.j i0_1) : Int) = (0 : Int)) True)))) (And (And (And (ExT.A (EyT.toExT i0_1) = Prod.snd o_1) (And True (bookAbs (ExT.L (EyT.toExT i0_1)) (ExT.cs (EyT.toExT i0_1)) = bookAbs L cs))) (And ((true : Bool) = true) (And (And ((true : Bool) = true) (And (ExT.ca (EyT.toExT i0_1) = ExT.ca i) (And (List.map (Enc.enc BE) (ExT.al (EyT.toExT i0_1)) = List.map (Enc.enc BE) (ExT.al i)) (∀ x_1 : RK.TL [RK.sl (1 : Nat) [RK.int IntKind.u8]], (∀ a_1 : x_1 ∈ ExT.al (EyT.toExT i0_1), (∀ s : SV, (∀ a_2 : s ∈ Enc.enc BE x_1, ((SV.isPure s : Bool) = (true))))))))) (And ((true : Bool) = true) (And (And ((true : Bool) = true) (And (ExT.ch (EyT.toExT i0_1) = ExT.ch i) (And (List.map (Enc.enc HR) (hsL (ExT.al (EyT.toExT i0_1))) = List.map (Enc.enc HR) (hsL (ExT.al i))) (∀ x_1 : List Int, (∀ a_1 : x_1 ∈ hsL (ExT.al (EyT.toExT i0_1)), (∀ s : SV, (∀ a_2 : s ∈ Enc.enc HR x_1, ((SV.isPure s : Bool) = (true))))))))) (And ((true : Bool) = true) True)))))) ((true : Bool) = true)))) (∀ i_1 : EyT, (∀ a_1 : True, (@Bool.rec (fun _ => Prop) (And (M.one (SV.v (Value.bool true)) = M.one (SV.v (Value.bool true))) ((true : Bool) = true)) (And ((0 : Int) ≤ (↑(EyT.j i_1) : Int)) (And (Int.toNat (↑(EyT.j i_1) : Int) < List.length (ExT.al (EyT.toExT i_1))) (∃ hi : Int.toNat (↑(EyT.j i_1) : Int) < List.length (hsL (ExT.al (EyT.toExT i_1))), (∃ L_1 : Ents, (∃ cs_1 : List ByteArray, (And (And (bookAbs (ExT.L (EyT.toExT i_1)) (ExT.cs (EyT.toExT i_1)) = bookAbs L_1 cs_1) (And (List.length (hsL (ExT.al (EyT.toExT i_1)))[Int.toNat (↑(EyT.j i_1) : Int)] = (32 : Nat)) (List.length L_1 ≤ (100000 : Nat)))) (∀ o_2 : Value × List Nat, (@Bool.rec (fun _ => Prop) (And (∀ x_1 : Int, (∀ a_2 : x_1 ∈ c0 (under L_1 (hsL (ExT.al (EyT.toExT i_1)))[Int.toNat (↑(EyT.j i_1) : Int)]), (∃ b : Int, (Enc.enc (encInt IntKind.u8) x_1 = [SV.v (Value.int IntKind.u8 b)])))) (And ((0 : Int) ≤ (↑(EyT.j i_1) : Int)) (And (Int.toNat (↑(EyT.j i_1) : Int) < List.length (ExT.al (EyT.toExT i_1))) (∃ hi_1 : Int.toNat (↑(EyT.j i_1) : Int) < List.length (ExT.al (EyT.toExT i_1)), (And (∀ x_1 : RK.TL [RK.int IntKind.u8], (∀ a_2 : x_1 ∈ Prod.snd (Prod.fst (ExT.al (EyT.toExT i_1))[Int.toNat (↑(EyT.j i_1) : Int)]), (∃ b : Int, (RK.svs._f [RK.int IntKind.u8] ⟨⟨RK.sv._f (RK.int IntKind.u8) PUnit.unit, PUnit.unit⟩, RK.svs._f [] PUnit.unit, PUnit.unit⟩ x_1 = [SV.v (Value.int IntKind.u8 b)])))) (@Bool.rec (fun _ => Prop) (∃ i' : EyT, (And (And (List.length (ExT.al (EyT.toExT i')) - EyT.j i' < List.length (ExT.al (EyT.toExT i_1)) - EyT.j i_1) True) (And (And (And ((true : Bool) = true) ((0 : Nat) = (0 : Nat))) (And (And ((true : Bool) = true) (And (List.length (ExT.al (EyT.toExT i')) = List.length (ExT.al (EyT.toExT i_1))) (ExT.ca (EyT.toExT i') = ExT.ca (EyT.toExT i_1)))) (And (And ((true : Bool) = true) (And (List.length (ExT.al (EyT.toExT i')) = List.length (ExT.al (EyT.toExT i_1))) (ExT.ch (EyT.toExT i') = ExT.ch (EyT.toExT i_1)))) (And ((↑(EyT.j i') : Int) = IntKind.wrap IntKind.i64 ((↑(EyT.j i_1) : Int) + (1 : Int))) True)))) (And (And (And (ExT.A (EyT.toExT i') = Prod.snd o_2) (And True (bookAbs (ExT.L (EyT.toExT i')) (ExT.cs (EyT.toExT i')) = bookAbs L_1 cs_1))) (And ((true : Bool) = true) (And (And ((true : Bool) = true) (And (ExT.ca (EyT.toExT i') = ExT.ca (EyT.toExT i_1)) (And (List.map (Enc.enc BE) (ExT.al (EyT.toExT i')) = List.map (Enc.enc BE) (ExT.al (EyT.toExT i_1))) (∀ x_1 : RK.TL [RK.sl (1 : Nat) [RK.int IntKind.u8]], (∀ a_2 : x_1 ∈ ExT.al (EyT.toExT i'), (∀ s : SV, (∀ a_3 : s ∈ Enc.enc BE x_1, ((SV.isPure s : Bool) = (true))))))))) (And ((true : Bool) = true) (And (And ((true : Bool) = true) (And (ExT.ch (EyT.toExT i') = ExT.ch (EyT.toExT i_1)) (And (List.map (Enc.enc HR) (hsL (ExT.al (EyT.toExT i'))) = List.map (Enc.enc HR) (hsL (ExT.al (EyT.toExT i_1)))) (∀ x_1 : List Int, (∀ a_2 : x_1 ∈ hsL (ExT.al (EyT.toExT i')), (∀ s : SV, (∀ a_3 : s ∈ Enc.enc HR x_1, ((SV.isPure s : Bool) = (true))))))))) (And ((true : Bool) = true) True)))))) ((true : Bool) = true))))) (And (M.one (SV.v (Value.bool false)) = M.one (SV.v (Value.bool true))) ((true : Bool) = true)) (!ByteArray.toList (strOfNums (bytesOf (Enc.enc (encInt IntKind.u8)) (c0 (under L_1 (hsL (ExT.al (EyT.toExT i_1)))[Int.toNat (↑(EyT.j i_1) : Int)])))) == ByteArray.toList (strOfNums (bytesOf (RK.svs._f [RK.int IntKind.u8] ⟨⟨RK.sv._f (RK.int IntKind.u8) PUnit.unit, PUnit.unit⟩, RK.svs._f [] PUnit.unit, PUnit.unit⟩) (Prod.snd (Prod.fst (ExT.al (EyT.toExT i_1))[Int.toNat (↑(EyT.j i_1) : Int)]))))))))))) (And (M.one (SV.v (Value.bool false)) = M.one (SV.v (Value.bool true))) ((true : Bool) = true)) (!!List.isEmpty (under L_1 (hsL (ExT.al (EyT.toExT i_1)))[Int.toNat (↑(EyT.j i_1) : Int)])))))))))) (decide ((↑(EyT.j i_1) : Int) < (↑(List.length (ExT.al (EyT.toExT i_1))) : Int)))))))) (∃ a_1 : List Int, (And (List.map (Enc.enc (encInt IntKind.u8)) (c0 cs) = List.map eB a_1) (∃ b : List Int, (And (List.map (Enc.enc (encInt IntKind.u8)) (c1 cs) = List.map eB b) (And (And (∀ x_1 : Int, (∀ a_2 : x_1 ∈ a_1, (And ((0 : Int) ≤ x_1) (x_1 < (256 : Int))))) (And (∀ x_1 : Int, (∀ a_2 : x_1 ∈ b, (And ((0 : Int) ≤ x_1) (x_1 < (256 : Int))))) (And (List.length a_1 ≤ (140737488351232 : Nat)) (List.length b ≤ (140737488351232 : Nat))))) (And (M.one (SV.v (Value.bool (chk a_1 b))) = M.one (SV.v (Value.bool true))) ((true : Bool) = true))))))) (!List.isEmpty cs)))))) (And ((0 : Int) ≤ (↑(ExT.i i) : Int)) (∃ hk : Int.toNat (↑(ExT.i i) : Int) < List.length l, (∃ l_1 : List BTy, (And (List.map (RK.svs._f [RK.sl (1 : Nat) [RK.int IntKind.u8]] ⟨⟨RK.sv._f (RK.sl (1 : Nat) [RK.int IntKind.u8]) ⟨RK.svs._f [RK.int IntKind.u8] ⟨⟨RK.sv._f (RK.int IntKind.u8) PUnit.unit, PUnit.unit⟩, RK.svs._f [] PUnit.unit, PUnit.unit⟩, ⟨RK.sv._f (RK.int IntKind.u8) PUnit.unit, PUnit.unit⟩, RK.svs._f [] PUnit.unit, PUnit.unit⟩, RK.svs._f [RK.int IntKind.u8] ⟨⟨RK.sv._f (RK.int IntKind.u8) PUnit.unit, PUnit.unit⟩, RK.svs._f [] PUnit.unit, PUnit.unit⟩, ⟨RK.sv._f (RK.int IntKind.u8) PUnit.unit, PUnit.unit⟩, RK.svs._f [] PUnit.unit, PUnit.unit⟩, RK.svs._f [] PUnit.unit, PUnit.unit⟩) (Prod.snd (Prod.fst (Prod.snd (Prod.snd l[Int.toNat (↑(ExT.i i) : Int)])))) = List.map eBl l_1) (And (List.length l_1 ≤ (140737488351232 : Nat)) (∀ o_1 : LoT l_1, (@Bool.rec (fun _ => Prop) (And ((0 : Int) ≤ (↑(ExT.i i) : Int)) (∃ hk_1 : Int.toNat (↑(ExT.i i) : Int) < List.length l, (@Bool.rec (fun _ => Prop) (And ((0 : Int) ≤ (↑(ExT.i i) : Int)) (∃ hk_2 : Int.toNat (↑(ExT.i i) : Int) < List.length l, (∃ l_2 : List BTy, (And (List.map (RK.svs._f [RK.sl (1 : Nat) [RK.int IntKind.u8]] ⟨⟨RK.sv._f (RK.sl (1 : Nat) [RK.int IntKind.u8]) ⟨RK.svs._f [RK.int IntKind.u8] ⟨⟨RK.sv._f (RK.int IntKind.u8) PUnit.unit, PUnit.unit⟩, RK.svs._f [] PUnit.unit, PUnit.unit⟩, ⟨RK.sv._f (RK.int IntKind.u8) PUnit.unit, PUnit.unit⟩, RK.svs._f [] PUnit.unit, PUnit.unit⟩, RK.svs._f [RK.int IntKind.u8] ⟨⟨RK.sv._f (RK.int IntKind.u8) PUnit.unit, PUnit.unit⟩, RK.svs._f [] PUnit.unit, PUnit.unit⟩, ⟨RK.sv._f (RK.int IntKind.u8) PUnit.unit, PUnit.unit⟩, RK.svs._f [] PUnit.unit, PUnit.unit⟩, RK.svs._f [] PUnit.unit, PUnit.unit⟩) (Prod.snd (Prod.fst (Prod.snd (Prod.snd l[Int.toNat (↑(ExT.i i) : Int)])))) = List.map eBl l_2) (And (List.length l_2 ≤ (140737488351232 : Nat)) (∀ y : Value, (∃ b : List Int, (And (List.map (Enc.enc EI) (fstL l_2) = List.map eB b) (∃ L : Ents, (∃ cs : List ByteArray, (And (And (bookAbs (ExT.L i) (ExT.cs i) = bookAbs L cs) (And (∀ x_1 : Int, (∀ a_1 : x_1 ∈ b, (And ((0 : Int) ≤ x_1) (x_1 < (256 : Int))))) (And (List.length b ≤ (140737488351232 : Nat)) (List.length L ≤ (100000 : Nat))))) (∀ o_2 : List Nat, (And (List.length (ExT.al i) = List.length (hsL (ExT.al i))) (And (ExT.ch i = ExT.ch i) (And ((0 : Nat) + (1 : Nat) ≤ (1 : Nat)) (And ((List.length (hsL (ExT.al i)) + (1 : Nat)) * (32 : Nat) ≤ (150000000000000 : Nat)) (∀ cap2 : Nat, (∀ a_1 : List.length (hsL (ExT.al i)) + (1 : Nat) ≤ cap2, (And ((0 : Int) ≤ (↑(ExT.i i) : Int)) (∃ hk_3 : Int.toNat (↑(ExT.i i) : Int) < List.length l, (∃ l_3 : List BTy, (And (List.map (RK.svs._f [RK.sl (1 : Nat) [RK.int IntKind.u8]] ⟨⟨RK.sv._f (RK.sl (1 : Nat) [RK.int IntKind.u8]) ⟨RK.svs._f [RK.int IntKind.u8] ⟨⟨RK.sv._f (RK.int IntKind.u8) PUnit.unit, PUnit.unit⟩, RK.svs._f [] PUnit.unit, PUnit.unit⟩, ⟨RK.sv._f (RK.int IntKind.u8) PUnit.unit, PUnit.unit⟩, RK.svs._f [] PUnit.unit, PUnit.unit⟩, RK.svs._f [RK.int IntKind.u8] ⟨⟨RK.sv._f (RK.int IntKind.u8) PUnit.unit, PUnit.unit⟩, RK.svs._f [] PUnit.unit, PUnit.unit⟩, ⟨RK.sv._f (RK.int IntKind.u8) PUnit.unit, PUnit.unit⟩, RK.svs._f [] PUnit.unit, PUnit.unit⟩, RK.svs._f [] PUnit.unit, PUnit.unit⟩) (Prod.snd (Prod.fst (Prod.snd (Prod.snd l[Int.toNat (↑(ExT.i i) : Int)])))) = List.map eBl l_3) (And (List.length l_3 ≤ (140737488351232 : Nat)) (∀ y_1 : Value, (∃ l' : List (RK.TL [RK.int IntKind.u8]), (And (List.map (Enc.enc EI) (fstL l_3) = List.map (RK.svs [RK.int IntKind.u8]) l') (And (List.length (ExT.al i) = List.length (ExT.al i)) (And (ExT.ca i = ExT.ca i) (And ((0 : Nat) + (1 : Nat) ≤ (1 : Nat)) (And ((List.length (ExT.al i) + (1 : Nat)) * (24 : Nat) ≤ (150000000000000 : Nat)) (∀ cap2_1 : Nat, (∀ a_2 : List.length (ExT.al i) + (1 : Nat) ≤ cap2_1, (∃ i' : ExT (List.length l), (And (And (List.length l - ExT.i i' < List.length l - ExT.i i) True) (And (And (SV.view x (35 : Nat) (Enc.enc EO) l = SV.view x (35 : Nat) (Enc.enc EO) l) (And (And ((true : Bool) = true) ((0 : Nat) = (0 : Nat))) (And (And ((true : Bool) = true) (And (List.length (ExT.al i') = List.length (ExT.al i ++ castL (encRec [RK.sl (1 : Nat) [RK.int IntKind.u8]]) BE (List.take (1 : Nat) (List.drop (0 : Nat) [Enc.of (encRec [RK.sl (1 : Nat) [RK.int IntKind.u8]]) ((y_1, l'), ())])))) (ExT.ca i' = cap2_1))) (And (And ((true : Bool) = true) (And (List.length (ExT.al i') = List.length (hsL (ExT.al i) ++ castL (encInts IntKind.u8 (32 : Nat)) HR (List.take (1 : Nat) (List.drop (0 : Nat) [Enc.of (encInts IntKind.u8 (32 : Nat)) (shaF b, ())])))) (ExT.ch i' = cap2))) (And ((↑(ExT.i i') : Int) = IntKind.wrap IntKind.i64 ((↑(ExT.i i) : Int) + (1 : Int))) True))))) (And (And (And (ExT.A i' = o_2) (And True (bookAbs (ExT.L i') (ExT.cs i') = bookAbs (Prod.fst (putB L cs (shaF b) (strOfNums b))) (Prod.snd (putB L cs (shaF b) (strOfNums b)))))) (And ((true : Bool) = true) (And (And ((true : Bool) = true) (And (ExT.ca i' = cap2_1) (And (List.map (Enc.enc BE) (ExT.al i') = List.map (Enc.enc BE) (ExT.al i ++ castL (encRec [RK.sl (1 : Nat) [RK.int IntKind.u8]]) BE (List.take (1 : Nat) (List.drop (0 : Nat) [Enc.of (encRec [RK.sl (1 : Nat) [RK.int IntKind.u8]]) ((y_1, l'), ())])))) (∀ x_1 : RK.TL [RK.sl (1 : Nat) [RK.int IntKind.u8]], (∀ a_3 : x_1 ∈ ExT.al i', (∀ s : SV, (∀ a_4 : s ∈ Enc.enc BE x_1, ((SV.isPure s : Bool) = (true))))))))) (And ((true : Bool) = true) (And (And ((true : Bool) = true) (And (ExT.ch i' = cap2) (And (List.map (Enc.enc HR) (hsL (ExT.al i')) = List.map (Enc.enc HR) (hsL (ExT.al i) ++ castL (encInts IntKind.u8 (32 : Nat)) HR (List.take (1 : Nat) (List.drop (0 : Nat) [Enc.of (encInts IntKind.u8 (32 : Nat)) (shaF b, ())])))) (∀ x_1 : List Int, (∀ a_3 : x_1 ∈ hsL (ExT.al i'), (∀ s : SV, (∀ a_4 : s ∈ Enc.enc HR x_1, ((SV.isPure s : Bool) = (true))))))))) (And ((true : Bool) = true) True)))))) ((true : Bool) = true))))))))))))))))))))))))))))))))))))) (And ((0 : Int) ≤ (↑(ExT.i i) : Int)) (∃ hk_2 : Int.toNat (↑(ExT.i i) : Int) < List.length l, (And ((0 : Int) ≤ (↑(ExT.i i) : Int)) (∃ hk_3 : Int.toNat (↑(ExT.i i) : Int) < List.length l, (And (∃ l_2 : List BTy, (And (List.map (RK.svs._f [RK.sl (1 : Nat) [RK.int IntKind.u8]] ⟨⟨RK.sv._f (RK.sl (1 : Nat) [RK.int IntKind.u8]) ⟨RK.svs._f [RK.int IntKind.u8] ⟨⟨RK.sv._f (RK.int IntKind.u8) PUnit.unit, PUnit.unit⟩, RK.svs._f [] PUnit.unit, PUnit.unit⟩, ⟨RK.sv._f (RK.int IntKind.u8) PUnit.unit, PUnit.unit⟩, RK.svs._f [] PUnit.unit, PUnit.unit⟩, RK.svs._f [RK.int IntKind.u8] ⟨⟨RK.sv._f (RK.int IntKind.u8) PUnit.unit, PUnit.unit⟩, RK.svs._f [] PUnit.unit, PUnit.unit⟩, ⟨RK.sv._f (RK.int IntKind.u8) PUnit.unit, PUnit.unit⟩, RK.svs._f [] PUnit.unit, PUnit.unit⟩, RK.svs._f [] PUnit.unit, PUnit.unit⟩) (Prod.snd (Prod.fst (Prod.snd (Prod.snd l[Int.toNat (↑(ExT.i i) : Int)])))) = List.map eBl l_2) (And (And (List.length l_2 * (24 : Nat) ≤ (140737488351232 : Nat)) (∀ y : BTy, (∀ a_1 : y ∈ l_2, (List.length (Prod.snd (Prod.fst y)) ≤ (140737488351232 : Nat))))) (∀ o_2 : PaT l_2, (And (∃ l_3 : List BTy, (And (List.map (Enc.enc BE) (PaT.r o_2) = List.map eBl l_3) (∃ L : Ents, (∃ cs : List ByteArray, (And (And (bookAbs (ExT.L i) (ExT.cs i) = bookAbs L cs) (And (List.length (List.flatMap fB l_3) ≤ (140000000000000 : Nat)) (And (ByteArray.size (Prod.fst (Prod.snd l[Int.toNat (↑(ExT.i i) : Int)])) ≤ (140737488351232 : Nat)) (And (∀ y : BTy, (∀ a_1 : y ∈ l_3, (∀ x_1 : Int, (∀ a_2 : x_1 ∈ bl y, (And ((0 : Int) ≤ x_1) (x_1 < (256 : Int))))))) (List.length L ≤ (100000 : Nat)))))) (∀ o_3 : List Nat, (And (And (And (List.length (ExT.al i) = List.length (hsL (ExT.al i))) (And (ExT.ch i = ExT.ch i) (And ((0 : Nat) + (1 : Nat) ≤ (1 : Nat)) (And ((List.length (hsL (ExT.al i)) + (1 : Nat)) * (32 : Nat) ≤ (150000000000000 : Nat)) (∀ cap2 : Nat, (∀ a_1 : List.length (hsL (ExT.al i)) + (1 : Nat) ≤ cap2, (And ((0 : Int) ≤ (↑(ExT.i i) : Int)) (∃ hk_4 : Int.toNat (↑(ExT.i i) : Int) < List.length l, (And ((0 : Int) ≤ (↑(ExT.i i) : Int)) (∃ hk_5 : Int.toNat (↑(ExT.i i) : Int) < List.length l, (∃ l_4 : List BTy, (And (List.map (RK.svs._f [RK.sl (1 : Nat) [RK.int IntKind.u8]] ⟨⟨RK.sv._f (RK.sl (1 : Nat) [RK.int IntKind.u8]) ⟨RK.svs._f [RK.int IntKind.u8] ⟨⟨RK.sv._f (RK.int IntKind.u8) PUnit.unit, PUnit.unit⟩, RK.svs._f [] PUnit.unit, PUnit.unit⟩, ⟨RK.sv._f (RK.int IntKind.u8) PUnit.unit, PUnit.unit⟩, RK.svs._f [] PUnit.unit, PUnit.unit⟩, RK.svs._f [RK.int IntKind.u8] ⟨⟨RK.sv._f (RK.int IntKind.u8) PUnit.unit, PUnit.unit⟩, RK.svs._f [] PUnit.unit, PUnit.unit⟩, ⟨RK.sv._f (RK.int IntKind.u8) PUnit.unit, PUnit.unit⟩, RK.svs._f [] PUnit.unit, PUnit.unit⟩, RK.svs._f [] PUnit.unit, PUnit.unit⟩) (Prod.snd (Prod.fst (Prod.snd (Prod.snd l[Int.toNat (↑(ExT.i i) : Int)])))) = List.map eBl l_4) (And (And (List.length (List.flatMap fB l_4) ≤ (140000000000000 : Nat)) (ByteArray.size (Prod.fst (Prod.snd l[Int.toNat (↑(ExT.i i) : Int)])) ≤ (140737488351232 : Nat))) (∀ y : Value, (∃ l' : List (RK.TL [RK.int IntKind.u8]), (And (List.map (Enc.enc (encInt IntKind.u8)) (frm (Prod.fst (Prod.snd l[Int.toNat (↑(ExT.i i) : Int)])) l_4) = List.map (RK.svs [RK.int IntKind.u8]) l') (And (List.length (ExT.al i) = List.length (ExT.al i)) (And (ExT.ca i = ExT.ca i) (And ((0 : Nat) + (1 : Nat) ≤ (1 : Nat)) (And ((List.length (ExT.al i) + (1 : Nat)) * (24 : Nat) ≤ (150000000000000 : Nat)) (∀ cap2_1 : Nat, (∀ a_2 : List.length (ExT.al i) + (1 : Nat) ≤ cap2_1, (∃ i' : ExT (List.length l), (And (And (List.length l - ExT.i i' < List.length l - ExT.i i) True) (And (And (SV.view x (35 : Nat) (Enc.enc EO) l = SV.view x (35 : Nat) (Enc.enc EO) l) (And (And ((true : Bool) = true) ((0 : Nat) = (0 : Nat))) (And (And ((true : Bool) = true) (And (List.length (ExT.al i') = List.length (ExT.al i ++ castL (encRec [RK.sl (1 : Nat) [RK.int IntKind.u8]]) BE (List.take (1 : Nat) (List.drop (0 : Nat) [Enc.of (encRec [RK.sl (1 : Nat) [RK.int IntKind.u8]]) ((y, l'), ())])))) (ExT.ca i' = cap2_1))) (And (And ((true : Bool) = true) (And (List.length (ExT.al i') = List.length (hsL (ExT.al i) ++ castL (encInts IntKind.u8 (32 : Nat)) HR (List.take (1 : Nat) (List.drop (0 : Nat) [Enc.of (encInts IntKind.u8 (32 : Nat)) (shaF (frm (Prod.fst (Prod.snd l[Int.toNat (↑(ExT.i i) : Int)])) l_3), ())])))) (ExT.ch i' = cap2))) (And ((↑(ExT.i i') : Int) = IntKind.wrap IntKind.i64 ((↑(ExT.i i) : Int) + (1 : Int))) True))))) (And (And (And (ExT.A i' = o_3) (And True (bookAbs (ExT.L i') (ExT.cs i') = bookAbs (Prod.fst (putB L cs (shaF (frm (Prod.fst (Prod.snd l[Int.toNat (↑(ExT.i i) : Int)])) l_3)) (strOfNums (frm (Prod.fst (Prod.snd l[Int.toNat (↑(ExT.i i) : Int)])) l_3)))) (Prod.snd (putB L cs (shaF (frm (Prod.fst (Prod.snd l[Int.toNat (↑(ExT.i i) : Int)])) l_3)) (strOfNums (frm (Prod.fst (Prod.snd l[Int.toNat (↑(ExT.i i) : Int)])) l_3))))))) (And ((true : Bool) = true) (And (And ((true : Bool) = true) (And (ExT.ca i' = cap2_1) (And (List.map (Enc.enc BE) (ExT.al i') = List.map (Enc.enc BE) (ExT.al i ++ castL (encRec [RK.sl (1 : Nat) [RK.int IntKind.u8]]) BE (List.take (1 : Nat) (List.drop (0 : Nat) [Enc.of (encRec [RK.sl (1 : Nat) [RK.int IntKind.u8]]) ((y, l'), ())])))) (∀ x_1 : RK.TL [RK.sl (1 : Nat) [RK.int IntKind.u8]], (∀ a_3 : x_1 ∈ ExT.al i', (∀ s : SV, (∀ a_4 : s ∈ Enc.enc BE x_1, ((SV.isPure s : Bool) = (true))))))))) (And ((true : Bool) = true) (And (And ((true : Bool) = true) (And (ExT.ch i' = cap2) (And (List.map (Enc.enc HR) (hsL (ExT.al i')) = List.map (Enc.enc HR) (hsL (ExT.al i) ++ castL (encInts IntKind.u8 (32 : Nat)) HR (List.take (1 : Nat) (List.drop (0 : Nat) [Enc.of (encInts IntKind.u8 (32 : Nat)) (shaF (frm (Prod.fst (Prod.snd l[Int.toNat (↑(ExT.i i) : Int)])) l_3), ())])))) (∀ x_1 : List Int, (∀ a_3 : x_1 ∈ hsL (ExT.al i'), (∀ s : SV, (∀ a_4 : s ∈ Enc.enc HR x_1, ((SV.isPure s : Bool) = (true))))))))) (And ((true : Bool) = true) True)))))) ((true : Bool) = true))))))))))))))))))))))))))) True) True))))))) True))))) True))))) (Prod.fst l[Int.toNat (↑(ExT.i i) : Int)] == (1 : Int))))) (∃ i' : ExT (List.length l), (And (And (List.length l - ExT.i i' < List.length l - ExT.i i) True) (And (And (SV.view x (35 : Nat) (Enc.enc EO) l = SV.view x (35 : Nat) (Enc.enc EO) l) (And (And ((true : Bool) = true) ((0 : Nat) = (0 : Nat))) (And (And ((true : Bool) = true) (And (List.length (ExT.al i') = List.length (ExT.al i)) (ExT.ca i' = ExT.ca i))) (And (And ((true : Bool) = true) (And (List.length (ExT.al i') = List.length (ExT.al i)) (ExT.ch i' = ExT.ch i))) (And ((↑(ExT.i i') : Int) = IntKind.wrap IntKind.i64 ((↑(ExT.i i) : Int) + (1 : Int))) True))))) (And (And (And (ExT.A i' = ExT.A i) (And True (bookAbs (ExT.L i') (ExT.cs i') = bookAbs (ExT.L i) (ExT.cs i)))) (And ((true : Bool) = true) (And (And ((true : Bool) = true) (And (ExT.ca i' = ExT.ca i) (And (List.map (Enc.enc BE) (ExT.al i') = List.map (Enc.enc BE) (ExT.al i)) (∀ x_1 : RK.TL [RK.sl (1 : Nat) [RK.int IntKind.u8]], (∀ a_1 : x_1 ∈ ExT.al i', (∀ s : SV, (∀ a_2 : s ∈ Enc.enc BE x_1, ((SV.isPure s : Bool) = (true))))))))) (And ((true : Bool) = true) (And (And ((true : Bool) = true) (And (ExT.ch i' = ExT.ch i) (And (List.map (Enc.enc HR) (hsL (ExT.al i')) = List.map (Enc.enc HR) (hsL (ExT.al i))) (∀ x_1 : List Int, (∀ a_1 : x_1 ∈ hsL (ExT.al i'), (∀ s : SV, (∀ a_2 : s ∈ Enc.enc HR x_1, ((SV.isPure s : Bool) = (true))))))))) (And ((true : Bool) = true) True)))))) ((true : Bool) = true))))) (LoT.b o_1)))))))) (decide ((↑(ExT.i i) : Int) < (↑(List.length l) : Int)))))))))) (And (M.one (SV.v (Value.bool true)) = M.one (SV.v (Value.bool true))) ((true : Bool) = true)) (decide ((200 : Int) < (↑(List.length l) : Int))))) (by kernel_rfl) ?_
  refine bif_dec (fun hl2 => ?_) (fun hl2 => ?_)
  ·
    repeat' first | exact trivial | refine And.intro ?_ ?_ | with_reducible refine bif_dt (by assumption) ?_ | with_reducible refine bif_df (by assumption) ?_ | with_reducible refine bif_dec (fun _ => ?_) (fun _ => ?_) | with_reducible refine bif_not ?_ | with_reducible refine bif_and ?_ | with_reducible refine bif_or ?_ | with_reducible refine bif_t (by assumption) ?_ | with_reducible refine bif_f (by assumption) ?_ | with_reducible refine bif_t (beq_self_eq_true _) ?_ | with_reducible refine bif_b (fun _ => ?_) (fun _ => ?_) | with_reducible refine ⟨_, Eq.refl (List.map _ _), ?_⟩ | (with_reducible refine Exists.intro (by omega) ?_) | rfl | (intro h0; omega) | omega
  refine ⟨trivial, fun o => ⟨⟨0, o, [], [], [], 0, 0, ⟨Inv.nil, fun x hx => (by cases hx), fun x hx => (by cases hx)⟩, Nat.zero_le _, Nat.zero_le _, Nat.zero_le _, Nat.zero_le _, Nat.zero_le _⟩, ?_, ?_⟩⟩
  ·
    repeat' first | exact fun x _ => Enc.pures BE x | exact fun x _ => Enc.pures HR x | exact trivial | refine And.intro ?_ ?_ | with_reducible refine bif_dt (by assumption) ?_ | with_reducible refine bif_df (by assumption) ?_ | with_reducible refine bif_dec (fun _ => ?_) (fun _ => ?_) | with_reducible refine bif_not ?_ | with_reducible refine bif_and ?_ | with_reducible refine bif_or ?_ | with_reducible refine bif_t (by assumption) ?_ | with_reducible refine bif_f (by assumption) ?_ | with_reducible refine bif_t (beq_self_eq_true _) ?_ | with_reducible refine bif_b (fun _ => ?_) (fun _ => ?_) | with_reducible refine ⟨_, Eq.refl (List.map _ _), ?_⟩ | (with_reducible refine Exists.intro (by omega) ?_) | rfl | (intro h0; omega) | omega
  rintro ⟨i, A, L, cs, al, ca, ch, X, hi, hL, ha, hca, hch⟩ -
  dsimp only
  have hsl : (hsL al).length = al.length := List.length_map _
  have hstep : ∀ y b, List.map bl (al ++ [mkB y b]) = List.map bl al ++ [b] := fun y b => by rw [List.map_append, List.map_cons, bl_mk]; rfl
  have hstep2 : ∀ y b, hsL (al ++ [mkB y b]) = hsL al ++ [shaF b] := fun y b => by
    show List.map (fun z => shaF (bl z)) (al ++ [mkB y b]) = _
    rw [List.map_append, List.map_cons, bl_mk]; rfl
  refine bif_dec (fun h4 => ?_) (fun h4 => ?_)
  · have hi' : i < l.length := by omega
    have hO := ho _ (List.getElem_mem hi')
    have hw : IntKind.i64.wrap ((i : Int) + 1) = ((i + 1 : Nat) : Int) := inext (by omega)
    simp only [Int.toNat_natCast, hw, hsl]
    refine ⟨by omega, hi', ol l[i], rfl, hO.l, fun o1 => bif_b (fun h1 => ?_) (fun h1 => ?_)⟩
    · refine ⟨⟨i + 1, A, L, cs, al, ca, ch, X, hi', by omega, by omega, hca, hch⟩, ⟨show l.length - (i + 1) < l.length - i by omega, trivial⟩, ?_⟩
      repeat' first | exact fun x _ => Enc.pures BE x | exact fun x _ => Enc.pures HR x | exact trivial | refine And.intro ?_ ?_ | with_reducible refine bif_dt (by assumption) ?_ | with_reducible refine bif_df (by assumption) ?_ | with_reducible refine bif_dec (fun _ => ?_) (fun _ => ?_) | with_reducible refine bif_not ?_ | with_reducible refine bif_and ?_ | with_reducible refine bif_or ?_ | with_reducible refine bif_t (by assumption) ?_ | with_reducible refine bif_f (by assumption) ?_ | with_reducible refine bif_t (beq_self_eq_true _) ?_ | with_reducible refine bif_b (fun _ => ?_) (fun _ => ?_) | with_reducible refine ⟨_, Eq.refl (List.map _ _), ?_⟩ | (with_reducible refine Exists.intro (by omega) ?_) | rfl | (intro h0; omega) | omega
    obtain ⟨h2, h3⟩ := o1.h h1
    have hfl := flat_le h3
    have hfb := fstB_le h3
    have hfB := fstB_By hO.b
    refine ⟨by omega, hi', bif_b (fun hk => ?_) (fun hk => ?_)⟩
    · refine ⟨by omega, hi', by omega, hi', ?_⟩
      have hf2 := frm_len (otag l[i]) (ol l[i])
      have hfe : ∀ o : PaT (ol l[i]), frm (otag l[i]) o.r = frm (otag l[i]) (ol l[i]) := fun o => by unfold frm; rw [o.he]
      have hfl3 : ∀ o : PaT (ol l[i]), o.r.flatMap fB = (ol l[i]).flatMap fB := fun o => by rw [fB_flat, fB_flat, o.he]
      have hY : ∀ (o : PaT (ol l[i])), ∀ y ∈ o.r, By (bl y) := fun o y hy => by
        have h9 : bl y ∈ (ol l[i]).map bl := by rw [← o.he]; exact List.mem_map_of_mem hy
        obtain ⟨z, hz, e⟩ := List.mem_map.1 h9
        rw [← e]
        exact hO.b z hz
      refine ⟨⟨ol l[i], rfl, ⟨by omega, fun z hz => by have := h3 z hz; have := bl_length z; omega⟩, fun o2 => ⟨⟨o2.r, rfl, L, cs, ⟨rfl, by rw [hfl3]; omega, hO.t, hY o2, by omega⟩, fun A2 => ⟨⟨⟨trivial, trivial, by omega, by omega, fun cap2 k2 => ⟨by omega, hi', by omega, hi', ol l[i], rfl, ⟨by omega, hO.t⟩, fun y2 => ⟨mkL (frm (otag l[i]) (ol l[i])), encmk _, trivial, trivial, by omega, by omega, fun cap3 k3 => ?_⟩⟩⟩, trivial⟩, trivial⟩⟩, trivial⟩⟩, trivial⟩
      show ∃ i' : ExT l.length, _
      rw [show (l[i]).2.1 = otag l[i] from rfl, hfe, castE, ofE, castHR]
      refine ⟨⟨i + 1, A2, _, _, al ++ [mkB y2 (frm (otag l[i]) (ol l[i]))], cap3, cap2, by rw [hstep]; exact X.put (frm_By hO.b) (by omega) (by omega), hi', by have := putB_len L cs (shaF (frm (otag l[i]) (ol l[i]))) (strOfNums (frm (otag l[i]) (ol l[i]))); omega, by rw [List.length_append]; simp; omega, by rw [List.length_append]; exact k3, by rw [List.length_append]; exact k2⟩, ⟨show l.length - (i + 1) < l.length - i by omega, trivial⟩, ?_⟩
      simp only [hstep2]
      repeat' first | exact fun x _ => Enc.pures BE x | exact fun x _ => Enc.pures HR x | (rw [List.length_append, List.length_append, hsl]; rfl) | exact trivial | refine And.intro ?_ ?_ | with_reducible refine bif_dt (by assumption) ?_ | with_reducible refine bif_df (by assumption) ?_ | with_reducible refine bif_dec (fun _ => ?_) (fun _ => ?_) | with_reducible refine bif_not ?_ | with_reducible refine bif_and ?_ | with_reducible refine bif_or ?_ | with_reducible refine bif_t (by assumption) ?_ | with_reducible refine bif_f (by assumption) ?_ | with_reducible refine bif_t (beq_self_eq_true _) ?_ | with_reducible refine bif_b (fun _ => ?_) (fun _ => ?_) | with_reducible refine ⟨_, Eq.refl (List.map _ _), ?_⟩ | (with_reducible refine Exists.intro (by omega) ?_) | rfl | (intro h0; omega) | omega
    · refine ⟨by omega, hi', ol l[i], rfl, hO.l, fun y => ⟨fstB (ol l[i]), fstL_enc _, L, cs, ⟨rfl, hfB, by omega, by omega⟩, fun A2 => ⟨trivial, trivial, by omega, by omega, fun cap2 k2 => ⟨by omega, hi', ol l[i], rfl, hO.l, fun y2 => ⟨mkL (fstB (ol l[i])), (fstL_enc _).trans (encmk _), trivial, trivial, by omega, by omega, fun cap3 k3 => ?_⟩⟩⟩⟩⟩
      rw [castE, ofE, castHR]
      refine ⟨⟨i + 1, A2, _, _, al ++ [mkB y2 (fstB (ol l[i]))], cap3, cap2, by rw [hstep]; exact X.put hfB (by omega) (by omega), hi', by have := putB_len L cs (shaF (fstB (ol l[i]))) (strOfNums (fstB (ol l[i]))); omega, by rw [List.length_append]; simp; omega, by rw [List.length_append]; exact k3, by rw [List.length_append]; exact k2⟩, ⟨show l.length - (i + 1) < l.length - i by omega, trivial⟩, ?_⟩
      simp only [hstep2]
      repeat' first | exact fun x _ => Enc.pures BE x | exact fun x _ => Enc.pures HR x | (rw [List.length_append, List.length_append, hsl]; rfl) | exact trivial | refine And.intro ?_ ?_ | with_reducible refine bif_dt (by assumption) ?_ | with_reducible refine bif_df (by assumption) ?_ | with_reducible refine bif_dec (fun _ => ?_) (fun _ => ?_) | with_reducible refine bif_not ?_ | with_reducible refine bif_and ?_ | with_reducible refine bif_or ?_ | with_reducible refine bif_t (by assumption) ?_ | with_reducible refine bif_f (by assumption) ?_ | with_reducible refine bif_t (beq_self_eq_true _) ?_ | with_reducible refine bif_b (fun _ => ?_) (fun _ => ?_) | with_reducible refine ⟨_, Eq.refl (List.map _ _), ?_⟩ | (with_reducible refine Exists.intro (by omega) ?_) | rfl | (intro h0; omega) | omega
  · refine ⟨L, cs, ⟨rfl, X.I.two⟩, fun o1 => bif_b (fun h5 => ?_) (fun h5 => ?_)⟩
    · obtain ⟨k1, k2, k3, k4, k5⟩ := X.check h5
      exact ⟨_, rfl, _, rfl, ⟨k2, k3, k4, k5⟩, by rw [k1], rfl⟩
    · have hcs : cs = [] := by
        cases cs with
        | nil => rfl
        | cons a r => cases h5
      refine ⟨⟨⟨i, o1.2, L, cs, al, ca, ch, X, by omega, hL, ha, hca, hch⟩, 0, Nat.zero_le _, hcs⟩, ?_, ?_⟩
      ·
        repeat' first | exact fun x _ => Enc.pures BE x | exact fun x _ => Enc.pures HR x | exact trivial | refine And.intro ?_ ?_ | with_reducible refine bif_dt (by assumption) ?_ | with_reducible refine bif_df (by assumption) ?_ | with_reducible refine bif_dec (fun _ => ?_) (fun _ => ?_) | with_reducible refine bif_not ?_ | with_reducible refine bif_and ?_ | with_reducible refine bif_or ?_ | with_reducible refine bif_t (by assumption) ?_ | with_reducible refine bif_f (by assumption) ?_ | with_reducible refine bif_t (beq_self_eq_true _) ?_ | with_reducible refine bif_b (fun _ => ?_) (fun _ => ?_) | with_reducible refine ⟨_, Eq.refl (List.map _ _), ?_⟩ | (with_reducible refine Exists.intro (by omega) ?_) | rfl | (intro h0; omega) | omega
      clear X hi hL ha hca hch hcs h5 hstep hstep2 hsl h4 hl2
      rintro ⟨⟨i, A, L, cs, al, ca, ch, X, hi, hL, ha, hca, hch⟩, j, hj, hcs⟩ -
      dsimp only
      have hsl : (hsL al).length = al.length := List.length_map _
      refine bif_dec (fun h6 => ?_) (fun h6 => ?_)
      rotate_left
      ·
        repeat' first | exact trivial | refine And.intro ?_ ?_ | with_reducible refine bif_dt (by assumption) ?_ | with_reducible refine bif_df (by assumption) ?_ | with_reducible refine bif_dec (fun _ => ?_) (fun _ => ?_) | with_reducible refine bif_not ?_ | with_reducible refine bif_and ?_ | with_reducible refine bif_or ?_ | with_reducible refine bif_t (by assumption) ?_ | with_reducible refine bif_f (by assumption) ?_ | with_reducible refine bif_t (beq_self_eq_true _) ?_ | with_reducible refine bif_b (fun _ => ?_) (fun _ => ?_) | with_reducible refine ⟨_, Eq.refl (List.map _ _), ?_⟩ | (with_reducible refine Exists.intro (by omega) ?_) | rfl | (intro h0; omega) | omega
      dsimp only at hj
      have hj' : j < al.length := by omega
      have hg : (hsL al)[j]'(by rw [hsl]; exact hj') = shaF (bl al[j]) := List.getElem_map _
      obtain ⟨k1, k2⟩ := X.seek hcs (b := bl al[j]) (List.mem_map_of_mem (List.getElem_mem hj'))
      have hw : IntKind.i64.wrap ((j : Int) + 1) = ((j + 1 : Nat) : Int) := inext (by omega)
      simp only [Int.toNat_natCast, hg, hw]
      refine ⟨by omega, hj', by omega, L, cs, ⟨rfl, shaF_length _, by omega⟩, fun o2 => ?_⟩
      refine bif_f (by rw [k2]; rfl) ⟨isB _, by omega, hj', hj', isEI _, ?_⟩
      have hbl : strOfNums (bytesOf EI.enc (bsl al[j])) = strOfNums (bl al[j]) := rfl
      refine bif_f ?_ ⟨⟨⟨i, o2.2, L, cs, al, ca, ch, X, hi, hL, ha, hca, hch⟩, j + 1, hj', hcs⟩, ⟨show al.length - (j + 1) < al.length - j by omega, trivial⟩, ?_⟩
      · rw [bytesB, beq_ba, seek_str, k1]
        show (!decide (strOfNums (bl al[j]) = strOfNums (bytesOf EI.enc (bsl al[j])))) = false
        rw [hbl, decide_eq_true rfl]
        rfl
      repeat' first | exact fun x _ => Enc.pures BE x | exact fun x _ => Enc.pures HR x | exact trivial | refine And.intro ?_ ?_ | with_reducible refine bif_dt (by assumption) ?_ | with_reducible refine bif_df (by assumption) ?_ | with_reducible refine bif_dec (fun _ => ?_) (fun _ => ?_) | with_reducible refine bif_not ?_ | with_reducible refine bif_and ?_ | with_reducible refine bif_or ?_ | with_reducible refine bif_t (by assumption) ?_ | with_reducible refine bif_f (by assumption) ?_ | with_reducible refine bif_t (beq_self_eq_true _) ?_ | with_reducible refine bif_b (fun _ => ?_) (fun _ => ?_) | with_reducible refine ⟨_, Eq.refl (List.map _ _), ?_⟩ | (with_reducible refine Exists.intro (by omega) ?_) | rfl | (intro h0; omega) | omega
end Go.Proofs.YtblapbjafbmndaaDoor
