/- What must come; bytes with marked room behind them; the law DigestSums. -/
import Derived.Test.YtblapbjafbmndaaDoorP7
import Derived.Test.YtblapbjafbmndaaDoorSx24
namespace Go.Proofs.YtblapbjafbmndaaDoor
open Go Go.Sx Go.Sha
set_option linter.unusedVariables false
set_option linter.unusedSimpArgs false
set_option maxRecDepth 100000
set_option maxHeartbeats 4000000

theorem strEq {s t : ByteArray} (h : sl s = sl t) : (s.toList == t.toList) = true := by
  rw [beq_sl]
  exact decide_eq_true h
theorem knows_spec : SFun Tryd.prog 15 [] (bool true) := by
  refine SFun.inm [(17, sumT)] (SOK.cons sum_ok SOK.nil) [(21, frameT)] (MSOK.cons frame_ok MSOK.nil) tok mixed [] IOK.nil true [] [] Tryd.call15 Tryd.func15 rfl (by rfl) ?_
  refine Eq.mp (α := (And ((0 : Nat) < (3 : Nat)) (And ((0 : Nat) + (3 : Nat) ≤ (3 : Nat)) (And ((3 : Nat) ≤ (3 : Nat)) (And (∀ y : Int, ((true : Bool) = true)) (∀ x : Value, (∃ b : List Int, (And (List.map (Enc.enc (encInt IntKind.u8)) (List.take (3 : Nat) (List.drop (0 : Nat) [Enc.of (encInt IntKind.u8) ((97 : Int), ()), Enc.of (encInt IntKind.u8) ((98 : Int), ()), Enc.of (encInt IntKind.u8) ((99 : Int), ())])) = List.map eB b) (And (And (∀ x_1 : Int, (∀ a : x_1 ∈ b, (And ((0 : Int) ≤ x_1) (x_1 < (256 : Int))))) (List.length b ≤ (140737488351232 : Nat))) (And ((0 : Int) ≤ (0 : Int)) (And (Int.toNat (0 : Int) < (32 : Nat)) (And (Int.toNat (0 : Int) < (32 : Nat)) (@Bool.rec (fun _ => Prop) (And (M.one (SV.v (Value.bool false)) = M.one (SV.v (Value.bool true))) ((true : Bool) = true)) (And ((0 : Int) ≤ (1 : Int)) (And (Int.toNat (1 : Int) < (32 : Nat)) (And (Int.toNat (1 : Int) < (32 : Nat)) (@Bool.rec (fun _ => Prop) (And (M.one (SV.v (Value.bool false)) = M.one (SV.v (Value.bool true))) ((true : Bool) = true)) (And ((0 : Int) ≤ (31 : Int)) (And (Int.toNat (31 : Int) < (32 : Nat)) (And (Int.toNat (31 : Int) < (32 : Nat)) (@Bool.rec (fun _ => Prop) (And (M.one (SV.v (Value.bool false)) = M.one (SV.v (Value.bool true))) ((true : Bool) = true)) (And ((0 : Nat) + (1 : Nat) ≤ (1 : Nat)) (And ((1 : Nat) ≤ (1 : Nat)) (And (∀ y : Int, ((true : Bool) = true)) (∀ x_1 : Value, (∃ l' : List (RK.TL [RK.int IntKind.u8]), (And (List.map (Enc.enc (encInt IntKind.u8)) (List.take (1 : Nat) (List.drop (0 : Nat) [Enc.of (encInt IntKind.u8) ((7 : Int), ())])) = List.map (RK.svs [RK.int IntKind.u8]) l') (And ((0 : Nat) + (1 : Nat) ≤ (1 : Nat)) (And ((1 : Nat) ≤ (1 : Nat)) (And (∀ y : RK.TL [RK.sl (1 : Nat) [RK.int IntKind.u8]], ((true : Bool) = true)) (∀ x_2 : Value, (∃ l : List BTy, (And (List.map (Enc.enc (encRec [RK.sl (1 : Nat) [RK.int IntKind.u8]])) (List.take (1 : Nat) (List.drop (0 : Nat) [Enc.of (encRec [RK.sl (1 : Nat) [RK.int IntKind.u8]]) ((x_1, l'), ())])) = List.map eBl l) (And (And (List.length (List.flatMap fB l) ≤ (140000000000000 : Nat)) (ByteArray.size { data := #[(97 : UInt8), (98 : UInt8)] } ≤ (140737488351232 : Nat))) (∀ y : Value, (And (∀ x_3 : Int, (∀ a : x_3 ∈ frm { data := #[(97 : UInt8), (98 : UInt8)] } l, (∃ b_1 : Int, (Enc.enc (encInt IntKind.u8) x_3 = [SV.v (Value.int IntKind.u8 b_1)])))) (And (M.one (SV.v (Value.bool (ByteArray.toList (strOfNums (bytesOf (Enc.enc (encInt IntKind.u8)) (frm { data := #[(97 : UInt8), (98 : UInt8)] } l))) == ByteArray.toList { data := #[(2 : UInt8), (97 : UInt8), (98 : UInt8), (0 : UInt8), (0 : UInt8), (0 : UInt8), (0 : UInt8), (0 : UInt8), (0 : UInt8), (0 : UInt8), (1 : UInt8), (7 : UInt8)] }))) = M.one (SV.v (Value.bool true))) ((true : Bool) = true))))))))))))))))) (List.getD (shaF b) (Int.toNat (31 : Int)) (0 : Int) == (173 : Int)))))) (List.getD (shaF b) (Int.toNat (1 : Int)) (0 : Int) == (120 : Int)))))) (List.getD (shaF b) (Int.toNat (0 : Int)) (0 : Int) == (186 : Int))))))))))))))) (by kernel_rfl) ?_
  have s0 : (shaF [97, 98, 99]).getD (Int.toNat 0) 0 = 186 := by decide +kernel
  have s1 : (shaF [97, 98, 99]).getD (Int.toNat 1) 0 = 120 := by decide +kernel
  have s31 : (shaF [97, 98, 99]).getD (Int.toNat 31) 0 = 173 := by decide +kernel
  repeat (with_reducible refine And.intro (by first | exact trivial | omega | decide | exact fun _ => rfl) ?_)
  intro x
  refine ⟨[97, 98, 99], rfl, ⟨by decide, by decide⟩, ?_⟩
  repeat (with_reducible refine And.intro (by first | exact trivial | omega | decide) ?_)
  rw [s0, s1, s31]
  generalize shaF [97, 98, 99] = S at *
  refine ⟨by decide, by decide, by decide, ?_⟩
  refine ⟨by decide, by decide, by decide, ?_⟩
  refine ⟨by decide, by decide, fun _ => rfl, fun x1 => ⟨mkL [7], encmk _, by decide, by decide, fun _ => rfl, fun x2 => ⟨[mkB x1 [7]], rfl, ⟨?_, by decide⟩, fun y => ⟨isB _, ?_, rfl⟩⟩⟩⟩
  · rw [List.flatMap_cons, List.flatMap_nil, fB_mk, List.append_nil, blb_length]
    decide
  · rw [strEq (by kernel_rfl)]
def knowsT : List M → (M → Prop) → Prop
  | [], K => K (bool true)
  | _, _ => False
theorem knows_ok : POK Tryd.prog 15 knowsT := by
  intro ms K h
  unfold knowsT at h ⊢
  split at h
  · exact ⟨_, h, (knows_spec), rfl, fun _ hk => hk⟩
  · exact h.elim

structure CapT (n : Nat) where
  cap : Nat
  h : n ≤ cap
theorem lent_spec (x : Value) {l : List Int} (hl : l.length ≤ 140737488351232) : SMem Tryd.prog 16 [byV x l] 0 []
    (fun c : CapT (l.length + 2) => ⟨1, .one (.slc 0 1 0 l.length c.cap), [(0, .row 1 (encInt .u8) (l ++ [55, 56]) c.cap)]⟩) := by
  refine SMem.inm [] SOK.nil [] MSOK.nil tok mixed [] IOK.nil true [] [] Tryd.call16 Tryd.func16 rfl (by rfl) ?_
  refine Eq.mp (α := (And ((0 : Nat) = (0 : Nat)) (And ((0 : Nat) = (0 : Nat)) (∃ ys : List Int, (And (List.map (Enc.enc (encInt IntKind.u8)) ys = List.map (Enc.enc (encInt IntKind.u8)) l) (And (((0 : Nat) + List.length ys) * (1 : Nat) ≤ (150000000000000 : Nat)) (∀ cap2 : Nat, (∀ a : (0 : Nat) + List.length ys ≤ cap2, (And (List.length ([] ++ ys) = List.length ([] ++ ys)) (And (cap2 = cap2) (And ((0 : Nat) + (2 : Nat) ≤ (2 : Nat)) (And ((List.length ([] ++ ys) + (2 : Nat)) * (1 : Nat) ≤ (150000000000000 : Nat)) (∀ cap2_1 : Nat, (∀ a_1 : List.length ([] ++ ys) + (2 : Nat) ≤ cap2_1, (And ((0 : Int) ≤ (↑(List.length l) : Int)) (And ((0 : Nat) ≤ Int.toNat (↑(List.length l) : Int)) (And (Int.toNat (↑(List.length l) : Int) ≤ cap2_1) (And (cap2_1 ≤ cap2_1) (∃ o : CapT (List.length l + (2 : Nat)), (And (And (And ((true : Bool) = true) (And ((0 : Nat) = if cap2_1 = (0 : Nat) then (0 : Nat) else (0 : Nat) + (0 : Nat)) (And (List.length l = Int.toNat (↑(List.length l) : Int) - (0 : Nat)) (CapT.cap o = cap2_1 - (0 : Nat))))) True) (And (And (And ((true : Bool) = true) (And (CapT.cap o = cap2_1) (And (List.map (Enc.enc (encInt IntKind.u8)) (l ++ [(55 : Int), (56 : Int)]) = List.map (Enc.enc (encInt IntKind.u8)) ([] ++ ys ++ castL (encInt IntKind.u8) (encInt IntKind.u8) (List.take (2 : Nat) (List.drop (0 : Nat) [Enc.of (encInt IntKind.u8) ((55 : Int), ()), Enc.of (encInt IntKind.u8) ((56 : Int), ())])))) (∀ x_1 : Int, (∀ a_2 : x_1 ∈ l ++ [(55 : Int), (56 : Int)], (∀ s : SV, (∀ a_3 : s ∈ Enc.enc (encInt IntKind.u8) x_1, ((SV.isPure s : Bool) = true)))))))) (And ((true : Bool) = true) True)) ((true : Bool) = true)))))))))))))))))))))) (by kernel_rfl) ?_
  have hw : IntKind.i64.wrap ((l.length : Int) + 2) = ((l.length + 2 : Nat) : Int) := by rw [wrap64 (by omega) (by omega)]; omega
  repeat (with_reducible refine And.intro (by first | exact trivial | omega | decide) ?_)
  refine ⟨l, rfl, by omega, fun c1 k1 => ?_⟩
  simp only [List.nil_append, List.drop_zero, castB, ofB, List.take_succ_cons, List.take_zero, Int.toNat_natCast, Nat.sub_zero, Nat.add_zero, ite_self]
  repeat (with_reducible refine And.intro (by first | exact trivial | omega | decide) ?_)
  intro c2 k2
  refine ⟨by omega, by omega, by omega, Nat.le_refl _, ⟨c2, by omega⟩, ?_⟩
  repeat' first | exact encB_pure _ | exact trivial | refine And.intro ?_ ?_ | with_reducible refine bif_dt (by assumption) ?_ | with_reducible refine bif_df (by assumption) ?_ | with_reducible refine bif_dec (fun _ => ?_) (fun _ => ?_) | with_reducible refine bif_not ?_ | with_reducible refine bif_and ?_ | with_reducible refine bif_or ?_ | with_reducible refine bif_t (by assumption) ?_ | with_reducible refine bif_f (by assumption) ?_ | with_reducible refine bif_t (beq_self_eq_true _) ?_ | with_reducible refine bif_b (fun _ => ?_) (fun _ => ?_) | with_reducible refine ⟨_, Eq.refl (List.map _ _), ?_⟩ | (with_reducible refine Exists.intro (by omega) ?_) | rfl | (intro h0; omega) | omega
def lentT : MT := fun ms n h K => match ms with
  | [.one (.view vx0 ve0 en0 vl0)] => bif Nat.beq ve0 1 && noDup [] then ∃ l : List (Int), vl0.map en0 = l.map eB ∧ (l.length ≤ 140737488351232) ∧ (∀ c : CapT (l.length + 2), K (n + 1) (.one (.slc n 1 0 l.length c.cap)) ([(n, .row 1 (encInt .u8) (l ++ [55, 56]) c.cap)] ++ delL [] h)) else False
  | _ => False
theorem lent_mono : MMono lentT := by
  intro ms n h K K' hkk hk
  unfold lentT at hk ⊢
  split at hk
  · rename_i vx0 ve0 va0 en0 vl0
    obtain ⟨hb, y0, z0, h1, h2⟩ := cond_false_elim hk
    rw [hb]
    exact ⟨y0, z0, h1, fun o => hkk _ _ _ (h2 o)⟩
  · exact hk.elim
theorem lent_ok : MOK Tryd.prog 16 lentT := by
  refine ⟨?_, lent_mono⟩
  intro ms n hB K hk
  unfold lentT at hk
  split at hk
  · rename_i vx0 ve0 va0 en0 vl0
    obtain ⟨hb, l, he0, h, hk2⟩ := cond_false_elim hk
    clear hk
    simp only [Bool.and_eq_true] at hb
    obtain ⟨hc0, hnd⟩ := hb
    have hs0 := Nat.eq_of_beq_eq_true hc0
    subst hs0
    refine SCall.seen ?_ (.cons (.view he0) .nil)
    exact (lent_spec _ h).use (fun _ => 0) rfl rfl trivial hnd (fun j hj => absurd hj (Nat.not_lt_zero j)) (fun o => hk2 o)
  · exact hk.elim

theorem sums_spec (x : Value) {b : List Int} (hb : By b) (hl : b.length ≤ 140737488351232) : SFun Tryd.prog 3 [byV x b] (bool true) := by
  refine SFun.inm [(17, sumT), (18, rSumT), (15, knowsT)] (SOK.cons sum_ok (SOK.cons rSum_ok (SOK.cons knows_ok SOK.nil))) [(16, lentT)] (MSOK.cons lent_ok MSOK.nil) tok mixed [(19, ⟨Tryd.f19, true, [], []⟩)] (IOK.cons Tryd.func19 Tryd.call19 IOK.nil) true [] [] Tryd.call3 Tryd.func3 rfl (by rfl) ?_
  refine Eq.mp (α := (@Bool.rec (fun _ => Prop) (∃ l : List Int, (And (List.map (Enc.enc (encInt IntKind.u8)) b = List.map eB l) (And (List.length l ≤ (140737488351232 : Nat)) (∀ c : CapT (List.length l + (2 : Nat)), (And ((0 : Nat) + List.length l ≤ List.length (l ++ [(55 : Int), (56 : Int)])) (And (List.length l ≤ CapT.cap c) (And (∀ y : Int, ((true : Bool) = true)) (∀ x_1 : Value, (∃ b_1 : List Int, (And (List.map (Enc.enc (encInt IntKind.u8)) (List.take (List.length l) (List.drop (0 : Nat) (l ++ [(55 : Int), (56 : Int)]))) = List.map eB b_1) (And (And (∀ x_2 : Int, (∀ a : x_2 ∈ b_1, (And ((0 : Int) ≤ x_2) (x_2 < (256 : Int))))) (List.length b_1 ≤ (140737488351232 : Nat))) (∃ b_2 : List Int, (And (List.map (Enc.enc (encInt IntKind.u8)) b = List.map eB b_2) (And (And (∀ x_2 : Int, (∀ a : x_2 ∈ b_2, (And ((0 : Int) ≤ x_2) (x_2 < (256 : Int))))) (List.length b_2 ≤ (140737488351232 : Nat))) (@Bool.rec (fun _ => Prop) (And (M.one (SV.v (Value.bool false)) = M.one (SV.v (Value.bool true))) ((true : Bool) = true)) (And ((0 : Int) ≤ IntKind.wrap IntKind.i64 ((↑(List.length b) : Int) + (2 : Int))) (And ((0 : Nat) ≤ Int.toNat (IntKind.wrap IntKind.i64 ((↑(List.length b) : Int) + (2 : Int)))) (And (Int.toNat (IntKind.wrap IntKind.i64 ((↑(List.length b) : Int) + (2 : Int))) ≤ CapT.cap c) (And (CapT.cap c ≤ CapT.cap c) (And ((0 : Int) ≤ (↑(List.length b) : Int)) (And ((0 : Nat) ≤ Int.toNat (↑(List.length b) : Int)) (And (Int.toNat (↑(List.length b) : Int) ≤ CapT.cap c - (0 : Nat)) (And (CapT.cap c - (0 : Nat) ≤ CapT.cap c - (0 : Nat)) (And ((if CapT.cap c - (0 : Nat) = (0 : Nat) then if CapT.cap c = (0 : Nat) then (0 : Nat) else (0 : Nat) + (0 : Nat) else (if CapT.cap c = (0 : Nat) then (0 : Nat) else (0 : Nat) + (0 : Nat)) + (0 : Nat)) + (Int.toNat (↑(List.length b) : Int) - (0 : Nat)) ≤ List.length (l ++ [(55 : Int), (56 : Int)])) (And (∀ x_2 : Int, (∀ a : x_2 ∈ l ++ [(55 : Int), (56 : Int)], (∃ b_3 : Int, (Enc.enc (encInt IntKind.u8) x_2 = [SV.v (Value.int IntKind.u8 b_3)])))) (And (∀ x_2 : Int, (∀ a : x_2 ∈ b, (∃ b_3 : Int, (Enc.enc (encInt IntKind.u8) x_2 = [SV.v (Value.int IntKind.u8 b_3)])))) (@Bool.rec (fun _ => Prop) (And (M.one (SV.v (Value.bool false)) = M.one (SV.v (Value.bool true))) ((true : Bool) = true)) (And ((0 : Int) ≤ (↑(List.length b) : Int)) (And (Int.toNat (↑(List.length b) : Int) < Int.toNat (IntKind.wrap IntKind.i64 ((↑(List.length b) : Int) + (2 : Int))) - (0 : Nat)) (∃ hi : (if CapT.cap c = (0 : Nat) then (0 : Nat) else (0 : Nat) + (0 : Nat)) + Int.toNat (↑(List.length b) : Int) < List.length (l ++ [(55 : Int), (56 : Int)]), (@Bool.rec (fun _ => Prop) (And (M.one (SV.v (Value.bool false)) = M.one (SV.v (Value.bool true))) ((true : Bool) = true)) (And ((0 : Int) ≤ IntKind.wrap IntKind.i64 ((↑(List.length b) : Int) + (1 : Int))) (And (Int.toNat (IntKind.wrap IntKind.i64 ((↑(List.length b) : Int) + (1 : Int))) < Int.toNat (IntKind.wrap IntKind.i64 ((↑(List.length b) : Int) + (2 : Int))) - (0 : Nat)) (∃ hi_1 : (if CapT.cap c = (0 : Nat) then (0 : Nat) else (0 : Nat) + (0 : Nat)) + Int.toNat (IntKind.wrap IntKind.i64 ((↑(List.length b) : Int) + (1 : Int))) < List.length (l ++ [(55 : Int), (56 : Int)]), (@Bool.rec (fun _ => Prop) (And (M.one (SV.v (Value.bool false)) = M.one (SV.v (Value.bool true))) ((true : Bool) = true)) (And (M.one (SV.v (Value.bool true)) = M.one (SV.v (Value.bool true))) ((true : Bool) = true)) ((l ++ [(55 : Int), (56 : Int)])[(if CapT.cap c = (0 : Nat) then (0 : Nat) else (0 : Nat) + (0 : Nat)) + Int.toNat (IntKind.wrap IntKind.i64 ((↑(List.length b) : Int) + (1 : Int)))] == (56 : Int)))))) ((l ++ [(55 : Int), (56 : Int)])[(if CapT.cap c = (0 : Nat) then (0 : Nat) else (0 : Nat) + (0 : Nat)) + Int.toNat (↑(List.length b) : Int)] == (55 : Int)))))) (ByteArray.toList (strOfNums (bytesOf (Enc.enc (encInt IntKind.u8)) (List.take (Int.toNat (↑(List.length b) : Int) - (0 : Nat)) (List.drop (if CapT.cap c - (0 : Nat) = (0 : Nat) then if CapT.cap c = (0 : Nat) then (0 : Nat) else (0 : Nat) + (0 : Nat) else (if CapT.cap c = (0 : Nat) then (0 : Nat) else (0 : Nat) + (0 : Nat)) + (0 : Nat)) (l ++ [(55 : Int), (56 : Int)]))))) == ByteArray.toList (strOfNums (bytesOf (Enc.enc (encInt IntKind.u8)) b))))))))))))))) (shaF b_1 == shaF b_2)))))))))))))))) (And (M.one (SV.v (Value.bool true)) = M.one (SV.v (Value.bool true))) ((true : Bool) = true)) (decide ((20000 : Int) < (↑(List.length b) : Int))))) (by kernel_rfl) ?_
  have hw1 : IntKind.i64.wrap ((b.length : Int) + 1) = ((b.length + 1 : Nat) : Int) := by rw [wrap64 (by omega) (by omega)]; omega
  have hw2 : IntKind.i64.wrap ((b.length : Int) + 2) = ((b.length + 2 : Nat) : Int) := by rw [wrap64 (by omega) (by omega)]; omega
  refine bif_dec (fun h => ?_) (fun h => ?_)
  · exact ⟨rfl, rfl⟩
  refine ⟨b, rfl, hl, ?_⟩
  rintro ⟨c, hc⟩
  have t1 : List.take b.length (b ++ [55, 56]) = b := by rw [List.take_append_of_le_length (Nat.le_refl _), List.take_length]
  have i1 : (b ++ [55, 56])[b.length]? = some (55 : Int) := by rw [List.getElem?_append_right (Nat.le_refl _), Nat.sub_self]; rfl
  have i2 : (b ++ [55, 56])[b.length + 1]? = some (56 : Int) := by rw [List.getElem?_append_right (by omega), show b.length + 1 - b.length = 1 by omega]; rfl
  have hL : (b ++ [55, 56]).length = b.length + 2 := by simp
  simp only [List.drop_zero, castB, ofB, bytesB, Int.toNat_natCast, Nat.sub_zero, Nat.add_zero, Nat.zero_add, ite_self, hw1, hw2, t1, hL]
  refine ⟨by omega, by omega, fun _ => trivial, fun x1 => ⟨b, rfl, ⟨hb, hl⟩, b, rfl, ⟨hb, hl⟩, ?_⟩⟩
  generalize shaF b = S
  refine bif_t (beq_self_eq_true _) ?_
  repeat (with_reducible refine And.intro (by first | exact trivial | omega | decide | exact isB _) ?_)
  refine bif_t (beq_self_eq_true _) ?_
  refine ⟨by omega, by omega, by omega, ?_⟩
  refine bif_t ?_ ?_
  · rw [beq_iff_eq, ← Option.some.injEq, ← List.getElem?_eq_getElem]; exact i1
  refine ⟨by omega, by omega, by omega, ?_⟩
  refine bif_t ?_ ?_
  · rw [beq_iff_eq, ← Option.some.injEq, ← List.getElem?_eq_getElem]; exact i2
  repeat' first | exact trivial | refine And.intro ?_ ?_ | with_reducible refine bif_dt (by assumption) ?_ | with_reducible refine bif_df (by assumption) ?_ | with_reducible refine bif_dec (fun _ => ?_) (fun _ => ?_) | with_reducible refine bif_not ?_ | with_reducible refine bif_and ?_ | with_reducible refine bif_or ?_ | with_reducible refine bif_t (by assumption) ?_ | with_reducible refine bif_f (by assumption) ?_ | with_reducible refine bif_t (beq_self_eq_true _) ?_ | with_reducible refine bif_b (fun _ => ?_) (fun _ => ?_) | with_reducible refine ⟨_, Eq.refl (List.map _ _), ?_⟩ | (with_reducible refine Exists.intro (by omega) ?_) | rfl | (intro h0; omega) | omega
end Go.Proofs.YtblapbjafbmndaaDoor
