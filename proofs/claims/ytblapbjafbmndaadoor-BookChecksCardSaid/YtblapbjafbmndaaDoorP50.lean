/- The law BookChecks. -/
import Derived.Test.YtblapbjafbmndaaDoorP49
import Derived.Test.YtblapbjafbmndaaDoorSx24
namespace Go.Proofs.YtblapbjafbmndaaDoor
open Go Go.Sx Go.Sha
set_option linter.unusedVariables false
set_option linter.unusedSimpArgs false
set_option maxRecDepth 100000
set_option maxHeartbeats 4000000

theorem staysM_spec (y : Value) {l : List Int} {cap : Nat} (hc : l.length + 2 ≤ cap) (hl : l.length ≤ 140737488351232) : SMem Tryd.prog 19 [.one (.slc 0 1 0 l.length cap), byV y l] 1 [(0, .row 1 (encInt .u8) (l ++ [55, 56]) cap)]
    (fun _ : Unit => ⟨1, bool true, [(0, .row 1 (encInt .u8) (l ++ [55, 56]) cap)]⟩) := by
  refine SMem.inm [] SOK.nil [] MSOK.nil tok mixed [] IOK.nil true [] [] Tryd.call19 Tryd.func19 rfl (by rfl) ?_
  refine Eq.mp (α := (And ((0 : Int) ≤ IntKind.wrap IntKind.i64 ((↑(List.length l) : Int) + (2 : Int))) (And ((0 : Nat) ≤ Int.toNat (IntKind.wrap IntKind.i64 ((↑(List.length l) : Int) + (2 : Int)))) (And (Int.toNat (IntKind.wrap IntKind.i64 ((↑(List.length l) : Int) + (2 : Int))) ≤ cap) (And (cap ≤ cap) (And ((0 : Int) ≤ (↑(List.length l) : Int)) (And ((0 : Nat) ≤ Int.toNat (↑(List.length l) : Int)) (And (Int.toNat (↑(List.length l) : Int) ≤ cap - (0 : Nat)) (And (cap - (0 : Nat) ≤ cap - (0 : Nat)) (And ((if cap - (0 : Nat) = (0 : Nat) then if cap = (0 : Nat) then (0 : Nat) else (0 : Nat) + (0 : Nat) else (if cap = (0 : Nat) then (0 : Nat) else (0 : Nat) + (0 : Nat)) + (0 : Nat)) + (Int.toNat (↑(List.length l) : Int) - (0 : Nat)) ≤ List.length (l ++ [(55 : Int), (56 : Int)])) (And (∀ x : Int, (∀ a : x ∈ l ++ [(55 : Int), (56 : Int)], (∃ b : Int, (Enc.enc (encInt IntKind.u8) x = [SV.v (Value.int IntKind.u8 b)])))) (And (∀ x : Int, (∀ a : x ∈ l, (∃ b : Int, (Enc.enc (encInt IntKind.u8) x = [SV.v (Value.int IntKind.u8 b)])))) (@Bool.rec (fun _ => Prop) (∃ o : Unit, (And (And ((true : Bool) = (false)) True) (And (And (And ((true : Bool) = true) (And (cap = cap) (And (List.map (Enc.enc (encInt IntKind.u8)) (l ++ [(55 : Int), (56 : Int)]) = List.map (Enc.enc (encInt IntKind.u8)) (l ++ [(55 : Int), (56 : Int)])) (∀ x : Int, (∀ a : x ∈ l ++ [(55 : Int), (56 : Int)], (∀ s : SV, (∀ a_1 : s ∈ Enc.enc (encInt IntKind.u8) x, ((SV.isPure s : Bool) = (true))))))))) (And ((true : Bool) = true) True)) ((true : Bool) = true)))) (And ((0 : Int) ≤ (↑(List.length l) : Int)) (And (Int.toNat (↑(List.length l) : Int) < Int.toNat (IntKind.wrap IntKind.i64 ((↑(List.length l) : Int) + (2 : Int))) - (0 : Nat)) (∃ hi : (if cap = (0 : Nat) then (0 : Nat) else (0 : Nat) + (0 : Nat)) + Int.toNat (↑(List.length l) : Int) < List.length (l ++ [(55 : Int), (56 : Int)]), (@Bool.rec (fun _ => Prop) (∃ o : Unit, (And (And ((true : Bool) = (false)) True) (And (And (And ((true : Bool) = true) (And (cap = cap) (And (List.map (Enc.enc (encInt IntKind.u8)) (l ++ [(55 : Int), (56 : Int)]) = List.map (Enc.enc (encInt IntKind.u8)) (l ++ [(55 : Int), (56 : Int)])) (∀ x : Int, (∀ a : x ∈ l ++ [(55 : Int), (56 : Int)], (∀ s : SV, (∀ a_1 : s ∈ Enc.enc (encInt IntKind.u8) x, ((SV.isPure s : Bool) = (true))))))))) (And ((true : Bool) = true) True)) ((true : Bool) = true)))) (And ((0 : Int) ≤ IntKind.wrap IntKind.i64 ((↑(List.length l) : Int) + (1 : Int))) (And (Int.toNat (IntKind.wrap IntKind.i64 ((↑(List.length l) : Int) + (1 : Int))) < Int.toNat (IntKind.wrap IntKind.i64 ((↑(List.length l) : Int) + (2 : Int))) - (0 : Nat)) (∃ hi_1 : (if cap = (0 : Nat) then (0 : Nat) else (0 : Nat) + (0 : Nat)) + Int.toNat (IntKind.wrap IntKind.i64 ((↑(List.length l) : Int) + (1 : Int))) < List.length (l ++ [(55 : Int), (56 : Int)]), (∃ o : Unit, (And (And ((true : Bool) = ((l ++ [(55 : Int), (56 : Int)])[(if cap = (0 : Nat) then (0 : Nat) else (0 : Nat) + (0 : Nat)) + Int.toNat (IntKind.wrap IntKind.i64 ((↑(List.length l) : Int) + (1 : Int)))] == (56 : Int))) True) (And (And (And ((true : Bool) = true) (And (cap = cap) (And (List.map (Enc.enc (encInt IntKind.u8)) (l ++ [(55 : Int), (56 : Int)]) = List.map (Enc.enc (encInt IntKind.u8)) (l ++ [(55 : Int), (56 : Int)])) (∀ x : Int, (∀ a : x ∈ l ++ [(55 : Int), (56 : Int)], (∀ s : SV, (∀ a_1 : s ∈ Enc.enc (encInt IntKind.u8) x, ((SV.isPure s : Bool) = (true))))))))) (And ((true : Bool) = true) True)) ((true : Bool) = true))))))) ((l ++ [(55 : Int), (56 : Int)])[(if cap = (0 : Nat) then (0 : Nat) else (0 : Nat) + (0 : Nat)) + Int.toNat (↑(List.length l) : Int)] == (55 : Int)))))) (ByteArray.toList (strOfNums (bytesOf (Enc.enc (encInt IntKind.u8)) (List.take (Int.toNat (↑(List.length l) : Int) - (0 : Nat)) (List.drop (if cap - (0 : Nat) = (0 : Nat) then if cap = (0 : Nat) then (0 : Nat) else (0 : Nat) + (0 : Nat) else (if cap = (0 : Nat) then (0 : Nat) else (0 : Nat) + (0 : Nat)) + (0 : Nat)) (l ++ [(55 : Int), (56 : Int)]))))) == ByteArray.toList (strOfNums (bytesOf (Enc.enc (encInt IntKind.u8)) l)))))))))))))))) (by kernel_rfl) ?_
  have hw1 : IntKind.i64.wrap ((l.length : Int) + 1) = ((l.length + 1 : Nat) : Int) := by rw [wrap64 (by omega) (by omega)]; omega
  have hw2 : IntKind.i64.wrap ((l.length : Int) + 2) = ((l.length + 2 : Nat) : Int) := by rw [wrap64 (by omega) (by omega)]; omega
  have t1 : List.take l.length (l ++ [55, 56]) = l := by rw [List.take_append_of_le_length (Nat.le_refl _), List.take_length]
  have i1 : (l ++ [55, 56])[l.length]? = some (55 : Int) := by rw [List.getElem?_append_right (Nat.le_refl _), Nat.sub_self]; rfl
  have i2 : (l ++ [55, 56])[l.length + 1]? = some (56 : Int) := by rw [List.getElem?_append_right (by omega), show l.length + 1 - l.length = 1 by omega]; rfl
  have hL : (l ++ [55, 56]).length = l.length + 2 := by simp
  simp only [List.drop_zero, castB, ofB, bytesB, Int.toNat_natCast, Nat.sub_zero, Nat.add_zero, Nat.zero_add, ite_self, hw1, hw2, t1, hL]
  refine ⟨by omega, by omega, by omega, by omega, by omega, by omega, by omega, by omega, by omega, isB _, isB _, ?_⟩
  refine bif_t (beq_self_eq_true _) ?_
  refine ⟨by omega, by omega, by omega, ?_⟩
  refine bif_t ?_ ?_
  · rw [beq_iff_eq, ← Option.some.injEq, ← List.getElem?_eq_getElem]; exact i1
  refine ⟨by omega, by omega, by omega, (), ?_⟩
  refine ⟨⟨?_, trivial⟩, ?_⟩
  · have e : (l ++ [55, 56])[l.length + 1]'(by omega) = 56 := by
      rw [List.getElem?_eq_getElem (by omega)] at i2
      exact Option.some.inj i2
    simp only [e]
    first | rfl | decide
  ·
    repeat' first | exact encB_pure _ | exact trivial | refine And.intro ?_ ?_ | with_reducible refine bif_dt (by assumption) ?_ | with_reducible refine bif_df (by assumption) ?_ | with_reducible refine bif_dec (fun _ => ?_) (fun _ => ?_) | with_reducible refine bif_not ?_ | with_reducible refine bif_and ?_ | with_reducible refine bif_or ?_ | with_reducible refine bif_t (by assumption) ?_ | with_reducible refine bif_f (by assumption) ?_ | with_reducible refine bif_t (beq_self_eq_true _) ?_ | with_reducible refine bif_b (fun _ => ?_) (fun _ => ?_) | with_reducible refine ⟨_, Eq.refl (List.map _ _), ?_⟩ | (with_reducible refine Exists.intro (by omega) ?_) | rfl | (intro h0; omega) | omega
theorem staysM_row {y : Value} {l b : List Int} {len cap cp : Nat} (h : b = l ++ [55, 56] ∧ len = l.length ∧ cap = cp ∧ l.length + 2 ≤ cp ∧ l.length ≤ 140737488351232) : SMem Tryd.prog 19 [.one (.slc 0 1 0 len cap), byV y l] 1 [(0, .row 1 (encInt .u8) b cp)]
    (fun _ : Unit => ⟨1, bool true, [(0, .row 1 (encInt .u8) (l ++ [55, 56]) cp)]⟩) := by
  obtain ⟨rfl, rfl, rfl, h1, h2⟩ := h
  exact staysM_spec y h1 h2
def staysMT : MT := fun ms n h K => match ms with
  | [.one (.slc P0 1 0 len cap), .one (.view vx0 ve0 en0 vl0)] => (match get h P0 with
    | some (.row we0 wn0 wl0 cp) => bif Nat.beq ve0 1 && Nat.beq we0 1 && noDup [P0] then ∃ l : List (Int), vl0.map en0 = l.map eB ∧ ∃ b : List (Int), wl0.map wn0.enc = b.map ((encInt .u8)).enc ∧ ((b = l ++ [55, 56] ∧ len = l.length ∧ cap = cp ∧ l.length + 2 ≤ cp ∧ l.length ≤ 140737488351232)) ∧ (∀ o : Unit, K (n + 0) (bool true) ([(P0, .row 1 (encInt .u8) (l ++ [55, 56]) cp)] ++ delL [P0] h)) else False
    | _ => False)
  | _ => False
theorem staysM_mono : MMono staysMT := by
  intro ms n h K K' hkk hk
  unfold staysMT at hk ⊢
  split at hk
  · rename_i P0 len cap vx0 ve0 va0 en0 vl0
    split at hk
    · rename_i we0 wa0 wn0 wl0 cp hg0
      try simp only [hg0]
      obtain ⟨hb, y0, z0, y1, z1, h1, h2⟩ := cond_false_elim hk
      rw [hb]
      exact ⟨y0, z0, y1, z1, h1, fun o => hkk _ _ _ (h2 o)⟩
    · exact hk.elim
  · exact hk.elim
theorem staysM_ok : MOK Tryd.prog 19 staysMT := by
  refine ⟨?_, staysM_mono⟩
  intro ms n hB K hk
  unfold staysMT at hk
  split at hk
  · rename_i P0 len cap vx0 ve0 va0 en0 vl0
    split at hk
    · rename_i we0 wa0 wn0 wl0 cp hg0
      obtain ⟨hb, l, he0, b, hl0, h, hk2⟩ := cond_false_elim hk
      clear hk
      simp only [Bool.and_eq_true] at hb
      obtain ⟨⟨hc0, hc1⟩, hnd⟩ := hb
      have hs0 := Nat.eq_of_beq_eq_true hc0
      subst hs0
      have hs1 := Nat.eq_of_beq_eq_true hc1
      subst hs1
      refine SCall.seen ?_ (.cons (.refl _) (.cons (.view he0) .nil))
      exact (staysM_row h).use (fun j => match j with | 0 => P0 | _ => 0) rfl rfl ⟨by show (match get hB P0 with | some b0 => Blk.imp _ _ _ b0 | none => False); rw [hg0]; exact ⟨rfl, rfl, hl0.symm, fun y _ => Enc.pures _ y⟩, rfl, trivial⟩ (by exact hnd) (fun j hj => by cases j with
          | zero => exact ⟨_, rfl⟩
          | succ j => omega) (fun o => hk2 o)
    · exact hk.elim
  · exact hk.elim

theorem bchecks_spec (x y : Value) {a b : List Int} (ha : By a) (hb : By b) (h1 : a.length ≤ 140737488351232) (h2 : b.length ≤ 140737488351232) : SFun Tryd.prog 11 [byV x a, byV y b] (bool true) := by
  refine SFun.inm [(48, bknowsT), (49, bcheckT), (50, rcheck2T)] (SOK.cons bknows_ok (SOK.cons bcheck_ok (SOK.cons rcheck2_ok SOK.nil))) [(16, lentT), (2000019, noT), (19, staysMT)] (MSOK.cons lent_ok (MSOK.cons noT_ok (MSOK.cons staysM_ok MSOK.nil))) tok mixed [] IOK.nil true [] [] Tryd.call11 Tryd.func11 rfl (by rfl) ?_
  refine Eq.mp (α := (@Bool.rec (fun _ => Prop) (@Bool.rec (fun _ => Prop) (∃ l : List Int, (And (List.map (Enc.enc (encInt IntKind.u8)) a = List.map eB l) (And (List.length l ≤ (140737488351232 : Nat)) (∀ c : CapT (List.length l + (2 : Nat)), (∃ l_1 : List Int, (And (List.map (Enc.enc (encInt IntKind.u8)) b = List.map eB l_1) (And (List.length l_1 ≤ (140737488351232 : Nat)) (∀ c_1 : CapT (List.length l_1 + (2 : Nat)), (And ((0 : Nat) + List.length l ≤ List.length (l ++ [(55 : Int), (56 : Int)])) (And (List.length l ≤ CapT.cap c) (And (∀ y_1 : Int, ((true : Bool) = true)) (∀ x_1 : Value, (And ((0 : Nat) + List.length l_1 ≤ List.length (l_1 ++ [(55 : Int), (56 : Int)])) (And (List.length l_1 ≤ CapT.cap c_1) (And (∀ y_1 : Int, ((true : Bool) = true)) (∀ x_2 : Value, (∃ a_1 : List Int, (And (List.map (Enc.enc (encInt IntKind.u8)) (List.take (List.length l) (List.drop (0 : Nat) (l ++ [(55 : Int), (56 : Int)]))) = List.map eB a_1) (∃ b_1 : List Int, (And (List.map (Enc.enc (encInt IntKind.u8)) (List.take (List.length l_1) (List.drop (0 : Nat) (l_1 ++ [(55 : Int), (56 : Int)]))) = List.map eB b_1) (And (And (∀ x_3 : Int, (∀ a_2 : x_3 ∈ a_1, (And ((0 : Int) ≤ x_3) (x_3 < (256 : Int))))) (And (∀ x_3 : Int, (∀ a_2 : x_3 ∈ b_1, (And ((0 : Int) ≤ x_3) (x_3 < (256 : Int))))) (And (List.length a_1 ≤ (140737488351232 : Nat)) (List.length b_1 ≤ (140737488351232 : Nat))))) (∃ a_2 : List Int, (And (List.map (Enc.enc (encInt IntKind.u8)) a = List.map eB a_2) (∃ b_2 : List Int, (And (List.map (Enc.enc (encInt IntKind.u8)) b = List.map eB b_2) (And (And (∀ x_3 : Int, (∀ a_3 : x_3 ∈ a_2, (And ((0 : Int) ≤ x_3) (x_3 < (256 : Int))))) (And (∀ x_3 : Int, (∀ a_3 : x_3 ∈ b_2, (And ((0 : Int) ≤ x_3) (x_3 < (256 : Int))))) (And (List.length a_2 ≤ (140737488351232 : Nat)) (List.length b_2 ≤ (140737488351232 : Nat))))) (@Bool.rec (fun _ => Prop) (And (M.one (SV.v (Value.bool false)) = M.one (SV.v (Value.bool true))) ((true : Bool) = true)) (And ((0 : Nat) + List.length l ≤ List.length (l ++ [(55 : Int), (56 : Int)])) (And (List.length l ≤ CapT.cap c) (And (∀ y_1 : Int, ((true : Bool) = true)) (∀ x_3 : Value, (And ((0 : Nat) + List.length l ≤ List.length (l ++ [(55 : Int), (56 : Int)])) (And (List.length l ≤ CapT.cap c) (And (∀ y_1 : Int, ((true : Bool) = true)) (∀ x_4 : Value, (∃ a_3 : List Int, (And (List.map (Enc.enc (encInt IntKind.u8)) (List.take (List.length l) (List.drop (0 : Nat) (l ++ [(55 : Int), (56 : Int)]))) = List.map eB a_3) (∃ b_3 : List Int, (And (List.map (Enc.enc (encInt IntKind.u8)) (List.take (List.length l) (List.drop (0 : Nat) (l ++ [(55 : Int), (56 : Int)]))) = List.map eB b_3) (And (And (∀ x_5 : Int, (∀ a_4 : x_5 ∈ a_3, (And ((0 : Int) ≤ x_5) (x_5 < (256 : Int))))) (And (∀ x_5 : Int, (∀ a_4 : x_5 ∈ b_3, (And ((0 : Int) ≤ x_5) (x_5 < (256 : Int))))) (And (List.length a_3 ≤ (140737488351232 : Nat)) (List.length b_3 ≤ (140737488351232 : Nat))))) (@Bool.rec (fun _ => Prop) (And (M.one (SV.v (Value.bool false)) = M.one (SV.v (Value.bool true))) ((true : Bool) = true)) (∃ l_2 : List Int, (And (List.map (Enc.enc (encInt IntKind.u8)) a = List.map eB l_2) (∃ b_4 : List Int, (And (List.map (Enc.enc (encInt IntKind.u8)) (l ++ [(55 : Int), (56 : Int)]) = List.map (Enc.enc (encInt IntKind.u8)) b_4) (And (And (b_4 = l_2 ++ [(55 : Int), (56 : Int)]) (And (List.length l = List.length l_2) (And (CapT.cap c = CapT.cap c) (And (List.length l_2 + (2 : Nat) ≤ CapT.cap c) (List.length l_2 ≤ (140737488351232 : Nat)))))) (∀ o : Unit, (And (M.one (SV.v (Value.bool true)) = M.one (SV.v (Value.bool true))) ((true : Bool) = true)))))))) (!chk a_3 b_3))))))))))))))) (chk a_1 b_1 == chk a_2 b_2)))))))))))))))))))))))))))) (And (M.one (SV.v (Value.bool true)) = M.one (SV.v (Value.bool true))) ((true : Bool) = true)) (decide ((4000 : Int) < (↑(List.length b) : Int)))) (And (M.one (SV.v (Value.bool true)) = M.one (SV.v (Value.bool true))) ((true : Bool) = true)) (decide ((4000 : Int) < (↑(List.length a) : Int))))) (by kernel_rfl) ?_
  have tk : ∀ l : List Int, List.take l.length (List.drop 0 (l ++ [55, 56])) = l := fun l => by rw [List.drop_zero, List.take_append_of_le_length (Nat.le_refl _), List.take_length]
  have tl : ∀ l : List Int, (l ++ [55, 56]).length = l.length + 2 := fun l => by rw [List.length_append]; rfl
  have cs : chk a a = false := by unfold chk; rw [decide_eq_true rfl]; rfl
  refine bif_dec (fun h => ?_) (fun h => ?_)
  ·
    repeat' first | exact trivial | refine And.intro ?_ ?_ | with_reducible refine bif_dt (by assumption) ?_ | with_reducible refine bif_df (by assumption) ?_ | with_reducible refine bif_dec (fun _ => ?_) (fun _ => ?_) | with_reducible refine bif_not ?_ | with_reducible refine bif_and ?_ | with_reducible refine bif_or ?_ | with_reducible refine bif_t (by assumption) ?_ | with_reducible refine bif_f (by assumption) ?_ | with_reducible refine bif_t (beq_self_eq_true _) ?_ | with_reducible refine bif_b (fun _ => ?_) (fun _ => ?_) | with_reducible refine ⟨_, Eq.refl (List.map _ _), ?_⟩ | (with_reducible refine Exists.intro (by omega) ?_) | rfl | (intro h0; omega) | omega
  refine bif_dec (fun h => ?_) (fun h => ?_)
  ·
    repeat' first | exact trivial | refine And.intro ?_ ?_ | with_reducible refine bif_dt (by assumption) ?_ | with_reducible refine bif_df (by assumption) ?_ | with_reducible refine bif_dec (fun _ => ?_) (fun _ => ?_) | with_reducible refine bif_not ?_ | with_reducible refine bif_and ?_ | with_reducible refine bif_or ?_ | with_reducible refine bif_t (by assumption) ?_ | with_reducible refine bif_f (by assumption) ?_ | with_reducible refine bif_t (beq_self_eq_true _) ?_ | with_reducible refine bif_b (fun _ => ?_) (fun _ => ?_) | with_reducible refine ⟨_, Eq.refl (List.map _ _), ?_⟩ | (with_reducible refine Exists.intro (by omega) ?_) | rfl | (intro h0; omega) | omega
  refine ⟨a, rfl, h1, fun c => ⟨b, rfl, h2, fun c1 => ?_⟩⟩
  have hc := c.h
  have hc1 := c1.h
  simp only [tk, tl, Nat.zero_add]
  refine ⟨by omega, by omega, fun _ => trivial, fun x1 => ⟨by omega, by omega, fun _ => trivial, fun x2 => ⟨a, rfl, b, rfl, ⟨ha, hb, h1, h2⟩, a, rfl, b, rfl, ⟨ha, hb, h1, h2⟩, ?_⟩⟩⟩
  refine bif_t (beq_self_eq_true _) ⟨by omega, by omega, fun _ => trivial, fun x3 => ⟨by omega, by omega, fun _ => trivial, fun x4 => ⟨a, rfl, a, rfl, ⟨ha, ha, h1, h1⟩, ?_⟩⟩⟩
  rw [cs]
  exact ⟨a, rfl, a ++ [55, 56], rfl, ⟨rfl, rfl, trivial, by omega, h1⟩, fun _ => ⟨trivial, trivial⟩⟩
end Go.Proofs.YtblapbjafbmndaaDoor
