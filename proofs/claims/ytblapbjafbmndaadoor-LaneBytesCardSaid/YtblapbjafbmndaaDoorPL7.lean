/- Both Puts. -/
import Derived.Test.YtblapbjafbmndaaDoorPL6
import Derived.Test.YtblapbjafbmndaaDoorSx24
import Derived.Test.YtblapbjafbmndaaDoorPL3
namespace Go.Proofs.YtblapbjafbmndaaDoor
open Go Go.Sx Go.Sha
set_option linter.unusedVariables false
set_option linter.unusedSimpArgs false
set_option maxRecDepth 100000
set_option maxHeartbeats 4000000

def outF (p : Int × Int) (s : List (List Int)) : List Int := be8 p.1 ++ (be8 p.2 ++ (be8 (s.length : Int) ++ s.flatten))
def putF (p : Int × Int) (s : List (List Int)) : List Int × Int := bif rightP p.1 p.2 s.length then (outF p s, 0) else ([], 21)
theorem right_facts {a c : Int} {n : Nat} (h : rightP a c n = true) : 0 ≤ a ∧ a < c ∧ c ≤ 65536 ∧ n ≤ 16 := by
  unfold rightP at h
  simp only [Bool.and_eq_true, decide_eq_true_eq] at h
  obtain ⟨h1, h2, h3, h4⟩ := h
  have := climbN_le (a := a.toNat) (c := c.toNat) (by omega)
  have e : climbN a.toNat c.toNat = n := Nat.eq_of_beq_eq_true h4
  omega
theorem flat_fH (s : List (List Int)) : s.flatMap fH = s.flatten := by
  induction s with
  | nil => rfl
  | cons a r ih => rw [List.flatMap_cons, List.flatten_cons, ih]; rfl
theorem flat_len {s : List (List Int)} (h : ∀ a ∈ s, a.length = 32) : s.flatten.length = s.length * 32 := by
  induction s with
  | nil => rfl
  | cons a r ih =>
    rw [List.flatten_cons, List.length_append, h a (by simp), ih fun b hb => h b (by simp [hb]), List.length_cons]
    omega
theorem put_spec (x : Value) (p : Int × Int) (s : List (List Int)) (hs : s.length < 9223372036854775808) (h32 : ∀ a ∈ s, a.length = 32) :
    SMem Tryd.prog 33 [pfM x p s] 0 [] (fun y : Value => ⟨0, .tup [byV y (putF p s).1, int (putF p s).2], []⟩) := by
  refine SMem.inf 1 EB [] SOK.nil [(68, rightT), (69, writerT), (70, uintwT), (71, hashwT), (72, wbytesT)] (MSOK.cons right_ok (MSOK.cons writer_ok (MSOK.cons uintw_ok (MSOK.cons hashw_ok (MSOK.cons wbytes_ok MSOK.nil))))) tok mixed [] IOK.nil true [] [] Tryd.call33 Tryd.func33 rfl (by rfl) ?_
  refine Eq.mp (α := (∃ s_1 : List (List Int), (And (List.map (Enc.enc H32) s = List.map eH s_1) (And (List.length s_1 < (9223372036854775808 : Nat)) (∀ o : Unit, (@Bool.rec (fun _ => Prop) (And True (∀ o_1 : Unit, (And ((0 : Nat) + (3 : Nat) ≤ (3 : Nat)) (And ((3 : Nat) ≤ (3 : Nat)) (And (∀ y : Int, ((true : Bool) = true)) (∀ x_1 : Value, (∃ l : List Int, (And (List.map (Enc.enc (encInt IntKind.u64)) (List.take (3 : Nat) (List.drop (0 : Nat) [Enc.of (encInt IntKind.u64) (IntKind.wrap IntKind.u64 (Prod.fst p), ()), Enc.of (encInt IntKind.u64) (IntKind.wrap IntKind.u64 (Prod.snd p), ()), Enc.of (encInt IntKind.u64) (IntKind.wrap IntKind.u64 (↑(List.length s) : Int), ())])) = List.map eU l) (∃ b : List Int, (And (List.map (Enc.enc (encInt IntKind.u8)) [] = List.map (Enc.enc (encInt IntKind.u8)) b) (And (And ((0 : Nat) = List.length b) (And ((0 : Nat) = (0 : Nat)) (And (List.length b ≤ (65536 : Nat)) (And (List.length b ≤ (0 : Nat)) (List.length l * (8 : Nat) ≤ (140737488351232 : Nat)))))) (∀ c : CapT (List.length (putL b (List.flatMap be8 l))), (∃ l_1 : List (List Int), (And (List.map (Enc.enc H32) s = List.map eH l_1) (∃ b_1 : List Int, (And (List.map (Enc.enc (encInt IntKind.u8)) (putL b (List.flatMap be8 l)) = List.map (Enc.enc (encInt IntKind.u8)) b_1) (And (And (List.length (putL b (List.flatMap be8 l)) = List.length b_1) (And (CapT.cap c = CapT.cap c) (And (List.length b_1 ≤ (65536 : Nat)) (And (List.length b_1 ≤ CapT.cap c) (And (List.length l_1 * (32 : Nat) ≤ (140737488351232 : Nat)) (∀ a : List Int, (∀ a_1 : a ∈ l_1, (List.length a = (32 : Nat))))))))) (∀ c_1 : CapT (List.length (putL b_1 (List.flatMap fH l_1))), (∃ b_2 : List Int, (And (List.map (Enc.enc (encInt IntKind.u8)) (putL b_1 (List.flatMap fH l_1)) = List.map (Enc.enc (encInt IntKind.u8)) b_2) (And (And (List.length (putL b_1 (List.flatMap fH l_1)) = List.length b_2) (And (CapT.cap c_1 = CapT.cap c_1) (And (List.length b_2 ≤ CapT.cap c_1) (List.length b_2 ≤ (65536 : Nat))))) (∀ x_2 : Value, (∃ o_2 : Value, (And (And (And (SV.view o_2 (1 : Nat) (Enc.enc (encInt IntKind.u8)) (Prod.fst (putF p s)) = nilV (1 : Nat) EB (SV.view x_2 (1 : Nat) (Enc.enc (encInt IntKind.u8)) b_2)) (And (Prod.snd (putF p s) = (0 : Int)) True)) True) (And True ((true : Bool) = true)))))))))))))))))))))))))) (∃ o_1 : Value, (And (And (And (SV.view o_1 (1 : Nat) (Enc.enc (encInt IntKind.u8)) (Prod.fst (putF p s)) = nilV (1 : Nat) EB (SV.v (Value.slice none (0 : Nat) (0 : Nat)))) (And (Prod.snd (putF p s) = (21 : Int)) True)) True) (And True ((true : Bool) = true)))) (!rightP (Prod.fst p) (Prod.snd p) (List.length s_1)))))))) (by kernel_rfl) ?_
  refine ⟨s, rfl, by omega, fun _ => ?_⟩
  unfold putF
  cases hr : rightP p.1 p.2 s.length with
  | false =>
    refine ⟨.slice none 0 0, ?_⟩
    repeat' first | exact trivial | refine And.intro ?_ ?_ | with_reducible refine bif_dt (by assumption) ?_ | with_reducible refine bif_df (by assumption) ?_ | with_reducible refine bif_dec (fun _ => ?_) (fun _ => ?_) | with_reducible refine bif_not ?_ | with_reducible refine bif_and ?_ | with_reducible refine bif_or ?_ | with_reducible refine bif_t (by assumption) ?_ | with_reducible refine bif_f (by assumption) ?_ | with_reducible refine bif_t (beq_self_eq_true _) ?_ | with_reducible refine bif_b (fun _ => ?_) (fun _ => ?_) | with_reducible refine ⟨_, Eq.refl (List.map _ _), ?_⟩ | (with_reducible refine Exists.intro (by omega) ?_) | rfl | (intro h0; omega) | omega
  | true =>
    obtain ⟨h0, h1, h2, h3⟩ := right_facts hr
    have w1 : IntKind.u64.wrap p.1 = p.1 := wrapU h0 (by omega)
    have w2 : IntKind.u64.wrap p.2 = p.2 := wrapU (by omega) (by omega)
    have w3 : IntKind.u64.wrap (s.length : Int) = s.length := wrapU (by omega) (by omega)
    rw [w1, w2, w3]
    have ef : List.flatMap be8 [p.1, p.2, (s.length : Int)] = be8 p.1 ++ (be8 p.2 ++ be8 (s.length : Int)) := by
      simp [List.flatMap_cons]
    have el : (be8 p.1 ++ (be8 p.2 ++ be8 (s.length : Int))).length = 24 := rfl
    have e1 : putL [] (List.flatMap be8 [p.1, p.2, (s.length : Int)]) = be8 p.1 ++ (be8 p.2 ++ be8 (s.length : Int)) := by
      rw [ef, putL_fit (by rw [el]; decide)]
      rfl
    have eh : s.flatMap fH = s.flatten := flat_fH s
    have ehl : s.flatten.length = s.length * 32 := flat_len h32
    have e2 : putL (be8 p.1 ++ (be8 p.2 ++ be8 (s.length : Int))) (s.flatMap fH) = outF p s := by
      rw [eh, putL_fit (by rw [el, ehl]; omega)]
      unfold outF
      rw [List.append_assoc, List.append_assoc]
    have e2l : (outF p s).length = 24 + s.length * 32 := by
      rw [← e2, eh, putL_fit (by rw [el, ehl]; omega), List.length_append, el, ehl]
    refine ⟨trivial, fun _ => ⟨by decide, by decide, fun _ => rfl, fun _ => ⟨[p.1, p.2, (s.length : Int)], rfl, [], rfl, ⟨rfl, rfl, by decide, by decide, Nat.le_of_ble_eq_true rfl⟩, ?_⟩⟩⟩
    rw [e1]
    intro c
    refine ⟨s, rfl, _, rfl, ⟨rfl, rfl, by rw [el]; decide, c.h, by omega, h32⟩, ?_⟩
    rw [e2]
    intro c1
    refine ⟨_, rfl, ⟨rfl, rfl, c1.h, by rw [e2l]; omega⟩, fun y => ⟨y, ?_⟩⟩
    repeat' first | exact trivial | refine And.intro ?_ ?_ | with_reducible refine bif_dt (by assumption) ?_ | with_reducible refine bif_df (by assumption) ?_ | with_reducible refine bif_dec (fun _ => ?_) (fun _ => ?_) | with_reducible refine bif_not ?_ | with_reducible refine bif_and ?_ | with_reducible refine bif_or ?_ | with_reducible refine bif_t (by assumption) ?_ | with_reducible refine bif_f (by assumption) ?_ | with_reducible refine bif_t (beq_self_eq_true _) ?_ | with_reducible refine bif_b (fun _ => ?_) (fun _ => ?_) | with_reducible refine ⟨_, Eq.refl (List.map _ _), ?_⟩ | (with_reducible refine Exists.intro (by omega) ?_) | rfl | (intro h0; omega) | omega
def lputT : MT := fun ms n h K => match ms with
  | [.agg [.v (.int .i64 p1), .v (.int .i64 p2), .view vx0 ve0 en0 vl0]] => bif Nat.beq ve0 32 && noDup [] then ∃ s : List (List Int), vl0.map en0 = s.map eH ∧ ((s.length < 9223372036854775808 ∧ ∀ a ∈ s, a.length = 32)) ∧ (∀ y : Value, K (n + 0) (.tup [byV y (putF (p1, p2) s).1, int (putF (p1, p2) s).2]) ([] ++ delL [] h)) else False
  | _ => False
theorem lput_mono : MMono lputT := by
  intro ms n h K K' hkk hk
  unfold lputT at hk ⊢
  split at hk
  · rename_i p1 p2 vx0 ve0 va0 en0 vl0
    obtain ⟨hb, y0, z0, h1, h2⟩ := cond_false_elim hk
    rw [hb]
    exact ⟨y0, z0, h1, fun o => hkk _ _ _ (h2 o)⟩
  · exact hk.elim
theorem lput_ok : MOK Tryd.prog 33 lputT := by
  refine ⟨?_, lput_mono⟩
  intro ms n hB K hk
  unfold lputT at hk
  split at hk
  · rename_i p1 p2 vx0 ve0 va0 en0 vl0
    obtain ⟨hb, s, he0, h, hk2⟩ := cond_false_elim hk
    clear hk
    simp only [Bool.and_eq_true] at hb
    obtain ⟨hc0, hnd⟩ := hb
    have hs0 := Nat.eq_of_beq_eq_true hc0
    subst hs0
    refine SCall.seen ?_ (.cons (.agg (.refl (.refl (.view he0 .nil)))) .nil)
    exact (put_spec _ (p1, p2) s h.1 h.2).use (fun _ => 0) rfl rfl trivial hnd (fun j hj => absurd hj (Nat.not_lt_zero j)) (fun o => hk2 o)
  · exact hk.elim

def otF (p : Int × Int) (s : List (List Int)) (i : Nat) : List Int := be8 p.1 ++ be8 p.2 ++ be8 (s.length : Int) ++ (s.take i).flatten
structure RpoT (p : Int × Int) (s : List (List Int)) where
  i : Nat
  cp : Nat
  hi : i ≤ s.length
  hc : 24 + i * 32 ≤ cp
theorem ot_len {p : Int × Int} {s : List (List Int)} (h : ∀ a ∈ s, a.length = 32) {i : Nat} (hi : i ≤ s.length) : (otF p s i).length = 24 + i * 32 := by
  unfold otF
  rw [List.length_append, flat_len (fun a ha => h a (List.mem_of_mem_take ha)), List.length_take, Nat.min_eq_left hi]
  rfl
theorem ot_step {p : Int × Int} {s : List (List Int)} {i : Nat} (hi : i < s.length) : otF p s (i + 1) = otF p s i ++ s[i] := by
  unfold otF
  rw [List.take_add_one, List.getElem?_eq_getElem hi, List.flatten_append, List.append_assoc (be8 p.1 ++ be8 p.2 ++ be8 (s.length : Int))]
  have : (some s[i]).toList.flatten = s[i] := List.append_nil _
  rw [this]
theorem ot_end (p : Int × Int) (s : List (List Int)) : otF p s s.length = outF p s := by
  unfold otF outF
  rw [List.take_length, List.append_assoc, List.append_assoc]
theorem rput_spec (x : Value) (p : Int × Int) (s : List (List Int)) (hs : s.length < 9223372036854775808) (h32 : ∀ a ∈ s, a.length = 32) :
    SMem Tryd.prog 35 [pfM x p s] 0 [] (fun y : Value => ⟨0, .tup [byV y (putF p s).1, int (putF p s).2], []⟩) := by
  refine SMem.inf 1 EB [] SOK.nil [(73, rrightT), (74, runtT)] (MSOK.cons rright_ok (MSOK.cons runt_ok MSOK.nil)) tok mixed [] IOK.nil false [(6, ⟨RpoT p s, fun q => ⟨6, [(1, .one (.ptr 0 0)), (4, .one (.nslc 5 1 (24 + q.i * 32) q.cp)), (5, int q.i)], [(0, .cells (pbx x p s)), (5, .row 1 EB (otF p s q.i) q.cp)]⟩, fun q => s.length - q.i, fun _ _ => True⟩)] [] Tryd.call35 Tryd.func35 rfl (by rfl) ?_
  refine Eq.mp (α := (∃ s_1 : List (List Int), (And (List.map (Enc.enc H32) s = List.map eH s_1) (And (List.length s_1 < (9223372036854775808 : Nat)) (∀ o : Unit, (@Bool.rec (fun _ => Prop) (And (And True (∀ c : CapT (8 : Nat), (And (And True (∀ c_1 : CapT (8 : Nat), (And (And ((8 : Nat) = (8 : Nat)) (And (CapT.cap c = CapT.cap c) (And ((8 : Nat) ≤ (8 : Nat)) (And (CapT.cap c_1 = CapT.cap c_1) (And (((8 : Nat) + (8 : Nat)) * (1 : Nat) ≤ (150000000000000 : Nat)) (∀ cap2 : Nat, (∀ a : (8 : Nat) + (8 : Nat) ≤ cap2, (And True (∀ c_2 : CapT (8 : Nat), (And ((16 : Nat) = (16 : Nat)) (And (cap2 = cap2) (And ((8 : Nat) ≤ (8 : Nat)) (And (CapT.cap c_2 = CapT.cap c_2) (And (((16 : Nat) + (8 : Nat)) * (1 : Nat) ≤ (150000000000000 : Nat)) (∀ cap2_1 : Nat, (∀ a_1 : (16 : Nat) + (8 : Nat) ≤ cap2_1, (∃ i0 : RpoT p s, (And (And True (And (And (And ((true : Bool) = true) ((0 : Nat) = (0 : Nat))) (And (And ((true : Bool) = true) (And ((24 : Nat) + RpoT.i i0 * (32 : Nat) = (24 : Nat)) (RpoT.cp i0 = cap2_1))) (And ((↑(RpoT.i i0) : Int) = (0 : Int)) True))) (And (And (And (Prod.fst p = Prod.fst p) (And (Prod.snd p = Prod.snd p) (And (SV.view x (32 : Nat) (Enc.enc H32) s = SV.view x (32 : Nat) (Enc.enc H32) s) True))) (And ((true : Bool) = true) (And (And ((true : Bool) = true) (And (RpoT.cp i0 = cap2_1) (And (List.map (Enc.enc EB) (otF p s (RpoT.i i0)) = List.map (Enc.enc (encInt IntKind.u8)) (be8 (IntKind.wrap IntKind.u64 (Prod.fst p)) ++ castL (encInt IntKind.u8) (encInt IntKind.u8) (List.take (8 : Nat) (be8 (IntKind.wrap IntKind.u64 (Prod.snd p)))) ++ castL (encInt IntKind.u8) (encInt IntKind.u8) (List.take (8 : Nat) (be8 (IntKind.wrap IntKind.u64 (↑(List.length s) : Int)))))) (∀ x_1 : Int, (∀ a_2 : x_1 ∈ otF p s (RpoT.i i0), (∀ s_2 : SV, (∀ a_3 : s_2 ∈ Enc.enc EB x_1, ((SV.isPure s_2 : Bool) = (true))))))))) (And ((true : Bool) = true) True)))) ((true : Bool) = true)))) (∀ i : RpoT p s, (∀ a_2 : True, (@Bool.rec (fun _ => Prop) (And ((24 : Nat) + RpoT.i i * (32 : Nat) ≤ List.length (otF p s (RpoT.i i))) (And ((24 : Nat) + RpoT.i i * (32 : Nat) ≤ RpoT.cp i) (And (RpoT.cp i = RpoT.cp i) (And (∀ y : Int, ((true : Bool) = true)) (∀ x_1 : Value, (∃ o_1 : Value, (And (And (And (SV.view o_1 (1 : Nat) (Enc.enc (encInt IntKind.u8)) (Prod.fst (putF p s)) = nilV (1 : Nat) EB (SV.view x_1 (1 : Nat) (Enc.enc EB) (List.take ((24 : Nat) + RpoT.i i * (32 : Nat)) (otF p s (RpoT.i i))))) (And (Prod.snd (putF p s) = (0 : Int)) True)) True) (And True ((true : Bool) = true))))))))) (And ((0 : Int) ≤ (↑(RpoT.i i) : Int)) (∃ hk : Int.toNat (↑(RpoT.i i) : Int) < List.length s, (And ((24 : Nat) + RpoT.i i * (32 : Nat) = List.length (otF p s (RpoT.i i))) (And (RpoT.cp i = RpoT.cp i) (∃ ys : List Int, (And (List.map (Enc.enc EB) ys = List.map (fun b => [SV.v (Value.int IntKind.u8 b)]) s[Int.toNat (↑(RpoT.i i) : Int)]) (And ((List.length (otF p s (RpoT.i i)) + List.length ys) * (1 : Nat) ≤ (150000000000000 : Nat)) (∀ cap2_2 : Nat, (∀ a_3 : List.length (otF p s (RpoT.i i)) + List.length ys ≤ cap2_2, (∃ i' : RpoT p s, (And (And (List.length s - RpoT.i i' < List.length s - RpoT.i i) True) (And (And (And ((true : Bool) = true) ((0 : Nat) = (0 : Nat))) (And (And ((true : Bool) = true) (And ((24 : Nat) + RpoT.i i' * (32 : Nat) = List.length (otF p s (RpoT.i i) ++ ys)) (RpoT.cp i' = cap2_2))) (And ((↑(RpoT.i i') : Int) = IntKind.wrap IntKind.i64 ((↑(RpoT.i i) : Int) + (1 : Int))) True))) (And (And (And (Prod.fst p = Prod.fst p) (And (Prod.snd p = Prod.snd p) (And (SV.view x (32 : Nat) (Enc.enc H32) s = SV.view x (32 : Nat) (Enc.enc H32) s) True))) (And ((true : Bool) = true) (And (And ((true : Bool) = true) (And (RpoT.cp i' = cap2_2) (And (List.map (Enc.enc EB) (otF p s (RpoT.i i')) = List.map (Enc.enc EB) (otF p s (RpoT.i i) ++ ys)) (∀ x_1 : Int, (∀ a_4 : x_1 ∈ otF p s (RpoT.i i'), (∀ s_2 : SV, (∀ a_5 : s_2 ∈ Enc.enc EB x_1, ((SV.isPure s_2 : Bool) = (true))))))))) (And ((true : Bool) = true) True)))) ((true : Bool) = true)))))))))))))) (decide ((↑(RpoT.i i) : Int) < (↑(List.length s) : Int)))))))))))))))))))))))) True))) True))) (And (And (And True (∀ c : CapT (8 : Nat), (And (And True (∀ c_1 : CapT (8 : Nat), (And (And ((8 : Nat) = (8 : Nat)) (And (CapT.cap c = CapT.cap c) (And ((8 : Nat) ≤ (8 : Nat)) (And (CapT.cap c_1 = CapT.cap c_1) (And (((8 : Nat) + (8 : Nat)) * (1 : Nat) ≤ (150000000000000 : Nat)) (∀ cap2 : Nat, (∀ a : (8 : Nat) + (8 : Nat) ≤ cap2, (And True (∀ c_2 : CapT (8 : Nat), (And ((16 : Nat) = (16 : Nat)) (And (cap2 = cap2) (And ((8 : Nat) ≤ (8 : Nat)) (And (CapT.cap c_2 = CapT.cap c_2) (And (((16 : Nat) + (8 : Nat)) * (1 : Nat) ≤ (150000000000000 : Nat)) (∀ cap2_1 : Nat, (∀ a_1 : (16 : Nat) + (8 : Nat) ≤ cap2_1, (∃ i0 : RpoT p s, (And (And True (And (And (And ((true : Bool) = true) ((0 : Nat) = (0 : Nat))) (And (And ((true : Bool) = true) (And ((24 : Nat) + RpoT.i i0 * (32 : Nat) = (24 : Nat)) (RpoT.cp i0 = cap2_1))) (And ((↑(RpoT.i i0) : Int) = (0 : Int)) True))) (And (And (And (Prod.fst p = Prod.fst p) (And (Prod.snd p = Prod.snd p) (And (SV.view x (32 : Nat) (Enc.enc H32) s = SV.view x (32 : Nat) (Enc.enc H32) s) True))) (And ((true : Bool) = true) (And (And ((true : Bool) = true) (And (RpoT.cp i0 = cap2_1) (And (List.map (Enc.enc EB) (otF p s (RpoT.i i0)) = List.map (Enc.enc (encInt IntKind.u8)) (be8 (IntKind.wrap IntKind.u64 (Prod.fst p)) ++ castL (encInt IntKind.u8) (encInt IntKind.u8) (List.take (8 : Nat) (be8 (IntKind.wrap IntKind.u64 (Prod.snd p)))) ++ castL (encInt IntKind.u8) (encInt IntKind.u8) (List.take (8 : Nat) (be8 (IntKind.wrap IntKind.u64 (↑(List.length s) : Int)))))) (∀ x_1 : Int, (∀ a_2 : x_1 ∈ otF p s (RpoT.i i0), (∀ s_2 : SV, (∀ a_3 : s_2 ∈ Enc.enc EB x_1, ((SV.isPure s_2 : Bool) = (true))))))))) (And ((true : Bool) = true) True)))) ((true : Bool) = true)))) (∀ i : RpoT p s, (∀ a_2 : True, (@Bool.rec (fun _ => Prop) (And ((24 : Nat) + RpoT.i i * (32 : Nat) ≤ List.length (otF p s (RpoT.i i))) (And ((24 : Nat) + RpoT.i i * (32 : Nat) ≤ RpoT.cp i) (And (RpoT.cp i = RpoT.cp i) (And (∀ y : Int, ((true : Bool) = true)) (∀ x_1 : Value, (∃ o_1 : Value, (And (And (And (SV.view o_1 (1 : Nat) (Enc.enc (encInt IntKind.u8)) (Prod.fst (putF p s)) = nilV (1 : Nat) EB (SV.view x_1 (1 : Nat) (Enc.enc EB) (List.take ((24 : Nat) + RpoT.i i * (32 : Nat)) (otF p s (RpoT.i i))))) (And (Prod.snd (putF p s) = (0 : Int)) True)) True) (And True ((true : Bool) = true))))))))) (And ((0 : Int) ≤ (↑(RpoT.i i) : Int)) (∃ hk : Int.toNat (↑(RpoT.i i) : Int) < List.length s, (And ((24 : Nat) + RpoT.i i * (32 : Nat) = List.length (otF p s (RpoT.i i))) (And (RpoT.cp i = RpoT.cp i) (∃ ys : List Int, (And (List.map (Enc.enc EB) ys = List.map (fun b => [SV.v (Value.int IntKind.u8 b)]) s[Int.toNat (↑(RpoT.i i) : Int)]) (And ((List.length (otF p s (RpoT.i i)) + List.length ys) * (1 : Nat) ≤ (150000000000000 : Nat)) (∀ cap2_2 : Nat, (∀ a_3 : List.length (otF p s (RpoT.i i)) + List.length ys ≤ cap2_2, (∃ i' : RpoT p s, (And (And (List.length s - RpoT.i i' < List.length s - RpoT.i i) True) (And (And (And ((true : Bool) = true) ((0 : Nat) = (0 : Nat))) (And (And ((true : Bool) = true) (And ((24 : Nat) + RpoT.i i' * (32 : Nat) = List.length (otF p s (RpoT.i i) ++ ys)) (RpoT.cp i' = cap2_2))) (And ((↑(RpoT.i i') : Int) = IntKind.wrap IntKind.i64 ((↑(RpoT.i i) : Int) + (1 : Int))) True))) (And (And (And (Prod.fst p = Prod.fst p) (And (Prod.snd p = Prod.snd p) (And (SV.view x (32 : Nat) (Enc.enc H32) s = SV.view x (32 : Nat) (Enc.enc H32) s) True))) (And ((true : Bool) = true) (And (And ((true : Bool) = true) (And (RpoT.cp i' = cap2_2) (And (List.map (Enc.enc EB) (otF p s (RpoT.i i')) = List.map (Enc.enc EB) (otF p s (RpoT.i i) ++ ys)) (∀ x_1 : Int, (∀ a_4 : x_1 ∈ otF p s (RpoT.i i'), (∀ s_2 : SV, (∀ a_5 : s_2 ∈ Enc.enc EB x_1, ((SV.isPure s_2 : Bool) = (true))))))))) (And ((true : Bool) = true) True)))) ((true : Bool) = true)))))))))))))) (decide ((↑(RpoT.i i) : Int) < (↑(List.length s) : Int)))))))))))))))))))))))) True))) True))) True) True)) (∃ o_1 : Value, (And (And (And (SV.view o_1 (1 : Nat) (Enc.enc (encInt IntKind.u8)) (Prod.fst (putF p s)) = nilV (1 : Nat) EB (SV.v (Value.slice none (0 : Nat) (0 : Nat)))) (And (Prod.snd (putF p s) = (21 : Int)) True)) True) (And True ((true : Bool) = true)))) (!rightP (Prod.fst p) (Prod.snd p) (List.length s_1)))))))) (by kernel_rfl) ?_
  refine ⟨s, rfl, by omega, fun _ => ?_⟩
  unfold putF
  cases hr : rightP p.1 p.2 s.length with
  | false =>
    refine ⟨.slice none 0 0, ?_⟩
    repeat' first | exact trivial | refine And.intro ?_ ?_ | with_reducible refine bif_dt (by assumption) ?_ | with_reducible refine bif_df (by assumption) ?_ | with_reducible refine bif_dec (fun _ => ?_) (fun _ => ?_) | with_reducible refine bif_not ?_ | with_reducible refine bif_and ?_ | with_reducible refine bif_or ?_ | with_reducible refine bif_t (by assumption) ?_ | with_reducible refine bif_f (by assumption) ?_ | with_reducible refine bif_t (beq_self_eq_true _) ?_ | with_reducible refine bif_b (fun _ => ?_) (fun _ => ?_) | with_reducible refine ⟨_, Eq.refl (List.map _ _), ?_⟩ | (with_reducible refine Exists.intro (by omega) ?_) | rfl | (intro h0; omega) | omega
  | true =>
    obtain ⟨h0, h1, h2, h3⟩ := right_facts hr
    have w1 : IntKind.u64.wrap p.1 = p.1 := wrapU h0 (by omega)
    have w2 : IntKind.u64.wrap p.2 = p.2 := wrapU (by omega) (by omega)
    have w3 : IntKind.u64.wrap (s.length : Int) = s.length := wrapU (by omega) (by omega)
    rw [w1, w2, w3]
    have cc2 : castL (encInt .u8) (encInt .u8) (List.take 8 (be8 p.2)) = be8 p.2 := castB _
    have cc3 : castL (encInt .u8) (encInt .u8) (List.take 8 (be8 (s.length : Int))) = be8 (s.length : Int) := castB _
    have e0 : otF p s 0 = be8 p.1 ++ be8 p.2 ++ be8 (s.length : Int) := by
      unfold otF
      rw [List.take_zero, List.flatten_nil, List.append_nil]
    refine And.intro ?_ ?_
    repeat' (with_reducible refine And.intro ?_ ?_)
    all_goals first
      | exact trivial
      | skip
    all_goals intro c
    all_goals repeat' (with_reducible refine And.intro ?_ ?_)
    all_goals first
      | exact trivial
      | skip
    all_goals intro c1
    all_goals repeat' (with_reducible refine And.intro ?_ ?_)
    all_goals first
      | exact trivial
      | exact rfl
      | decide
      | skip
    all_goals intro cap1 k1
    all_goals
      refine ⟨trivial, fun c2 => ⟨rfl, rfl, by decide, rfl, by decide, fun cap2 k2 => ⟨⟨0, cap2, Nat.zero_le _, k2⟩, ?_, ?_⟩⟩⟩
      · rw [cc2, cc3]
        dsimp only
        rw [e0]
        repeat' first | exact encB_pure _ | exact trivial | refine And.intro ?_ ?_ | with_reducible refine bif_dt (by assumption) ?_ | with_reducible refine bif_df (by assumption) ?_ | with_reducible refine bif_dec (fun _ => ?_) (fun _ => ?_) | with_reducible refine bif_not ?_ | with_reducible refine bif_and ?_ | with_reducible refine bif_or ?_ | with_reducible refine bif_t (by assumption) ?_ | with_reducible refine bif_f (by assumption) ?_ | with_reducible refine bif_t (beq_self_eq_true _) ?_ | with_reducible refine bif_b (fun _ => ?_) (fun _ => ?_) | with_reducible refine ⟨_, Eq.refl (List.map _ _), ?_⟩ | (with_reducible refine Exists.intro (by omega) ?_) | rfl | (intro h0; omega) | omega
      · rintro ⟨i, cp, hi, hcp⟩ -
        dsimp only
        have hlen : (otF p s i).length = 24 + i * 32 := ot_len h32 hi
        refine bif_dec (fun h4 => ?_) (fun h4 => ?_)
        · have hi' : i < s.length := by omega
          have hsi : s[i].length = 32 := h32 _ (List.getElem_mem hi')
          have hw : IntKind.i64.wrap ((i : Int) + 1) = ((i + 1 : Nat) : Int) := inext (by omega)
          refine ⟨by omega, hi', hlen.symm, rfl, s[i], rfl, by rw [hlen, hsi]; omega, fun cap3 k3 => ⟨⟨i + 1, cap3, hi', by rw [hlen, hsi] at k3; omega⟩, ⟨show s.length - (i + 1) < s.length - i by omega, trivial⟩, ?_⟩⟩
          dsimp only
          rw [hw, ot_step hi', List.length_append, hlen, hsi]
          repeat' first | exact encB_pure _ | exact trivial | refine And.intro ?_ ?_ | with_reducible refine bif_dt (by assumption) ?_ | with_reducible refine bif_df (by assumption) ?_ | with_reducible refine bif_dec (fun _ => ?_) (fun _ => ?_) | with_reducible refine bif_not ?_ | with_reducible refine bif_and ?_ | with_reducible refine bif_or ?_ | with_reducible refine bif_t (by assumption) ?_ | with_reducible refine bif_f (by assumption) ?_ | with_reducible refine bif_t (beq_self_eq_true _) ?_ | with_reducible refine bif_b (fun _ => ?_) (fun _ => ?_) | with_reducible refine ⟨_, Eq.refl (List.map _ _), ?_⟩ | (with_reducible refine Exists.intro (by omega) ?_) | rfl | (intro h0; omega) | omega
        · have hil : i = s.length := by omega
          refine ⟨by rw [hlen]; exact Nat.le_refl _, hcp, rfl, fun _ => rfl, fun y => ⟨y, ?_⟩⟩
          rw [← hlen, List.take_length, hil, ot_end]
          repeat' first | exact encB_pure _ | exact trivial | refine And.intro ?_ ?_ | with_reducible refine bif_dt (by assumption) ?_ | with_reducible refine bif_df (by assumption) ?_ | with_reducible refine bif_dec (fun _ => ?_) (fun _ => ?_) | with_reducible refine bif_not ?_ | with_reducible refine bif_and ?_ | with_reducible refine bif_or ?_ | with_reducible refine bif_t (by assumption) ?_ | with_reducible refine bif_f (by assumption) ?_ | with_reducible refine bif_t (beq_self_eq_true _) ?_ | with_reducible refine bif_b (fun _ => ?_) (fun _ => ?_) | with_reducible refine ⟨_, Eq.refl (List.map _ _), ?_⟩ | (with_reducible refine Exists.intro (by omega) ?_) | rfl | (intro h0; omega) | omega
def rputT : MT := fun ms n h K => match ms with
  | [.agg [.v (.int .i64 p1), .v (.int .i64 p2), .view vx0 ve0 en0 vl0]] => bif Nat.beq ve0 32 && noDup [] then ∃ s : List (List Int), vl0.map en0 = s.map eH ∧ ((s.length < 9223372036854775808 ∧ ∀ a ∈ s, a.length = 32)) ∧ (∀ y : Value, K (n + 0) (.tup [byV y (putF (p1, p2) s).1, int (putF (p1, p2) s).2]) ([] ++ delL [] h)) else False
  | _ => False
theorem rput_mono : MMono rputT := by
  intro ms n h K K' hkk hk
  unfold rputT at hk ⊢
  split at hk
  · rename_i p1 p2 vx0 ve0 va0 en0 vl0
    obtain ⟨hb, y0, z0, h1, h2⟩ := cond_false_elim hk
    rw [hb]
    exact ⟨y0, z0, h1, fun o => hkk _ _ _ (h2 o)⟩
  · exact hk.elim
theorem rput_ok : MOK Tryd.prog 35 rputT := by
  refine ⟨?_, rput_mono⟩
  intro ms n hB K hk
  unfold rputT at hk
  split at hk
  · rename_i p1 p2 vx0 ve0 va0 en0 vl0
    obtain ⟨hb, s, he0, h, hk2⟩ := cond_false_elim hk
    clear hk
    simp only [Bool.and_eq_true] at hb
    obtain ⟨hc0, hnd⟩ := hb
    have hs0 := Nat.eq_of_beq_eq_true hc0
    subst hs0
    refine SCall.seen ?_ (.cons (.agg (.refl (.refl (.view he0 .nil)))) .nil)
    exact (rput_spec _ (p1, p2) s h.1 h.2).use (fun _ => 0) rfl rfl trivial hnd (fun j hj => absurd hj (Nat.not_lt_zero j)) (fun o => hk2 o)
  · exact hk.elim

end Go.Proofs.YtblapbjafbmndaaDoor

namespace Go.Proofs.YtblapbjafbmndaaDoor
open Go Go.Sx Go.Sha
set_option linter.unusedVariables false
set_option linter.unusedSimpArgs false
set_option maxRecDepth 100000
set_option maxHeartbeats 4000000

theorem gets_eq (b : List Int) : getF b = getG b := by
  unfold getF getG
  have h := fN_hashN (q3 ⟨b, 0⟩).1.toNat (q3 ⟨b, 0⟩).2
  have h1 : (frF ⟨b, 0⟩).2 = (grF ⟨b, 0⟩).2 := h.1
  rw [h1]
  cases hd : (dF (grF ⟨b, 0⟩).2 == 0) with
  | false =>
    have e : ∀ x y n, okG (dF (grF ⟨b, 0⟩).2) x y n = false := fun x y n => by unfold okG; rw [hd]; rfl
    rw [e, e]
    rfl
  | true =>
    have hz : (grF ⟨b, 0⟩).2.e = 0 := by
      have := eq_of_beq hd
      unfold dF at this
      split at this
      · cases this
      · exact this
    have h2 : (frF ⟨b, 0⟩).1 = (grF ⟨b, 0⟩).1 := h.2 (by
      have : (fN (q3 ⟨b, 0⟩).1.toNat (q3 ⟨b, 0⟩).2).2 = (grF ⟨b, 0⟩).2 := h1
      rw [this]
      exact hz)
    rw [h2]
theorem take_front {x r : List Int} {n : Nat} (h : x.length = n) : takeF n ⟨x ++ r, 0⟩ = (x, ⟨r, 0⟩) := by
  unfold takeF
  rw [if_neg (fun h => h rfl), if_neg (by show ¬ (x ++ r).length < n; rw [List.length_append]; omega)]
  show ((x ++ r).take n, (⟨(x ++ r).drop n, 0⟩ : RS)) = _
  rw [List.take_left' h, List.drop_left' h]
theorem cF_front {m n : Int} {r : List Int} (h0 : 0 ≤ n) (h1 : n ≤ m) (h2 : m < 1000000) : cF m ⟨be8 n ++ r, 0⟩ = (n, ⟨r, 0⟩) := by
  have hu : uF ⟨be8 n ++ r, 0⟩ = (n, ⟨r, 0⟩) := by
    unfold uF
    rw [show takeF 8 ⟨be8 n ++ r, 0⟩ = (be8 n, ⟨r, 0⟩) from take_front rfl]
    show (valF (be8 n), _) = _
    rw [val_be8 h0 (by omega)]
  unfold cF
  rw [hu, if_neg (fun h => h rfl), if_neg (show ¬ m < n by omega)]
theorem hashN_front : ∀ {s : List (List Int)}, (∀ a ∈ s, a.length = 32) → hashN s.length ⟨s.flatten, 0⟩ = (s, ⟨[], 0⟩)
  | [], _ => rfl
  | a :: r, h => by
    have ih := hashN_front (s := r) fun b hb => h b (by simp [hb])
    have ht : hF ⟨(a :: r).flatten, 0⟩ = (a, ⟨r.flatten, 0⟩) := by
      unfold hF
      rw [List.flatten_cons]
      exact take_front (h a (by simp))
    show ((hF ⟨(a :: r).flatten, 0⟩).1 :: (hashN r.length (hF ⟨(a :: r).flatten, 0⟩).2).1, (hashN r.length (hF ⟨(a :: r).flatten, 0⟩).2).2) = _
    rw [ht, ih]
theorem get_out {p : Int × Int} {s : List (List Int)} (h : rightP p.1 p.2 s.length = true) (h32 : ∀ a ∈ s, a.length = 32) : getG (outF p s) = (p, (s, 0)) := by
  obtain ⟨h0, h1, h2, h3⟩ := right_facts h
  have e1 : q1 ⟨outF p s, 0⟩ = (p.1, ⟨be8 p.2 ++ (be8 (s.length : Int) ++ s.flatten), 0⟩) := cF_front h0 (by omega) (by decide)
  have e2 : q2 ⟨outF p s, 0⟩ = (p.2, ⟨be8 (s.length : Int) ++ s.flatten, 0⟩) := by
    unfold q2
    rw [e1]
    exact cF_front (by omega) (by omega) (by decide)
  have e3 : q3 ⟨outF p s, 0⟩ = ((s.length : Int), ⟨s.flatten, 0⟩) := by
    unfold q3
    rw [e2]
    exact cF_front (by omega) (by omega) (by decide)
  have e4 : grF ⟨outF p s, 0⟩ = (s, ⟨[], 0⟩) := by
    unfold grF
    rw [e3]
    exact hashN_front h32
  unfold getG
  rw [e1, e2, e4]
  have : okG (dF ⟨[], 0⟩) p.1 p.2 s.length = true := by
    unfold okG
    rw [h]
    rfl
  rw [this]
  rfl
theorem out_By (p : Int × Int) {s : List (List Int)} (ok : Ok32 s) : By (outF p s) := by
  refine (be8_By _).app ((be8_By _).app ((be8_By _).app fun x hx => ?_))
  obtain ⟨a, ha, hx⟩ := List.mem_flatten.1 hx
  exact (ok a ha).2 x hx
theorem put_ok (p : Int × Int) {s : List (List Int)} (ok : Ok32 s) : (putF p s).1.length ≤ 1000 ∧ By (putF p s).1 := by
  unfold putF
  cases hr : rightP p.1 p.2 s.length with
  | false => exact ⟨Nat.zero_le _, fun x hx => by cases hx⟩
  | true =>
    obtain ⟨h0, h1, h2, h3⟩ := right_facts hr
    refine ⟨?_, out_By p ok⟩
    show (outF p s).length ≤ 1000
    rw [← ot_end, ot_len (fun a ha => (ok a ha).1) (Nat.le_refl _)]
    omega
theorem getG_len {b : List Int} (hB : By b) : (getG b).2.1.length ≤ 32 := by
  have hq : 0 ≤ (q3 ⟨b, 0⟩).1 ∧ (q3 ⟨b, 0⟩).1 ≤ 32 := cF_bound (by decide) (cF_By (cF_By hB))
  have hl : (grF ⟨b, 0⟩).1.length ≤ 32 := by
    unfold grF
    rw [hashN_length]
    omega
  unfold getG
  cases okG (dF (grF ⟨b, 0⟩).2) (q1 ⟨b, 0⟩).1 (q2 ⟨b, 0⟩).1 (grF ⟨b, 0⟩).1.length with
  | true => exact hl
  | false => exact Nat.zero_le _
theorem same_refl (p : Int × Int) (s : List (List Int)) : sameF (p.1, p.2) (p.1, p.2) s s = true := by
  unfold sameF
  rw [beq_self_eq_true, beq_self_eq_true, decide_eq_true rfl]
  rfl
theorem bytes_law (x y : Value) {b : List Int} (p : Int × Int) {s : List (List Int)} (hb : By b) (hbl : b.length ≤ 140737488351232) (hs : s.length * 32 ≤ 140737488351232) (ok : Ok32 s) :
    SFun Tryd.prog 8 [pfM y p s, byV x b] (bool true) := by
  refine SFun.inm [(38, lnumT), (40, lknowsT), (39, samePT)] (SOK.cons lnum_ok (SOK.cons lknows_ok (SOK.cons sameP_ok SOK.nil))) [(16, lentT), (34, lownT), (33, lputT), (35, rputT), (2000036, noT), (36, getGT), (37, rgetT), (2000019, noT), (19, staysMT)] (MSOK.cons lent_ok (MSOK.cons lown_ok (MSOK.cons lput_ok (MSOK.cons rput_ok (MSOK.cons noT_ok (MSOK.cons getG_ok (MSOK.cons rget_ok (MSOK.cons noT_ok (MSOK.cons staysM_ok MSOK.nil))))))))) tok mixed [] IOK.nil true [] [] Tryd.call8 Tryd.func8 rfl (by rfl) ?_
  refine Eq.mp (α := (∃ l : List Int, (And (List.map (Enc.enc (encInt IntKind.u8)) b = List.map eB l) (And (List.length l ≤ (140737488351232 : Nat)) (∀ c : CapT (List.length l + (2 : Nat)), (∃ s_1 : List (List Int), (And (List.map (Enc.enc H32) s = List.map eH s_1) (And (List.length s_1 * (32 : Nat) ≤ (140737488351232 : Nat)) (∀ y_1 : Value, (∃ s_2 : List (List Int), (And (List.map (Enc.enc H32) s_1 = List.map eH s_2) (And (And (List.length s_2 < (9223372036854775808 : Nat)) (∀ a : List Int, (∀ a_1 : a ∈ s_2, (List.length a = (32 : Nat))))) (∀ y_2 : Value, (∃ s_3 : List (List Int), (And (List.map (Enc.enc H32) s = List.map eH s_3) (And (And (List.length s_3 < (9223372036854775808 : Nat)) (∀ a : List Int, (∀ a_1 : a ∈ s_3, (List.length a = (32 : Nat))))) (∀ y_3 : Value, (∃ bb : List Int, (And (List.map (Enc.enc (encInt IntKind.u8)) (l ++ [(55 : Int), (56 : Int)]) = List.map (Enc.enc EB) bb) (And (And (CapT.cap c = CapT.cap c) (And (List.length bb ≤ (150000000000000 : Nat)) (And (List.length l ≤ List.length bb) (And (List.length l ≤ CapT.cap c) (And ((0 : Nat) < CapT.cap c) (And (List.length l ≤ (140737488351232 : Nat)) (∀ x_1 : Int, (∀ a : x_1 ∈ List.take (List.length l) bb, (And ((0 : Int) ≤ x_1) (x_1 < (256 : Int))))))))))) (∀ y_4 : Value, (∃ b_1 : List Int, (And (List.map (Enc.enc (encInt IntKind.u8)) b = List.map eB b_1) (And (And (List.length b_1 ≤ (140737488351232 : Nat)) (∀ x_1 : Int, (∀ a : x_1 ∈ b_1, (And ((0 : Int) ≤ x_1) (x_1 < (256 : Int)))))) (∀ y_5 : Value, (∃ b_2 : List Int, (And (List.map (Enc.enc (encInt IntKind.u8)) (Prod.fst (putF (Prod.fst p, Prod.snd p) s_2)) = List.map eB b_2) (And (And (List.length b_2 ≤ (140737488351232 : Nat)) (∀ x_1 : Int, (∀ a : x_1 ∈ b_2, (And ((0 : Int) ≤ x_1) (x_1 < (256 : Int)))))) (∀ y_6 : Value, (@Bool.rec (fun _ => Prop) (And (∀ x_1 : Int, (∀ a : x_1 ∈ Prod.fst (putF (Prod.fst p, Prod.snd p) s_2), (∃ b_3 : Int, (Enc.enc (encInt IntKind.u8) x_1 = [SV.v (Value.int IntKind.u8 b_3)])))) (And (∀ x_1 : Int, (∀ a : x_1 ∈ Prod.fst (putF (Prod.fst p, Prod.snd p) s_3), (∃ b_3 : Int, (Enc.enc (encInt IntKind.u8) x_1 = [SV.v (Value.int IntKind.u8 b_3)])))) (@Bool.rec (fun _ => Prop) (And (M.one (SV.v (Value.bool false)) = M.one (SV.v (Value.bool true))) ((true : Bool) = true)) (@Bool.rec (fun _ => Prop) (And (M.one (SV.v (Value.bool false)) = M.one (SV.v (Value.bool true))) ((true : Bool) = true)) (∃ s_4 : List (List Int), (And (List.map (Enc.enc H32) (Prod.fst (Prod.snd (getG (List.take (List.length l) bb)))) = List.map eH s_4) (∃ t : List (List Int), (And (List.map (Enc.enc H32) (Prod.fst (Prod.snd (getF b_1))) = List.map eH t) (And (And (List.length s_4 ≤ (1000000000000000 : Nat)) (List.length t ≤ (1000000000000000 : Nat))) (@Bool.rec (fun _ => Prop) (And (M.one (SV.v (Value.bool false)) = M.one (SV.v (Value.bool true))) ((true : Bool) = true)) (@Bool.rec (fun _ => Prop) (And (M.one (SV.v (Value.bool false)) = M.one (SV.v (Value.bool true))) ((true : Bool) = true)) (∃ l_1 : List Int, (And (List.map (Enc.enc (encInt IntKind.u8)) b = List.map eB l_1) (∃ b_3 : List Int, (And (List.map (Enc.enc EB) bb = List.map (Enc.enc (encInt IntKind.u8)) b_3) (And (And (b_3 = l_1 ++ [(55 : Int), (56 : Int)]) (And (List.length l = List.length l_1) (And (CapT.cap c = CapT.cap c) (And (List.length l_1 + (2 : Nat) ≤ CapT.cap c) (List.length l_1 ≤ (140737488351232 : Nat)))))) (∀ o : Unit, (And (M.one (SV.v (Value.bool true)) = M.one (SV.v (Value.bool true))) ((true : Bool) = true)))))))) (Prod.snd (Prod.snd (getG (List.take (List.length l) bb))) == Prod.snd (Prod.snd (getF b_1)))) (sameF (Prod.fst (Prod.fst (getG (List.take (List.length l) bb))), Prod.snd (Prod.fst (getG (List.take (List.length l) bb)))) (Prod.fst (Prod.fst (getF b_1)), Prod.snd (Prod.fst (getF b_1))) s_4 t))))))) (Prod.snd (putF (Prod.fst p, Prod.snd p) s_2) == Prod.snd (putF (Prod.fst p, Prod.snd p) s_3))) (ByteArray.toList (strOfNums (bytesOf (Enc.enc (encInt IntKind.u8)) (Prod.fst (putF (Prod.fst p, Prod.snd p) s_2)))) == ByteArray.toList (strOfNums (bytesOf (Enc.enc (encInt IntKind.u8)) (Prod.fst (putF (Prod.fst p, Prod.snd p) s_3)))))))) (@Bool.rec (fun _ => Prop) (∃ s_4 : List (List Int), (And (List.map (Enc.enc H32) (Prod.fst (Prod.snd (getG b_2))) = List.map eH s_4) (∃ t : List (List Int), (And (List.map (Enc.enc H32) s = List.map eH t) (And (And (List.length s_4 ≤ (1000000000000000 : Nat)) (List.length t ≤ (1000000000000000 : Nat))) (@Bool.rec (fun _ => Prop) (And (∀ x_1 : Int, (∀ a : x_1 ∈ Prod.fst (putF (Prod.fst p, Prod.snd p) s_2), (∃ b_3 : Int, (Enc.enc (encInt IntKind.u8) x_1 = [SV.v (Value.int IntKind.u8 b_3)])))) (And (∀ x_1 : Int, (∀ a : x_1 ∈ Prod.fst (putF (Prod.fst p, Prod.snd p) s_3), (∃ b_3 : Int, (Enc.enc (encInt IntKind.u8) x_1 = [SV.v (Value.int IntKind.u8 b_3)])))) (@Bool.rec (fun _ => Prop) (And (M.one (SV.v (Value.bool false)) = M.one (SV.v (Value.bool true))) ((true : Bool) = true)) (@Bool.rec (fun _ => Prop) (And (M.one (SV.v (Value.bool false)) = M.one (SV.v (Value.bool true))) ((true : Bool) = true)) (∃ s_5 : List (List Int), (And (List.map (Enc.enc H32) (Prod.fst (Prod.snd (getG (List.take (List.length l) bb)))) = List.map eH s_5) (∃ t_1 : List (List Int), (And (List.map (Enc.enc H32) (Prod.fst (Prod.snd (getF b_1))) = List.map eH t_1) (And (And (List.length s_5 ≤ (1000000000000000 : Nat)) (List.length t_1 ≤ (1000000000000000 : Nat))) (@Bool.rec (fun _ => Prop) (And (M.one (SV.v (Value.bool false)) = M.one (SV.v (Value.bool true))) ((true : Bool) = true)) (@Bool.rec (fun _ => Prop) (And (M.one (SV.v (Value.bool false)) = M.one (SV.v (Value.bool true))) ((true : Bool) = true)) (∃ l_1 : List Int, (And (List.map (Enc.enc (encInt IntKind.u8)) b = List.map eB l_1) (∃ b_3 : List Int, (And (List.map (Enc.enc EB) bb = List.map (Enc.enc (encInt IntKind.u8)) b_3) (And (And (b_3 = l_1 ++ [(55 : Int), (56 : Int)]) (And (List.length l = List.length l_1) (And (CapT.cap c = CapT.cap c) (And (List.length l_1 + (2 : Nat) ≤ CapT.cap c) (List.length l_1 ≤ (140737488351232 : Nat)))))) (∀ o : Unit, (And (M.one (SV.v (Value.bool true)) = M.one (SV.v (Value.bool true))) ((true : Bool) = true)))))))) (Prod.snd (Prod.snd (getG (List.take (List.length l) bb))) == Prod.snd (Prod.snd (getF b_1)))) (sameF (Prod.fst (Prod.fst (getG (List.take (List.length l) bb))), Prod.snd (Prod.fst (getG (List.take (List.length l) bb)))) (Prod.fst (Prod.fst (getF b_1)), Prod.snd (Prod.fst (getF b_1))) s_5 t_1))))))) (Prod.snd (putF (Prod.fst p, Prod.snd p) s_2) == Prod.snd (putF (Prod.fst p, Prod.snd p) s_3))) (ByteArray.toList (strOfNums (bytesOf (Enc.enc (encInt IntKind.u8)) (Prod.fst (putF (Prod.fst p, Prod.snd p) s_2)))) == ByteArray.toList (strOfNums (bytesOf (Enc.enc (encInt IntKind.u8)) (Prod.fst (putF (Prod.fst p, Prod.snd p) s_3)))))))) (And (M.one (SV.v (Value.bool false)) = M.one (SV.v (Value.bool true))) ((true : Bool) = true)) (!sameF (Prod.fst (Prod.fst (getG b_2)), Prod.snd (Prod.fst (getG b_2))) (Prod.fst p, Prod.snd p) s_4 t))))))) (And (M.one (SV.v (Value.bool false)) = M.one (SV.v (Value.bool true))) ((true : Bool) = true)) (Prod.snd (Prod.snd (getG b_2)) != (0 : Int))) (Prod.snd (putF (Prod.fst p, Prod.snd p) s_2) == (0 : Int)))))))))))))))))))))))))))))))) (by kernel_rfl) ?_
  have tB : List.take b.length (b ++ [55, 56]) = b := by rw [List.take_append_of_le_length (Nat.le_refl _), List.take_length]
  have tL : (b ++ [55, 56]).length = b.length + 2 := by simp
  have h32 : ∀ a ∈ s, a.length = 32 := fun a ha => (ok a ha).1
  obtain ⟨hpl, hpb⟩ := put_ok p ok
  have hgl := getG_len hb
  refine ⟨b, rfl, hbl, ?_⟩
  rintro ⟨c, hc⟩
  refine ⟨s, rfl, hs, fun y1 => ⟨s, rfl, ⟨by omega, h32⟩, fun y2 => ⟨s, rfl, ⟨by omega, h32⟩, fun y3 => ⟨b ++ [55, 56], rfl, ⟨rfl, by omega, by omega, by show b.length ≤ c; omega, by show 0 < c; omega, hbl, by rw [tB]; exact hb⟩, fun y4 => ⟨b, rfl, ⟨hbl, hb⟩, fun y5 => ⟨(putF p s).1, rfl, ⟨by omega, hpb⟩, fun y6 => ?_⟩⟩⟩⟩⟩⟩
  rw [gets_eq, tB]
  have z21 : ((21 : Int) == 0) = false := by decide
  have z0 : ((0 : Int) == 0) = true := by decide
  have z00 : ((0 : Int) != 0) = false := by decide
  have eG : ∃ G, G = getG b := ⟨_, rfl⟩
  obtain ⟨⟨⟨g1, g2⟩, g3, g4⟩, hG⟩ := eG
  rw [← hG] at hgl ⊢
  have smG := same_refl (g1, g2) g3
  have smp := same_refl p s
  dsimp only at hgl smG ⊢
  refine bif_b (fun h => ?_) (fun _ => ?_)
  · have hr : rightP p.1 p.2 s.length = true := by
      cases hr : rightP p.1 p.2 s.length with
      | true => rfl
      | false =>
        have ep : putF (p.1, p.2) s = ([], 21) := by unfold putF; rw [hr]; rfl
        rw [ep] at h
        cases h
    have ep : (putF (p.1, p.2) s).1 = outF p s := by unfold putF; rw [hr]; rfl
    have hget : getG (putF (p.1, p.2) s).1 = (p, (s, 0)) := by rw [ep]; exact get_out hr h32
    refine bif_b (fun h2 => absurd h2 (by rw [hget]; show ¬ (((0 : Int) != 0) = true); decide)) (fun _ => ?_)
    rw [hget]
    refine ⟨s, rfl, s, rfl, ⟨by omega, by omega⟩, ?_⟩
    refine bif_b (fun h2 => absurd h2 (by rw [smp]; show ¬ ((!true) = true); decide)) (fun _ => ?_)
    repeat' first
      | exact trivial
      | exact hc
      | exact hbl
      | exact hgl
      | refine ⟨b, rfl, ?_⟩
      | refine ⟨g3, rfl, ?_⟩
      | refine ⟨b ++ [55, 56], rfl, ?_⟩
      | with_reducible refine And.intro ?_ ?_
      | with_reducible refine bif_t (beq_self_eq_true _) ?_
      | with_reducible refine bif_t smG ?_
      | (intro z)
      | exact ⟨_, rfl⟩
      | omega
      | rfl
  ·
    repeat' first
      | exact trivial
      | exact hc
      | exact hbl
      | exact hgl
      | refine ⟨b, rfl, ?_⟩
      | refine ⟨g3, rfl, ?_⟩
      | refine ⟨b ++ [55, 56], rfl, ?_⟩
      | with_reducible refine And.intro ?_ ?_
      | with_reducible refine bif_t (beq_self_eq_true _) ?_
      | with_reducible refine bif_t smG ?_
      | (intro z)
      | exact ⟨_, rfl⟩
      | omega
      | rfl
end Go.Proofs.YtblapbjafbmndaaDoor
