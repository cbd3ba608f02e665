/- Parts in memory of their own; digests of frames and of pairs; the law DigestFrames. -/
import Derived.Test.YtblapbjafbmndaaDoorP8
import Derived.Test.YtblapbjafbmndaaDoorSx24
namespace Go.Proofs.YtblapbjafbmndaaDoor
open Go Go.Sx Go.Sha
set_option linter.unusedVariables false
set_option linter.unusedSimpArgs false
set_option maxRecDepth 100000
set_option maxHeartbeats 4000000

/-- Rows with the same bytes. -/
structure PiT (l : List BTy) where
  i : Nat
  r : List BTy
  cap : Nat
  hi : i ≤ l.length
  hc : r.length ≤ cap
  he : r.map bl = (l.take i).map bl
structure PaT (l : List BTy) where
  y : Value
  r : List BTy
  he : r.map bl = l.map bl
theorem PiT.len {l : List BTy} (o : PiT l) : o.r.length = o.i := by
  have := congrArg List.length o.he
  have h := o.hi
  simp at this
  omega
theorem PaT.len {l : List BTy} (o : PaT l) : o.r.length = l.length := by have := congrArg List.length o.he; simpa using this
theorem castE (l : List BTy) : castL (encRec [.sl 1 [.int .u8]]) BE l = l := castL_self _ _ rfl
theorem ofE (x : Value) (l : List Int) : (encRec [.sl 1 [.int .u8]]).of ((x, mkL l), ()) = mkB x l := rfl
theorem pa_step {l r : List BTy} {i : Nat} (he : r.map bl = (l.take i).map bl) (hi : i < l.length) (x : Value) : (r ++ [mkB x (bl l[i])]).map bl = (l.take (i + 1)).map bl := by
  rw [List.map_append, he, List.take_add_one, List.getElem?_eq_getElem hi, List.map_append]
  simp [bl_mk]
theorem encBE_pure (l : List BTy) : ∀ x ∈ l, ∀ s ∈ BE.enc x, s.isPure = true := fun x _ => Enc.pures BE x
theorem parts_spec (x : Value) {l : List BTy} (h1 : l.length * 24 ≤ 140737488351232) (h2 : ∀ y ∈ l, y.1.2.length ≤ 140737488351232) : SMem Tryd.prog 22 [bV x l] 0 []
    (fun o : PaT l => ⟨0, bV o.y o.r, []⟩) := by
  refine SMem.inf 1 BE [] SOK.nil [] MSOK.nil tok mixed [] IOK.nil false [(3, ⟨PiT l, fun p => ⟨1, [(0, bV x l), (3, .one (.nslc 0 1 p.r.length p.cap)), (4, int p.i)], [(0, .row 1 BE p.r p.cap)]⟩, fun p => l.length - p.i, fun _ _ => True⟩)] [] Tryd.call22 Tryd.func22 rfl (by rfl) ?_
  refine Eq.mp (α := (∃ i0 : PiT l, (And (And True (And (And (SV.view x (1 : Nat) (Enc.enc BE) l = SV.view x (1 : Nat) (Enc.enc BE) l) (And (And ((true : Bool) = true) (And (List.length (PiT.r i0) = (0 : Nat)) (PiT.cap i0 = (0 : Nat)))) (And ((↑(PiT.i i0) : Int) = (0 : Int)) True))) (And (And (And ((true : Bool) = true) (And (PiT.cap i0 = (0 : Nat)) (And (List.map (Enc.enc BE) (PiT.r i0) = List.map (Enc.enc BE) []) (∀ x_1 : RK.TL [RK.sl (1 : Nat) [RK.int IntKind.u8]], (∀ a : x_1 ∈ PiT.r i0, (∀ s : SV, (∀ a_1 : s ∈ Enc.enc BE x_1, ((SV.isPure s : Bool) = true)))))))) (And ((true : Bool) = true) True)) ((true : Bool) = true)))) (∀ i : PiT l, (∀ a : True, (@Bool.rec (fun _ => Prop) (And (List.length (PiT.r i) ≤ List.length (PiT.r i)) (And (List.length (PiT.r i) ≤ PiT.cap i) (And (PiT.cap i = PiT.cap i) (And (∀ y : RK.TL [RK.sl (1 : Nat) [RK.int IntKind.u8]], ((true : Bool) = true)) (∀ x_1 : Value, (∃ o : PaT l, (And (And (SV.view (PaT.y o) (1 : Nat) (Enc.enc BE) (PaT.r o) = SV.view x_1 (1 : Nat) (Enc.enc BE) (List.take (List.length (PiT.r i)) (PiT.r i))) True) (And True ((true : Bool) = true))))))))) (And ((0 : Int) ≤ (↑(PiT.i i) : Int)) (∃ hk : Int.toNat (↑(PiT.i i) : Int) < List.length l, (And ((0 : Nat) = (0 : Nat)) (And ((0 : Nat) = (0 : Nat)) (∃ ys : List Int, (And (List.map (Enc.enc (encInt IntKind.u8)) ys = List.map (RK.svs._f [RK.int IntKind.u8] ⟨⟨RK.sv._f (RK.int IntKind.u8) PUnit.unit, PUnit.unit⟩, RK.svs._f [] PUnit.unit, PUnit.unit⟩) (Prod.snd (Prod.fst l[Int.toNat (↑(PiT.i i) : Int)]))) (And (((0 : Nat) + List.length ys) * (1 : Nat) ≤ (150000000000000 : Nat)) (∀ cap2 : Nat, (∀ a_1 : (0 : Nat) + List.length ys ≤ cap2, (And ((0 : Nat) + List.length ([] ++ ys) ≤ List.length ([] ++ ys)) (And (List.length ([] ++ ys) ≤ cap2) (And (∀ y : Int, ((true : Bool) = true)) (∀ x_1 : Value, (∃ l' : List (RK.TL [RK.int IntKind.u8]), (And (List.map (Enc.enc (encInt IntKind.u8)) (List.take (List.length ([] ++ ys)) (List.drop (0 : Nat) ([] ++ ys))) = List.map (RK.svs [RK.int IntKind.u8]) l') (And (List.length (PiT.r i) = List.length (PiT.r i)) (And (PiT.cap i = PiT.cap i) (And ((0 : Nat) + (1 : Nat) ≤ (1 : Nat)) (And ((List.length (PiT.r i) + (1 : Nat)) * (24 : Nat) ≤ (150000000000000 : Nat)) (∀ cap2_1 : Nat, (∀ a_2 : List.length (PiT.r i) + (1 : Nat) ≤ cap2_1, (∃ i' : PiT l, (And (And (List.length l - PiT.i i' < List.length l - PiT.i i) True) (And (And (SV.view x (1 : Nat) (Enc.enc BE) l = SV.view x (1 : Nat) (Enc.enc BE) l) (And (And ((true : Bool) = true) (And (List.length (PiT.r i') = List.length (PiT.r i ++ castL (encRec [RK.sl (1 : Nat) [RK.int IntKind.u8]]) BE (List.take (1 : Nat) (List.drop (0 : Nat) [Enc.of (encRec [RK.sl (1 : Nat) [RK.int IntKind.u8]]) ((x_1, l'), ())])))) (PiT.cap i' = cap2_1))) (And ((↑(PiT.i i') : Int) = IntKind.wrap IntKind.i64 ((↑(PiT.i i) : Int) + (1 : Int))) True))) (And (And (And ((true : Bool) = true) (And (PiT.cap i' = cap2_1) (And (List.map (Enc.enc BE) (PiT.r i') = List.map (Enc.enc BE) (PiT.r i ++ castL (encRec [RK.sl (1 : Nat) [RK.int IntKind.u8]]) BE (List.take (1 : Nat) (List.drop (0 : Nat) [Enc.of (encRec [RK.sl (1 : Nat) [RK.int IntKind.u8]]) ((x_1, l'), ())])))) (∀ x_2 : RK.TL [RK.sl (1 : Nat) [RK.int IntKind.u8]], (∀ a_3 : x_2 ∈ PiT.r i', (∀ s : SV, (∀ a_4 : s ∈ Enc.enc BE x_2, ((SV.isPure s : Bool) = true)))))))) (And ((true : Bool) = true) True)) ((true : Bool) = true)))))))))))))))))))))))))) (decide ((↑(PiT.i i) : Int) < (↑(List.length l) : Int))))))))) (by kernel_rfl) ?_
  refine ⟨⟨0, [], 0, Nat.zero_le _, Nat.le_refl _, rfl⟩, ?_, ?_⟩
  ·
    repeat' first | exact encBE_pure _ | exact trivial | refine And.intro ?_ ?_ | with_reducible refine bif_dt (by assumption) ?_ | with_reducible refine bif_df (by assumption) ?_ | with_reducible refine bif_dec (fun _ => ?_) (fun _ => ?_) | with_reducible refine bif_not ?_ | with_reducible refine bif_and ?_ | with_reducible refine bif_or ?_ | with_reducible refine bif_t (by assumption) ?_ | with_reducible refine bif_f (by assumption) ?_ | with_reducible refine bif_t (beq_self_eq_true _) ?_ | with_reducible refine bif_b (fun _ => ?_) (fun _ => ?_) | with_reducible refine ⟨_, Eq.refl (List.map _ _), ?_⟩ | (with_reducible refine Exists.intro (by omega) ?_) | rfl | (intro h0; omega) | omega
  rintro ⟨i, r, cap, hi, hc, he⟩ -
  have hlen : r.length = i := (PiT.mk i r cap hi hc he).len
  dsimp only
  refine bif_dec (fun h => ?_) (fun h => ?_)
  · have hi' : i < l.length := by omega
    have hb := h2 _ (List.getElem_mem hi')
    have hbl := bl_length l[i]
    simp only [Int.toNat_natCast, inext (show i < 9223372036854775807 by omega)]
    refine ⟨by omega, hi', trivial, trivial, bl l[i], bl_enc _, by omega, fun cap2 k2 => ?_⟩
    rw [List.nil_append, List.drop_zero, List.take_length]
    refine ⟨by omega, by omega, fun _ => trivial, fun x1 => ⟨mkL (bl l[i]), encmk _, trivial, trivial, by omega, by omega, fun cap3 k3 => ?_⟩⟩
    rw [List.drop_zero, List.take_succ_cons, List.take_zero, castE, ofE]
    refine ⟨⟨i + 1, r ++ [mkB x1 (bl l[i])], cap3, hi', by rw [List.length_append]; exact k3, pa_step he hi' x1⟩, ⟨show l.length - (i + 1) < l.length - i by omega, trivial⟩, ?_⟩
    repeat' first | exact encBE_pure _ | exact trivial | refine And.intro ?_ ?_ | with_reducible refine bif_dt (by assumption) ?_ | with_reducible refine bif_df (by assumption) ?_ | with_reducible refine bif_dec (fun _ => ?_) (fun _ => ?_) | with_reducible refine bif_not ?_ | with_reducible refine bif_and ?_ | with_reducible refine bif_or ?_ | with_reducible refine bif_t (by assumption) ?_ | with_reducible refine bif_f (by assumption) ?_ | with_reducible refine bif_t (beq_self_eq_true _) ?_ | with_reducible refine bif_b (fun _ => ?_) (fun _ => ?_) | with_reducible refine ⟨_, Eq.refl (List.map _ _), ?_⟩ | (with_reducible refine Exists.intro (by omega) ?_) | rfl | (intro h0; omega) | omega
  · have hil : i = l.length := by omega
    subst hil
    rw [List.take_length] at he
    repeat (with_reducible refine And.intro (by first | exact trivial | omega | decide | exact fun _ => rfl | exact fun _ => trivial) ?_)
    intro y
    refine ⟨⟨y, r, he⟩, ?_⟩
    rw [List.take_of_length_le (Nat.le_refl _)]
    repeat' first | exact trivial | refine And.intro ?_ ?_ | with_reducible refine bif_dt (by assumption) ?_ | with_reducible refine bif_df (by assumption) ?_ | with_reducible refine bif_dec (fun _ => ?_) (fun _ => ?_) | with_reducible refine bif_not ?_ | with_reducible refine bif_and ?_ | with_reducible refine bif_or ?_ | with_reducible refine bif_t (by assumption) ?_ | with_reducible refine bif_f (by assumption) ?_ | with_reducible refine bif_t (beq_self_eq_true _) ?_ | with_reducible refine bif_b (fun _ => ?_) (fun _ => ?_) | with_reducible refine ⟨_, Eq.refl (List.map _ _), ?_⟩ | (with_reducible refine Exists.intro (by omega) ?_) | rfl | (intro h0; omega) | omega
def partsT : MT := fun ms n h K => match ms with
  | [.one (.view vx0 ve0 en0 vl0)] => bif Nat.beq ve0 1 && noDup [] then ∃ l : List (BTy), vl0.map en0 = l.map eBl ∧ ((l.length * 24 ≤ 140737488351232 ∧ ∀ y ∈ l, y.1.2.length ≤ 140737488351232)) ∧ (∀ o : PaT l, K (n + 0) (bV o.y o.r) ([] ++ delL [] h)) else False
  | _ => False
theorem parts_mono : MMono partsT := by
  intro ms n h K K' hkk hk
  unfold partsT at hk ⊢
  split at hk
  · rename_i vx0 ve0 va0 en0 vl0
    obtain ⟨hb, y0, z0, h1, h2⟩ := cond_false_elim hk
    rw [hb]
    exact ⟨y0, z0, h1, fun o => hkk _ _ _ (h2 o)⟩
  · exact hk.elim
theorem parts_ok : MOK Tryd.prog 22 partsT := by
  refine ⟨?_, parts_mono⟩
  intro ms n hB K hk
  unfold partsT at hk
  split at hk
  · rename_i vx0 ve0 va0 en0 vl0
    obtain ⟨hb, l, he0, h, hk2⟩ := cond_false_elim hk
    clear hk
    simp only [Bool.and_eq_true] at hb
    obtain ⟨hc0, hnd⟩ := hb
    have hs0 := Nat.eq_of_beq_eq_true hc0
    subst hs0
    refine SCall.seen ?_ (.cons (.view he0) .nil)
    exact (parts_spec _ h.1 h.2).use (fun _ => 0) rfl rfl trivial hnd (fun j hj => absurd hj (Nat.not_lt_zero j)) (fun o => hk2 o)
  · exact hk.elim


theorem frm_By {t : ByteArray} {l : List BTy} (h : ∀ y ∈ l, By (bl y)) : By (frm t l) := frameF_By (sl_By t) fun a ha => by
  obtain ⟨y, hy, rfl⟩ := List.mem_map.1 ha
  exact h y hy
theorem frm_len (t : ByteArray) (l : List BTy) : (frm t l).length ≤ 256 + (l.flatMap fB).length := by
  have := frm_mono t l l.length
  rwa [List.take_length] at this
theorem tagged_spec (x : Value) (t : ByteArray) {l : List BTy} (h : (l.flatMap fB).length ≤ 140000000000000) (ht : t.size ≤ 140737488351232) (hB : ∀ y ∈ l, By (bl y)) :
    SFun Tryd.prog 24 [str t, bV x l] (h32 (shaF (frm t l))) := by
  refine SFun.inm [(17, sumT)] (SOK.cons sum_ok SOK.nil) [(21, frameT)] (MSOK.cons frame_ok MSOK.nil) tok mixed [] IOK.nil true [] [] Tryd.call24 Tryd.func24 rfl (by rfl) ?_
  refine Eq.mp (α := (∃ l_1 : List BTy, (And (List.map (Enc.enc BE) l = List.map eBl l_1) (And (And (List.length (List.flatMap fB l_1) ≤ (140000000000000 : Nat)) (ByteArray.size t ≤ (140737488351232 : Nat))) (∀ y : Value, (∃ b : List Int, (And (List.map (Enc.enc (encInt IntKind.u8)) (frm t l_1) = List.map eB b) (And (And (∀ x_1 : Int, (∀ a : x_1 ∈ b, (And ((0 : Int) ≤ x_1) (x_1 < (256 : Int))))) (List.length b ≤ (140737488351232 : Nat))) (And (M.agg [SV.ints IntKind.u8 (32 : Nat) (shaF b)] = M.agg [SV.ints IntKind.u8 (32 : Nat) (shaF (frm t l))]) ((true : Bool) = true)))))))))) (by kernel_rfl) ?_
  have := frm_len t l
  refine ⟨l, rfl, ⟨h, ht⟩, fun y => ⟨frm t l, rfl, ⟨frm_By hB, by omega⟩, ?_⟩⟩
  repeat' first | exact trivial | refine And.intro ?_ ?_ | with_reducible refine bif_dt (by assumption) ?_ | with_reducible refine bif_df (by assumption) ?_ | with_reducible refine bif_dec (fun _ => ?_) (fun _ => ?_) | with_reducible refine bif_not ?_ | with_reducible refine bif_and ?_ | with_reducible refine bif_or ?_ | with_reducible refine bif_t (by assumption) ?_ | with_reducible refine bif_f (by assumption) ?_ | with_reducible refine bif_t (beq_self_eq_true _) ?_ | with_reducible refine bif_b (fun _ => ?_) (fun _ => ?_) | with_reducible refine ⟨_, Eq.refl (List.map _ _), ?_⟩ | (with_reducible refine Exists.intro (by omega) ?_) | rfl | (intro h0; omega) | omega
theorem rtagged_spec (x : Value) (t : ByteArray) {l : List BTy} (h : (l.flatMap fB).length ≤ 140000000000000) (ht : t.size ≤ 140737488351232) (hB : ∀ y ∈ l, By (bl y)) :
    SFun Tryd.prog 25 [str t, bV x l] (h32 (shaF (frm t l))) := by
  refine SFun.inm [(18, rSumT)] (SOK.cons rSum_ok SOK.nil) [(23, rframeT)] (MSOK.cons rframe_ok MSOK.nil) tok mixed [] IOK.nil true [] [] Tryd.call25 Tryd.func25 rfl (by rfl) ?_
  refine Eq.mp (α := (∃ l_1 : List BTy, (And (List.map (Enc.enc BE) l = List.map eBl l_1) (And (And (List.length (List.flatMap fB l_1) ≤ (140000000000000 : Nat)) (ByteArray.size t ≤ (140737488351232 : Nat))) (∀ y : Value, (∃ b : List Int, (And (List.map (Enc.enc (encInt IntKind.u8)) (frm t l_1) = List.map eB b) (And (And (∀ x_1 : Int, (∀ a : x_1 ∈ b, (And ((0 : Int) ≤ x_1) (x_1 < (256 : Int))))) (List.length b ≤ (140737488351232 : Nat))) (And (M.agg [SV.ints IntKind.u8 (32 : Nat) (shaF b)] = M.agg [SV.ints IntKind.u8 (32 : Nat) (shaF (frm t l))]) ((true : Bool) = true)))))))))) (by kernel_rfl) ?_
  have := frm_len t l
  refine ⟨l, rfl, ⟨h, ht⟩, fun y => ⟨frm t l, rfl, ⟨frm_By hB, by omega⟩, ?_⟩⟩
  repeat' first | exact trivial | refine And.intro ?_ ?_ | with_reducible refine bif_dt (by assumption) ?_ | with_reducible refine bif_df (by assumption) ?_ | with_reducible refine bif_dec (fun _ => ?_) (fun _ => ?_) | with_reducible refine bif_not ?_ | with_reducible refine bif_and ?_ | with_reducible refine bif_or ?_ | with_reducible refine bif_t (by assumption) ?_ | with_reducible refine bif_f (by assumption) ?_ | with_reducible refine bif_t (beq_self_eq_true _) ?_ | with_reducible refine bif_b (fun _ => ?_) (fun _ => ?_) | with_reducible refine ⟨_, Eq.refl (List.map _ _), ?_⟩ | (with_reducible refine Exists.intro (by omega) ?_) | rfl | (intro h0; omega) | omega
def taggedMT : MT := fun ms n h K => match ms with
  | [.one (.v (.string t)), .one (.view vx0 ve0 en0 vl0)] => bif Nat.beq ve0 1 && noDup [] then ∃ l : List (BTy), vl0.map en0 = l.map eBl ∧ (((l.flatMap fB).length ≤ 140000000000000 ∧ t.size ≤ 140737488351232 ∧ ∀ y ∈ l, By (bl y))) ∧ (∀ o : Unit, K (n + 0) (h32 (shaF (frm t l))) ([] ++ delL [] h)) else False
  | _ => False
theorem taggedM_mono : MMono taggedMT := by
  intro ms n h K K' hkk hk
  unfold taggedMT at hk ⊢
  split at hk
  · rename_i t vx0 ve0 va0 en0 vl0
    obtain ⟨hb, y0, z0, h1, h2⟩ := cond_false_elim hk
    rw [hb]
    exact ⟨y0, z0, h1, fun o => hkk _ _ _ (h2 o)⟩
  · exact hk.elim
theorem taggedM_ok : MOK Tryd.prog 24 taggedMT := by
  refine ⟨?_, taggedM_mono⟩
  intro ms n hB K hk
  unfold taggedMT at hk
  split at hk
  · rename_i t vx0 ve0 va0 en0 vl0
    obtain ⟨hb, l, he0, h, hk2⟩ := cond_false_elim hk
    clear hk
    simp only [Bool.and_eq_true] at hb
    obtain ⟨hc0, hnd⟩ := hb
    have hs0 := Nat.eq_of_beq_eq_true hc0
    subst hs0
    refine SCall.seen ?_ (.cons (.refl _) (.cons (.view he0) .nil))
    exact ((tagged_spec _ _ h.1 h.2.1 h.2.2).mem rfl).use (fun _ => 0) rfl rfl trivial hnd (fun j hj => absurd hj (Nat.not_lt_zero j)) (fun o => hk2 o)
  · exact hk.elim

def rtaggedMT : MT := fun ms n h K => match ms with
  | [.one (.v (.string t)), .one (.view vx0 ve0 en0 vl0)] => bif Nat.beq ve0 1 && noDup [] then ∃ l : List (BTy), vl0.map en0 = l.map eBl ∧ (((l.flatMap fB).length ≤ 140000000000000 ∧ t.size ≤ 140737488351232 ∧ ∀ y ∈ l, By (bl y))) ∧ (∀ o : Unit, K (n + 0) (h32 (shaF (frm t l))) ([] ++ delL [] h)) else False
  | _ => False
theorem rtaggedM_mono : MMono rtaggedMT := by
  intro ms n h K K' hkk hk
  unfold rtaggedMT at hk ⊢
  split at hk
  · rename_i t vx0 ve0 va0 en0 vl0
    obtain ⟨hb, y0, z0, h1, h2⟩ := cond_false_elim hk
    rw [hb]
    exact ⟨y0, z0, h1, fun o => hkk _ _ _ (h2 o)⟩
  · exact hk.elim
theorem rtaggedM_ok : MOK Tryd.prog 25 rtaggedMT := by
  refine ⟨?_, rtaggedM_mono⟩
  intro ms n hB K hk
  unfold rtaggedMT at hk
  split at hk
  · rename_i t vx0 ve0 va0 en0 vl0
    obtain ⟨hb, l, he0, h, hk2⟩ := cond_false_elim hk
    clear hk
    simp only [Bool.and_eq_true] at hb
    obtain ⟨hc0, hnd⟩ := hb
    have hs0 := Nat.eq_of_beq_eq_true hc0
    subst hs0
    refine SCall.seen ?_ (.cons (.refl _) (.cons (.view he0) .nil))
    exact ((rtagged_spec _ _ h.1 h.2.1 h.2.2).mem rfl).use (fun _ => 0) rfl rfl trivial hnd (fun j hj => absurd hj (Nat.not_lt_zero j)) (fun o => hk2 o)
  · exact hk.elim

end Go.Proofs.YtblapbjafbmndaaDoor
