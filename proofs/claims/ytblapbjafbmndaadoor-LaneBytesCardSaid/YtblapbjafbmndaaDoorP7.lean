/- Frames, by the program and by the document. -/
import Derived.Test.YtblapbjafbmndaaDoorP6
import Derived.Test.YtblapbjafbmndaaDoorDD
import Derived.Test.YtblapbjafbmndaaDoorSx24
namespace Go.Proofs.YtblapbjafbmndaaDoor
open Go Go.Sx Go.Sha
set_option linter.unusedVariables false
set_option linter.unusedSimpArgs false
set_option maxRecDepth 100000
set_option maxHeartbeats 4000000

abbrev BE : Enc (RK.TL [.sl 1 [.int .u8]]) := encRec [.sl 1 [.int .u8]]
abbrev BTy : Type := RK.TL [.sl 1 [.int .u8]]
abbrev eBl : BTy → List SV := BE.enc
abbrev bV (x : Value) (l : List BTy) : M := .one (.view x 1 BE.enc l)
/-- The bytes of a row's place. -/
def b1 (p : RK.TL [.int .u8]) : Int := Prod.fst (α := Int) (β := Unit) p
def bsl (y : BTy) : List (RK.TL [.int .u8]) := y.1.2
def bl (y : BTy) : List Int := (bsl y).map b1
def fB (y : BTy) : List Int := blb (bl y)
def mkI (y : Int) : RK.TL [.int .u8] := (Prod.mk (α := Int) (β := Unit) y ())
def mkL (l : List Int) : List (RK.TL [.int .u8]) := l.map mkI
def mkB (x : Value) (l : List Int) : BTy := ((x, mkL l), ())
theorem b1_mk : b1 ∘ mkI = id := rfl
theorem svs_mk : RK.svs [.int .u8] ∘ mkI = (encInt .u8).enc := rfl
theorem bl_mk (x : Value) (l : List Int) : bl (mkB x l) = l := by
  have : bl (mkB x l) = List.map b1 (List.map mkI l) := rfl
  rw [this, List.map_map, b1_mk]
  exact List.map_id l
theorem fB_mk (x : Value) (l : List Int) : fB (mkB x l) = blb l := by unfold fB; rw [bl_mk]
theorem encmk (l : List Int) : List.map (encInt .u8).enc l = List.map (RK.svs [.int .u8]) (mkL l) := by
  unfold mkL
  rw [List.map_map, svs_mk]
theorem bl_length (y : BTy) : (bl y).length = y.1.2.length := by
  unfold bl
  exact List.length_map _
theorem enc_b1 : (encInt .u8).enc ∘ b1 = RK.svs [.int .u8] := rfl
theorem bl_enc (y : BTy) : List.map (encInt .u8).enc (bl y) = List.map (RK.svs [.int .u8]) (bsl y) := by
  unfold bl
  rw [List.map_map, enc_b1]
theorem fB_flat (l : List BTy) : l.flatMap fB = (l.map bl).flatMap blb := by
  rw [List.flatMap_map]
  rfl
theorem fB_len : ∀ l : List BTy, 8 * l.length ≤ (l.flatMap fB).length
  | [] => Nat.zero_le _
  | y :: r => by
    have := fB_len r
    rw [List.flatMap_cons, List.length_append, List.length_cons]
    have : 8 ≤ (fB y).length := by unfold fB; rw [blb_length]; omega
    omega

/-- Frames of texts and rows. -/
def frm (t : ByteArray) (l : List BTy) : List Int := frameF (sl t) (l.map bl)
structure FrT (t : ByteArray) (l : List BTy) where
  i : Nat
  cap : Nat
  hi : i ≤ l.length
  hc : (frm t (l.take i)).length ≤ cap
theorem frm_step (t : ByteArray) (l : List BTy) {i : Nat} (h : i < l.length) : frm t (l.take i) ++ fB l[i] = frm t (l.take (i + 1)) := by
  unfold frm frameF
  rw [← fB_flat, ← fB_flat, ← flat_take fB l h]
  simp only [List.cons_append, List.append_assoc]
theorem frm_mono (t : ByteArray) (l : List BTy) (i : Nat) : (frm t (l.take i)).length ≤ 256 + (l.flatMap fB).length := by
  unfold frm
  rw [frameF_length, ← fB_flat]
  have := flat_mono fB l i
  omega
theorem inext {i : Nat} (h : i < 9223372036854775807) : IntKind.i64.wrap ((i : Int) + 1) = ((i + 1 : Nat) : Int) := by rw [wrap64 (by omega) (by omega)]; omega
theorem t8 (x : Int) : List.take 8 (List.drop 0 (be8 x)) = be8 x := rfl
/-- The start of a frame. -/
theorem frm0 (t : ByteArray) : frm t [] = ((min t.size 255 : Nat) : Int) :: (sl t).take (min t.size 255) := by
  unfold frm frameF
  rw [List.map_nil, List.flatMap_nil, List.append_nil, sl_length]
  congr 1
  rw [List.take_eq_take_iff, sl_length]
  omega
theorem tagN (t : ByteArray) : (if (255 : Int) < (t.size : Int) then 255 else (t.size : Int)) = ((min t.size 255 : Nat) : Int) := by
  split <;> omega
theorem extN (t : ByteArray) : (t.extract 0 (min t.size 255)).size = min t.size 255 := by
  rw [← sl_length, sl_extract, List.length_take, sl_length]
  omega
theorem wrap8n {n : Nat} (h : n < 256) : IntKind.u8.wrap (n : Int) = (n : Int) := by rw [wrap_u8]; omega

theorem frame_spec (x : Value) (t : ByteArray) {l : List BTy} (h : (l.flatMap fB).length ≤ 140000000000000) (ht : t.size ≤ 140737488351232) :
    SMem Tryd.prog 21 [str t, bV x l] 0 [] (fun y : Value => ⟨0, byV y (frm t l), []⟩) := by
  refine SMem.inf 1 EB [] SOK.nil [(63, eightT)] (MSOK.cons eight_ok MSOK.nil) tok mixed [] IOK.nil false [(4, ⟨FrT t l, fun p => ⟨1, [(5, .one (.slc 0 1 0 (frm t (l.take p.i)).length p.cap)), (19, bV x l), (20, int l.length), (21, int p.i)], [(0, .row 1 (encInt .u8) (frm t (l.take p.i)) p.cap)]⟩, fun p => l.length - p.i, fun _ _ => True⟩)] [] Tryd.call21 Tryd.func21 rfl (by rfl) ?_
  refine Eq.mp (α := (And ((0 : Int) ≤ if (255 : Int) < (↑(ByteArray.size t) : Int) then (255 : Int) else (↑(ByteArray.size t) : Int)) (And ((0 : Nat) ≤ Int.toNat (if (255 : Int) < (↑(ByteArray.size t) : Int) then (255 : Int) else (↑(ByteArray.size t) : Int))) (And (Int.toNat (if (255 : Int) < (↑(ByteArray.size t) : Int) then (255 : Int) else (↑(ByteArray.size t) : Int)) ≤ ByteArray.size t) (And ((1 : Nat) = (1 : Nat)) (And ((1 : Nat) = (1 : Nat)) (And (((1 : Nat) + List.length (castL (encInt IntKind.u8) (encInt IntKind.u8) (sl (ByteArray.extract t (0 : Nat) (Int.toNat (if (255 : Int) < (↑(ByteArray.size t) : Int) then (255 : Int) else (↑(ByteArray.size t) : Int))))))) * (1 : Nat) ≤ (150000000000000 : Nat)) (∀ cap2 : Nat, (∀ a : (1 : Nat) + List.length (castL (encInt IntKind.u8) (encInt IntKind.u8) (sl (ByteArray.extract t (0 : Nat) (Int.toNat (if (255 : Int) < (↑(ByteArray.size t) : Int) then (255 : Int) else (↑(ByteArray.size t) : Int)))))) ≤ cap2, (∃ i0 : FrT t l, (And (And True (And (And (And ((true : Bool) = true) (And ((0 : Nat) = (0 : Nat)) (And (List.length (frm t (List.take (FrT.i i0) l)) = List.length ([Enc.of (encInt IntKind.u8) (IntKind.wrap IntKind.u8 (↑(ByteArray.size (ByteArray.extract t (0 : Nat) (Int.toNat (if (255 : Int) < (↑(ByteArray.size t) : Int) then (255 : Int) else (↑(ByteArray.size t) : Int))))) : Int), ())] ++ castL (encInt IntKind.u8) (encInt IntKind.u8) (sl (ByteArray.extract t (0 : Nat) (Int.toNat (if (255 : Int) < (↑(ByteArray.size t) : Int) then (255 : Int) else (↑(ByteArray.size t) : Int))))))) (FrT.cap i0 = cap2)))) (And (SV.view x (1 : Nat) (Enc.enc BE) l = SV.view x (1 : Nat) (Enc.enc BE) l) (And ((↑(List.length l) : Int) = (↑(List.length l) : Int)) (And ((↑(FrT.i i0) : Int) = (0 : Int)) True)))) (And (And (And ((true : Bool) = true) (And (FrT.cap i0 = cap2) (And (List.map (Enc.enc (encInt IntKind.u8)) (frm t (List.take (FrT.i i0) l)) = List.map (Enc.enc (encInt IntKind.u8)) ([Enc.of (encInt IntKind.u8) (IntKind.wrap IntKind.u8 (↑(ByteArray.size (ByteArray.extract t (0 : Nat) (Int.toNat (if (255 : Int) < (↑(ByteArray.size t) : Int) then (255 : Int) else (↑(ByteArray.size t) : Int))))) : Int), ())] ++ castL (encInt IntKind.u8) (encInt IntKind.u8) (sl (ByteArray.extract t (0 : Nat) (Int.toNat (if (255 : Int) < (↑(ByteArray.size t) : Int) then (255 : Int) else (↑(ByteArray.size t) : Int))))))) (∀ x_1 : Int, (∀ a_1 : x_1 ∈ frm t (List.take (FrT.i i0) l), (∀ s : SV, (∀ a_2 : s ∈ Enc.enc (encInt IntKind.u8) x_1, ((SV.isPure s : Bool) = true)))))))) (And ((true : Bool) = true) True)) ((true : Bool) = true)))) (∀ i : FrT t l, (∀ a_1 : True, (@Bool.rec (fun _ => Prop) (And ((0 : Nat) + List.length (frm t (List.take (FrT.i i) l)) ≤ List.length (frm t (List.take (FrT.i i) l))) (And (List.length (frm t (List.take (FrT.i i) l)) ≤ FrT.cap i) (And (∀ y : Int, ((true : Bool) = true)) (∀ x_1 : Value, (∃ o : Value, (And (And (SV.view o (1 : Nat) (Enc.enc (encInt IntKind.u8)) (frm t l) = SV.view x_1 (1 : Nat) (Enc.enc (encInt IntKind.u8)) (List.take (List.length (frm t (List.take (FrT.i i) l))) (List.drop (0 : Nat) (frm t (List.take (FrT.i i) l))))) True) (And True ((true : Bool) = true)))))))) (And ((0 : Int) ≤ (↑(FrT.i i) : Int)) (∃ hk : Int.toNat (↑(FrT.i i) : Int) < List.length l, (And True (∀ o : Unit, (And (List.length (frm t (List.take (FrT.i i) l)) = List.length (frm t (List.take (FrT.i i) l))) (And (FrT.cap i = FrT.cap i) (And ((0 : Nat) + (8 : Nat) ≤ (8 : Nat)) (And ((List.length (frm t (List.take (FrT.i i) l)) + (8 : Nat)) * (1 : Nat) ≤ (150000000000000 : Nat)) (∀ cap2_1 : Nat, (∀ a_2 : List.length (frm t (List.take (FrT.i i) l)) + (8 : Nat) ≤ cap2_1, (And (List.length (frm t (List.take (FrT.i i) l) ++ castL (encInt IntKind.u8) (encInt IntKind.u8) (List.take (8 : Nat) (List.drop (0 : Nat) (be8 (IntKind.wrap IntKind.u64 (↑(List.length (Prod.snd (Prod.fst l[Int.toNat (↑(FrT.i i) : Int)]))) : Int)))))) = List.length (frm t (List.take (FrT.i i) l) ++ castL (encInt IntKind.u8) (encInt IntKind.u8) (List.take (8 : Nat) (List.drop (0 : Nat) (be8 (IntKind.wrap IntKind.u64 (↑(List.length (Prod.snd (Prod.fst l[Int.toNat (↑(FrT.i i) : Int)]))) : Int))))))) (And (cap2_1 = cap2_1) (∃ ys : List Int, (And (List.map (Enc.enc (encInt IntKind.u8)) ys = List.map (RK.svs._f [RK.int IntKind.u8] ⟨⟨RK.sv._f (RK.int IntKind.u8) PUnit.unit, PUnit.unit⟩, RK.svs._f [] PUnit.unit, PUnit.unit⟩) (Prod.snd (Prod.fst l[Int.toNat (↑(FrT.i i) : Int)]))) (And ((List.length (frm t (List.take (FrT.i i) l) ++ castL (encInt IntKind.u8) (encInt IntKind.u8) (List.take (8 : Nat) (List.drop (0 : Nat) (be8 (IntKind.wrap IntKind.u64 (↑(List.length (Prod.snd (Prod.fst l[Int.toNat (↑(FrT.i i) : Int)]))) : Int)))))) + List.length ys) * (1 : Nat) ≤ (150000000000000 : Nat)) (∀ cap2_2 : Nat, (∀ a_3 : List.length (frm t (List.take (FrT.i i) l) ++ castL (encInt IntKind.u8) (encInt IntKind.u8) (List.take (8 : Nat) (List.drop (0 : Nat) (be8 (IntKind.wrap IntKind.u64 (↑(List.length (Prod.snd (Prod.fst l[Int.toNat (↑(FrT.i i) : Int)]))) : Int)))))) + List.length ys ≤ cap2_2, (∃ i' : FrT t l, (And (And (List.length l - FrT.i i' < List.length l - FrT.i i) True) (And (And (And ((true : Bool) = true) (And ((0 : Nat) = (0 : Nat)) (And (List.length (frm t (List.take (FrT.i i') l)) = List.length (frm t (List.take (FrT.i i) l) ++ castL (encInt IntKind.u8) (encInt IntKind.u8) (List.take (8 : Nat) (List.drop (0 : Nat) (be8 (IntKind.wrap IntKind.u64 (↑(List.length (Prod.snd (Prod.fst l[Int.toNat (↑(FrT.i i) : Int)]))) : Int))))) ++ ys)) (FrT.cap i' = cap2_2)))) (And (SV.view x (1 : Nat) (Enc.enc BE) l = SV.view x (1 : Nat) (Enc.enc BE) l) (And ((↑(List.length l) : Int) = (↑(List.length l) : Int)) (And ((↑(FrT.i i') : Int) = IntKind.wrap IntKind.i64 ((↑(FrT.i i) : Int) + (1 : Int))) True)))) (And (And (And ((true : Bool) = true) (And (FrT.cap i' = cap2_2) (And (List.map (Enc.enc (encInt IntKind.u8)) (frm t (List.take (FrT.i i') l)) = List.map (Enc.enc (encInt IntKind.u8)) (frm t (List.take (FrT.i i) l) ++ castL (encInt IntKind.u8) (encInt IntKind.u8) (List.take (8 : Nat) (List.drop (0 : Nat) (be8 (IntKind.wrap IntKind.u64 (↑(List.length (Prod.snd (Prod.fst l[Int.toNat (↑(FrT.i i) : Int)]))) : Int))))) ++ ys)) (∀ x_1 : Int, (∀ a_4 : x_1 ∈ frm t (List.take (FrT.i i') l), (∀ s : SV, (∀ a_5 : s ∈ Enc.enc (encInt IntKind.u8) x_1, ((SV.isPure s : Bool) = true)))))))) (And ((true : Bool) = true) True)) ((true : Bool) = true)))))))))))))))))))))) (decide ((↑(FrT.i i) : Int) < (↑(List.length l) : Int))))))))))))))))) (by kernel_rfl) ?_
  have hs0 : ((sl t).take (min t.size 255)).length = min t.size 255 := by rw [List.length_take, sl_length]; omega
  simp only [tagN, Int.toNat_natCast, sl_extract, extN, wrap8n (show min t.size 255 < 256 by omega), castB, ofB, List.singleton_append, ← frm0]
  have hf0 : (frm t []).length = 1 + min t.size 255 := by rw [frm0, List.length_cons, hs0]; omega
  repeat (with_reducible refine And.intro (by first | exact trivial | omega | decide) ?_)
  intro cap2 hc2
  refine ⟨⟨0, cap2, Nat.zero_le _, by rw [List.take_zero]; omega⟩, ?_, ?_⟩
  ·
    repeat' first | exact encB_pure _ | exact trivial | refine And.intro ?_ ?_ | with_reducible refine bif_dt (by assumption) ?_ | with_reducible refine bif_df (by assumption) ?_ | with_reducible refine bif_dec (fun _ => ?_) (fun _ => ?_) | with_reducible refine bif_not ?_ | with_reducible refine bif_and ?_ | with_reducible refine bif_or ?_ | with_reducible refine bif_t (by assumption) ?_ | with_reducible refine bif_f (by assumption) ?_ | with_reducible refine bif_t (beq_self_eq_true _) ?_ | with_reducible refine bif_b (fun _ => ?_) (fun _ => ?_) | with_reducible refine ⟨_, Eq.refl (List.map _ _), ?_⟩ | (with_reducible refine Exists.intro (by omega) ?_) | rfl | (intro h0; omega) | omega
  rintro ⟨i, cap1, hi, hc⟩ -
  dsimp only
  have hm := frm_mono t l i
  refine bif_dec (fun h1 => ?_) (fun h1 => ?_)
  · have hi' : i < l.length := by omega
    have h8 := fB_len (l.take i)
    rw [List.length_take, Nat.min_eq_left hi] at h8
    have h9 := flat_mono fB l i
    have hbl := bl_length l[i]
    have hst := frm_step t l hi'
    have hm2 := frm_mono t l (i + 1)
    have hl2 : (frm t (l.take (i + 1))).length = (frm t (l.take i)).length + 8 + (bl l[i]).length := by rw [← hst, List.length_append]; unfold fB; rw [blb_length]; omega
    have hw : IntKind.u64.wrap (l[i].1.2.length : Int) = ((bl l[i]).length : Int) := by rw [hbl, wrapU64]; omega
    have ha : frm t (l.take i) ++ be8 ((bl l[i]).length : Int) ++ bl l[i] = frm t (l.take (i + 1)) := by rw [← hst, List.append_assoc]; rfl
    simp only [t8, castB, inext (show i < 9223372036854775807 by omega), hw]
    refine ⟨by omega, hi', trivial, fun _ => ?_⟩
    repeat (with_reducible refine And.intro (by first | exact trivial | omega | decide) ?_)
    intro cap3 hc3
    repeat (with_reducible refine And.intro (by first | exact trivial | omega | decide) ?_)
    refine ⟨bl l[i], bl_enc _, ?_, ?_⟩
    · rw [List.length_append, be8_length]; omega
    rw [ha, List.length_append, be8_length]
    intro cap4 hc4
    refine ⟨⟨i + 1, cap4, hi', by omega⟩, ⟨show l.length - (i + 1) < l.length - i by omega, trivial⟩, ?_⟩
    repeat' first | exact encB_pure _ | exact trivial | refine And.intro ?_ ?_ | with_reducible refine bif_dt (by assumption) ?_ | with_reducible refine bif_df (by assumption) ?_ | with_reducible refine bif_dec (fun _ => ?_) (fun _ => ?_) | with_reducible refine bif_not ?_ | with_reducible refine bif_and ?_ | with_reducible refine bif_or ?_ | with_reducible refine bif_t (by assumption) ?_ | with_reducible refine bif_f (by assumption) ?_ | with_reducible refine bif_t (beq_self_eq_true _) ?_ | with_reducible refine bif_b (fun _ => ?_) (fun _ => ?_) | with_reducible refine ⟨_, Eq.refl (List.map _ _), ?_⟩ | (with_reducible refine Exists.intro (by omega) ?_) | rfl | (intro h0; omega) | omega
  · have hil : i = l.length := by omega
    subst hil
    simp only [List.take_length, List.drop_zero, Nat.zero_add] at hc ⊢
    repeat (with_reducible refine And.intro (by first | exact trivial | omega | decide | exact fun _ => rfl | exact fun _ => trivial) ?_)
    intro y
    refine ⟨y, ?_⟩
    repeat' first | exact trivial | refine And.intro ?_ ?_ | with_reducible refine bif_dt (by assumption) ?_ | with_reducible refine bif_df (by assumption) ?_ | with_reducible refine bif_dec (fun _ => ?_) (fun _ => ?_) | with_reducible refine bif_not ?_ | with_reducible refine bif_and ?_ | with_reducible refine bif_or ?_ | with_reducible refine bif_t (by assumption) ?_ | with_reducible refine bif_f (by assumption) ?_ | with_reducible refine bif_t (beq_self_eq_true _) ?_ | with_reducible refine bif_b (fun _ => ?_) (fun _ => ?_) | with_reducible refine ⟨_, Eq.refl (List.map _ _), ?_⟩ | (with_reducible refine Exists.intro (by omega) ?_) | rfl | (intro h0; omega) | omega
def frameT : MT := fun ms n h K => match ms with
  | [.one (.v (.string t)), .one (.view vx0 ve0 en0 vl0)] => bif Nat.beq ve0 1 && noDup [] then ∃ l : List (BTy), vl0.map en0 = l.map eBl ∧ (((l.flatMap fB).length ≤ 140000000000000 ∧ t.size ≤ 140737488351232)) ∧ (∀ y : Value, K (n + 0) (byV y (frm t l)) ([] ++ delL [] h)) else False
  | _ => False
theorem frame_mono : MMono frameT := by
  intro ms n h K K' hkk hk
  unfold frameT at hk ⊢
  split at hk
  · rename_i t vx0 ve0 va0 en0 vl0
    obtain ⟨hb, y0, z0, h1, h2⟩ := cond_false_elim hk
    rw [hb]
    exact ⟨y0, z0, h1, fun o => hkk _ _ _ (h2 o)⟩
  · exact hk.elim
theorem frame_ok : MOK Tryd.prog 21 frameT := by
  refine ⟨?_, frame_mono⟩
  intro ms n hB K hk
  unfold frameT at hk
  split at hk
  · rename_i t vx0 ve0 va0 en0 vl0
    obtain ⟨hb, l, he0, h, hk2⟩ := cond_false_elim hk
    clear hk
    simp only [Bool.and_eq_true] at hb
    obtain ⟨hc0, hnd⟩ := hb
    have hs0 := Nat.eq_of_beq_eq_true hc0
    subst hs0
    refine SCall.seen ?_ (.cons (.refl _) (.cons (.view he0) .nil))
    exact (frame_spec _ t h.1 h.2).use (fun _ => 0) rfl rfl trivial hnd (fun j hj => absurd hj (Nat.not_lt_zero j)) (fun o => hk2 o)
  · exact hk.elim

end Go.Proofs.YtblapbjafbmndaaDoor
