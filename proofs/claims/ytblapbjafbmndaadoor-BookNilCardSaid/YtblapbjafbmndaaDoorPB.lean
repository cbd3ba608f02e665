/- Frames, by the program and by the document. -/
import Derived.Test.YtblapbjafbmndaaDoorPA
import Derived.Test.YtblapbjafbmndaaDoorDD
import Derived.Test.YtblapbjafbmndaaDoorSx24
namespace Go.Proofs.YtblapbjafbmndaaDoor
open Go Go.Sx Go.Sha
set_option linter.unusedVariables false
set_option linter.unusedSimpArgs false
set_option maxRecDepth 100000
set_option maxHeartbeats 4000000

abbrev BE : Enc (RK.TL [.sl 1 [.int .u8]]) := encRec [.sl 1 [.int .u8]]
abbrev BTy : Type := RK.TL [.sl 1 [.int .u8]]
abbrev eBl : BTy → List SV := BE.enc
abbrev bV (x : Value) (l : List BTy) : M := .one (.view x 1 BE.enc l)
/-- The bytes of a row's place. -/
def b1 (p : RK.TL [.int .u8]) : Int := Prod.fst (α := Int) (β := Unit) p
def bsl (y : BTy) : List (RK.TL [.int .u8]) := y.1.2
def bl (y : BTy) : List Int := (bsl y).map b1
def fB (y : BTy) : List Int := blb (bl y)
def mkI (y : Int) : RK.TL [.int .u8] := (Prod.mk (α := Int) (β := Unit) y ())
def mkL (l : List Int) : List (RK.TL [.int .u8]) := l.map mkI
def mkB (x : Value) (l : List Int) : BTy := ((x, mkL l), ())
theorem b1_mk : b1 ∘ mkI = id := rfl
theorem svs_mk : RK.svs [.int .u8] ∘ mkI = (encInt .u8).enc := rfl
theorem bl_mk (x : Value) (l : List Int) : bl (mkB x l) = l := by
  have : bl (mkB x l) = List.map b1 (List.map mkI l) := rfl
  rw [this, List.map_map, b1_mk]
  exact List.map_id l
theorem encmk (l : List Int) : List.map (encInt .u8).enc l = List.map (RK.svs [.int .u8]) (mkL l) := by
  unfold mkL
  rw [List.map_map, svs_mk]
theorem bl_length (y : BTy) : (bl y).length = y.1.2.length := by
  unfold bl
  exact List.length_map _
theorem enc_b1 : (encInt .u8).enc ∘ b1 = RK.svs [.int .u8] := rfl
theorem bl_enc (y : BTy) : List.map (encInt .u8).enc (bl y) = List.map (RK.svs [.int .u8]) (bsl y) := by
  unfold bl
  rw [List.map_map, enc_b1]
theorem fB_flat (l : List BTy) : l.flatMap fB = (l.map bl).flatMap blb := by
  rw [List.flatMap_map]
  rfl
theorem fB_len : ∀ l : List BTy, 8 * l.length ≤ (l.flatMap fB).length
  | [] => Nat.zero_le _
  | y :: r => by
    have := fB_len r
    rw [List.flatMap_cons, List.length_append, List.length_cons]
    have : 8 ≤ (fB y).length := by unfold fB; rw [blb_length]; omega
    omega

/-- Frames of texts and rows. -/
def frm (t : ByteArray) (l : List BTy) : List Int := frameF (sl t) (l.map bl)
structure FrT (t : ByteArray) (l : List BTy) where
  i : Nat
  cap : Nat
  hi : i ≤ l.length
  hc : (frm t (l.take i)).length ≤ cap
theorem frm_step (t : ByteArray) (l : List BTy) {i : Nat} (h : i < l.length) : frm t (l.take i) ++ fB l[i] = frm t (l.take (i + 1)) := by
  unfold frm frameF
  rw [← fB_flat, ← fB_flat, ← flat_take fB l h]
  simp only [List.cons_append, List.append_assoc]
theorem frm_mono (t : ByteArray) (l : List BTy) (i : Nat) : (frm t (l.take i)).length ≤ 256 + (l.flatMap fB).length := by
  unfold frm
  rw [frameF_length, ← fB_flat]
  have := flat_mono fB l i
  omega
theorem inext {i : Nat} (h : i < 9223372036854775807) : IntKind.i64.wrap ((i : Int) + 1) = ((i + 1 : Nat) : Int) := by rw [wrap64 (by omega) (by omega)]; omega
theorem t8' (x : Int) : List.take 8 (be8 x) = be8 x := rfl
theorem t8 (x : Int) : List.take 8 (List.drop 0 (be8 x)) = be8 x := rfl
/-- The start of a frame. -/
theorem frm0 (t : ByteArray) : frm t [] = ((min t.size 255 : Nat) : Int) :: (sl t).take (min t.size 255) := by
  unfold frm frameF
  rw [List.map_nil, List.flatMap_nil, List.append_nil, sl_length]
  congr 1
  rw [List.take_eq_take_iff, sl_length]
  omega
theorem tagN (t : ByteArray) : (if (255 : Int) < (t.size : Int) then 255 else (t.size : Int)) = ((min t.size 255 : Nat) : Int) := by
  split <;> omega
theorem extN (t : ByteArray) : (t.extract 0 (min t.size 255)).size = min t.size 255 := by
  rw [← sl_length, sl_extract, List.length_take, sl_length]
  omega
theorem wrap8n {n : Nat} (h : n < 256) : IntKind.u8.wrap (n : Int) = (n : Int) := by rw [wrap_u8]; omega

theorem frame_spec (x : Value) (t : ByteArray) {l : List BTy} (h : (l.flatMap fB).length ≤ 140000000000000) (ht : t.size ≤ 140737488351232) :
    SMem Tryd.prog 21 [str t, bV x l] 0 [] (fun y : Value => ⟨0, byV y (frm t l), []⟩) := by
  refine SMem.inf 1 EB [] SOK.nil [(63, eightT)] (MSOK.cons eight_ok MSOK.nil) tok mixed [] IOK.nil false [(4, ⟨FrT t l, fun p => ⟨1, [(5, .one (.slc 0 1 0 (frm t (l.take p.i)).length p.cap)), (19, bV x l), (20, int l.length), (21, int p.i)], [(0, .row 1 (encInt .u8) (frm t (l.take p.i)) p.cap)]⟩, fun p => l.length - p.i, fun _ _ => True⟩)] [] Tryd.call21 Tryd.func21 rfl (by rfl) ?_
  refine Eq.mp (α := (And ((0 : Int) ≤ if (255 : Int) < (↑(ByteArray.size t) : Int) then (255 : Int) else (↑(ByteArray.size t) : Int)) (And ((0 : Nat) ≤ Int.toNat (if (255 : Int) < (↑(ByteArray.size t) : Int) then (255 : Int) else (↑(ByteArray.size t) : Int))) (And (Int.toNat (if (255 : Int) < (↑(ByteArray.size t) : Int) then (255 : Int) else (↑(ByteArray.size t) : Int)) ≤ ByteArray.size t) (And ((1 : Nat) = (1 : Nat)) (And ((1 : Nat) = (1 : Nat)) (And (((1 : Nat) + List.length (castL (encInt IntKind.u8) (encInt IntKind.u8) (sl (ByteArray.extract t (0 : Nat) (Int.toNat (if (255 : Int) < (↑(ByteArray.size t) : Int) then (255 : Int) else (↑(ByteArray.size t) : Int))))))) * (1 : Nat) ≤ (150000000000000 : Nat)) (∀ cap2 : Nat, (∀ a : (1 : Nat) + List.length (castL (encInt IntKind.u8) (encInt IntKind.u8) (sl (ByteArray.extract t (0 : Nat) (Int.toNat (if (255 : Int) < (↑(ByteArray.size t) : Int) then (255 : Int) else (↑(ByteArray.size t) : Int)))))) ≤ cap2, (∃ i0 : FrT t l, (And (And True (And (And (And ((true : Bool) = true) (And ((0 : Nat) = (0 : Nat)) (And (List.length (frm t (List.take (FrT.i i0) l)) = List.length ([Enc.of (encInt IntKind.u8) (IntKind.wrap IntKind.u8 (↑(ByteArray.size (ByteArray.extract t (0 : Nat) (Int.toNat (if (255 : Int) < (↑(ByteArray.size t) : Int) then (255 : Int) else (↑(ByteArray.size t) : Int))))) : Int), ())] ++ castL (encInt IntKind.u8) (encInt IntKind.u8) (sl (ByteArray.extract t (0 : Nat) (Int.toNat (if (255 : Int) < (↑(ByteArray.size t) : Int) then (255 : Int) else (↑(ByteArray.size t) : Int))))))) (FrT.cap i0 = cap2)))) (And (SV.view x (1 : Nat) (Enc.enc BE) l = SV.view x (1 : Nat) (Enc.enc BE) l) (And ((↑(List.length l) : Int) = (↑(List.length l) : Int)) (And ((↑(FrT.i i0) : Int) = (0 : Int)) True)))) (And (And (And ((true : Bool) = true) (And (FrT.cap i0 = cap2) (And (List.map (Enc.enc (encInt IntKind.u8)) (frm t (List.take (FrT.i i0) l)) = List.map (Enc.enc (encInt IntKind.u8)) ([Enc.of (encInt IntKind.u8) (IntKind.wrap IntKind.u8 (↑(ByteArray.size (ByteArray.extract t (0 : Nat) (Int.toNat (if (255 : Int) < (↑(ByteArray.size t) : Int) then (255 : Int) else (↑(ByteArray.size t) : Int))))) : Int), ())] ++ castL (encInt IntKind.u8) (encInt IntKind.u8) (sl (ByteArray.extract t (0 : Nat) (Int.toNat (if (255 : Int) < (↑(ByteArray.size t) : Int) then (255 : Int) else (↑(ByteArray.size t) : Int))))))) (∀ x_1 : Int, (∀ a_1 : x_1 ∈ frm t (List.take (FrT.i i0) l), (∀ s : SV, (∀ a_2 : s ∈ Enc.enc (encInt IntKind.u8) x_1, ((SV.isPure s : Bool) = true)))))))) (And ((true : Bool) = true) True)) ((true : Bool) = true)))) (∀ i : FrT t l, (∀ a_1 : True, (@Bool.rec (fun _ => Prop) (And ((0 : Nat) + List.length (frm t (List.take (FrT.i i) l)) ≤ List.length (frm t (List.take (FrT.i i) l))) (And (List.length (frm t (List.take (FrT.i i) l)) ≤ FrT.cap i) (And (∀ y : Int, ((true : Bool) = true)) (∀ x_1 : Value, (∃ o : Value, (And (And (SV.view o (1 : Nat) (Enc.enc (encInt IntKind.u8)) (frm t l) = SV.view x_1 (1 : Nat) (Enc.enc (encInt IntKind.u8)) (List.take (List.length (frm t (List.take (FrT.i i) l))) (List.drop (0 : Nat) (frm t (List.take (FrT.i i) l))))) True) (And True ((true : Bool) = true)))))))) (And ((0 : Int) ≤ (↑(FrT.i i) : Int)) (∃ hk : Int.toNat (↑(FrT.i i) : Int) < List.length l, (And True (∀ o : Unit, (And (List.length (frm t (List.take (FrT.i i) l)) = List.length (frm t (List.take (FrT.i i) l))) (And (FrT.cap i = FrT.cap i) (And ((0 : Nat) + (8 : Nat) ≤ (8 : Nat)) (And ((List.length (frm t (List.take (FrT.i i) l)) + (8 : Nat)) * (1 : Nat) ≤ (150000000000000 : Nat)) (∀ cap2_1 : Nat, (∀ a_2 : List.length (frm t (List.take (FrT.i i) l)) + (8 : Nat) ≤ cap2_1, (And (List.length (frm t (List.take (FrT.i i) l) ++ castL (encInt IntKind.u8) (encInt IntKind.u8) (List.take (8 : Nat) (List.drop (0 : Nat) (be8 (IntKind.wrap IntKind.u64 (↑(List.length (Prod.snd (Prod.fst l[Int.toNat (↑(FrT.i i) : Int)]))) : Int)))))) = List.length (frm t (List.take (FrT.i i) l) ++ castL (encInt IntKind.u8) (encInt IntKind.u8) (List.take (8 : Nat) (List.drop (0 : Nat) (be8 (IntKind.wrap IntKind.u64 (↑(List.length (Prod.snd (Prod.fst l[Int.toNat (↑(FrT.i i) : Int)]))) : Int))))))) (And (cap2_1 = cap2_1) (∃ ys : List Int, (And (List.map (Enc.enc (encInt IntKind.u8)) ys = List.map (RK.svs._f [RK.int IntKind.u8] ⟨⟨RK.sv._f (RK.int IntKind.u8) PUnit.unit, PUnit.unit⟩, RK.svs._f [] PUnit.unit, PUnit.unit⟩) (Prod.snd (Prod.fst l[Int.toNat (↑(FrT.i i) : Int)]))) (And ((List.length (frm t (List.take (FrT.i i) l) ++ castL (encInt IntKind.u8) (encInt IntKind.u8) (List.take (8 : Nat) (List.drop (0 : Nat) (be8 (IntKind.wrap IntKind.u64 (↑(List.length (Prod.snd (Prod.fst l[Int.toNat (↑(FrT.i i) : Int)]))) : Int)))))) + List.length ys) * (1 : Nat) ≤ (150000000000000 : Nat)) (∀ cap2_2 : Nat, (∀ a_3 : List.length (frm t (List.take (FrT.i i) l) ++ castL (encInt IntKind.u8) (encInt IntKind.u8) (List.take (8 : Nat) (List.drop (0 : Nat) (be8 (IntKind.wrap IntKind.u64 (↑(List.length (Prod.snd (Prod.fst l[Int.toNat (↑(FrT.i i) : Int)]))) : Int)))))) + List.length ys ≤ cap2_2, (∃ i' : FrT t l, (And (And (List.length l - FrT.i i' < List.length l - FrT.i i) True) (And (And (And ((true : Bool) = true) (And ((0 : Nat) = (0 : Nat)) (And (List.length (frm t (List.take (FrT.i i') l)) = List.length (frm t (List.take (FrT.i i) l) ++ castL (encInt IntKind.u8) (encInt IntKind.u8) (List.take (8 : Nat) (List.drop (0 : Nat) (be8 (IntKind.wrap IntKind.u64 (↑(List.length (Prod.snd (Prod.fst l[Int.toNat (↑(FrT.i i) : Int)]))) : Int))))) ++ ys)) (FrT.cap i' = cap2_2)))) (And (SV.view x (1 : Nat) (Enc.enc BE) l = SV.view x (1 : Nat) (Enc.enc BE) l) (And ((↑(List.length l) : Int) = (↑(List.length l) : Int)) (And ((↑(FrT.i i') : Int) = IntKind.wrap IntKind.i64 ((↑(FrT.i i) : Int) + (1 : Int))) True)))) (And (And (And ((true : Bool) = true) (And (FrT.cap i' = cap2_2) (And (List.map (Enc.enc (encInt IntKind.u8)) (frm t (List.take (FrT.i i') l)) = List.map (Enc.enc (encInt IntKind.u8)) (frm t (List.take (FrT.i i) l) ++ castL (encInt IntKind.u8) (encInt IntKind.u8) (List.take (8 : Nat) (List.drop (0 : Nat) (be8 (IntKind.wrap IntKind.u64 (↑(List.length (Prod.snd (Prod.fst l[Int.toNat (↑(FrT.i i) : Int)]))) : Int))))) ++ ys)) (∀ x_1 : Int, (∀ a_4 : x_1 ∈ frm t (List.take (FrT.i i') l), (∀ s : SV, (∀ a_5 : s ∈ Enc.enc (encInt IntKind.u8) x_1, ((SV.isPure s : Bool) = true)))))))) (And ((true : Bool) = true) True)) ((true : Bool) = true)))))))))))))))))))))) (decide ((↑(FrT.i i) : Int) < (↑(List.length l) : Int))))))))))))))))) (by kernel_rfl) ?_
  have hs0 : ((sl t).take (min t.size 255)).length = min t.size 255 := by rw [List.length_take, sl_length]; omega
  simp only [tagN, Int.toNat_natCast, sl_extract, extN, wrap8n (show min t.size 255 < 256 by omega), castB, ofB, List.singleton_append, ← frm0]
  have hf0 : (frm t []).length = 1 + min t.size 255 := by rw [frm0, List.length_cons, hs0]; omega
  repeat (with_reducible refine And.intro (by first | exact trivial | omega | decide) ?_)
  intro cap2 hc2
  refine ⟨⟨0, cap2, Nat.zero_le _, by rw [List.take_zero]; omega⟩, ?_, ?_⟩
  ·
    repeat' first | exact encB_pure _ | exact trivial | refine And.intro ?_ ?_ | with_reducible refine bif_dt (by assumption) ?_ | with_reducible refine bif_df (by assumption) ?_ | with_reducible refine bif_dec (fun _ => ?_) (fun _ => ?_) | with_reducible refine bif_not ?_ | with_reducible refine bif_and ?_ | with_reducible refine bif_or ?_ | with_reducible refine bif_t (by assumption) ?_ | with_reducible refine bif_f (by assumption) ?_ | with_reducible refine bif_t (beq_self_eq_true _) ?_ | with_reducible refine bif_b (fun _ => ?_) (fun _ => ?_) | with_reducible refine ⟨_, Eq.refl (List.map _ _), ?_⟩ | (with_reducible refine Exists.intro (by omega) ?_) | rfl | (intro h0; omega) | omega
  rintro ⟨i, cap1, hi, hc⟩ -
  dsimp only
  have hm := frm_mono t l i
  refine bif_dec (fun h1 => ?_) (fun h1 => ?_)
  · have hi' : i < l.length := by omega
    have h8 := fB_len (l.take i)
    rw [List.length_take, Nat.min_eq_left hi] at h8
    have h9 := flat_mono fB l i
    have hbl := bl_length l[i]
    have hst := frm_step t l hi'
    have hm2 := frm_mono t l (i + 1)
    have hl2 : (frm t (l.take (i + 1))).length = (frm t (l.take i)).length + 8 + (bl l[i]).length := by rw [← hst, List.length_append]; unfold fB; rw [blb_length]; omega
    have hw : IntKind.u64.wrap (l[i].1.2.length : Int) = ((bl l[i]).length : Int) := by rw [hbl, wrapU64]; omega
    have ha : frm t (l.take i) ++ be8 ((bl l[i]).length : Int) ++ bl l[i] = frm t (l.take (i + 1)) := by rw [← hst, List.append_assoc]; rfl
    simp only [t8, castB, inext (show i < 9223372036854775807 by omega), hw]
    refine ⟨by omega, hi', trivial, fun _ => ?_⟩
    repeat (with_reducible refine And.intro (by first | exact trivial | omega | decide) ?_)
    intro cap3 hc3
    repeat (with_reducible refine And.intro (by first | exact trivial | omega | decide) ?_)
    refine ⟨bl l[i], bl_enc _, ?_, ?_⟩
    · rw [List.length_append, be8_length]; omega
    rw [ha, List.length_append, be8_length]
    intro cap4 hc4
    refine ⟨⟨i + 1, cap4, hi', by omega⟩, ⟨show l.length - (i + 1) < l.length - i by omega, trivial⟩, ?_⟩
    repeat' first | exact encB_pure _ | exact trivial | refine And.intro ?_ ?_ | with_reducible refine bif_dt (by assumption) ?_ | with_reducible refine bif_df (by assumption) ?_ | with_reducible refine bif_dec (fun _ => ?_) (fun _ => ?_) | with_reducible refine bif_not ?_ | with_reducible refine bif_and ?_ | with_reducible refine bif_or ?_ | with_reducible refine bif_t (by assumption) ?_ | with_reducible refine bif_f (by assumption) ?_ | with_reducible refine bif_t (beq_self_eq_true _) ?_ | with_reducible refine bif_b (fun _ => ?_) (fun _ => ?_) | with_reducible refine ⟨_, Eq.refl (List.map _ _), ?_⟩ | (with_reducible refine Exists.intro (by omega) ?_) | rfl | (intro h0; omega) | omega
  · have hil : i = l.length := by omega
    subst hil
    simp only [List.take_length, List.drop_zero, Nat.zero_add] at hc ⊢
    repeat (with_reducible refine And.intro (by first | exact trivial | omega | decide | exact fun _ => rfl | exact fun _ => trivial) ?_)
    intro y
    refine ⟨y, ?_⟩
    repeat' first | exact trivial | refine And.intro ?_ ?_ | with_reducible refine bif_dt (by assumption) ?_ | with_reducible refine bif_df (by assumption) ?_ | with_reducible refine bif_dec (fun _ => ?_) (fun _ => ?_) | with_reducible refine bif_not ?_ | with_reducible refine bif_and ?_ | with_reducible refine bif_or ?_ | with_reducible refine bif_t (by assumption) ?_ | with_reducible refine bif_f (by assumption) ?_ | with_reducible refine bif_t (beq_self_eq_true _) ?_ | with_reducible refine bif_b (fun _ => ?_) (fun _ => ?_) | with_reducible refine ⟨_, Eq.refl (List.map _ _), ?_⟩ | (with_reducible refine Exists.intro (by omega) ?_) | rfl | (intro h0; omega) | omega
def frameT : MT := fun ms n h K => match ms with
  | [.one (.v (.string t)), .one (.view vx0 ve0 en0 vl0)] => bif Nat.beq ve0 1 && noDup [] then ∃ l : List (BTy), vl0.map en0 = l.map eBl ∧ (((l.flatMap fB).length ≤ 140000000000000 ∧ t.size ≤ 140737488351232)) ∧ (∀ y : Value, K (n + 0) (byV y (frm t l)) ([] ++ delL [] h)) else False
  | _ => False
theorem frame_mono : MMono frameT := by
  intro ms n h K K' hkk hk
  unfold frameT at hk ⊢
  split at hk
  · rename_i t vx0 ve0 va0 en0 vl0
    obtain ⟨hb, y0, z0, h1, h2⟩ := cond_false_elim hk
    rw [hb]
    exact ⟨y0, z0, h1, fun o => hkk _ _ _ (h2 o)⟩
  · exact hk.elim
theorem frame_ok : MOK Tryd.prog 21 frameT := by
  refine ⟨?_, frame_mono⟩
  intro ms n hB K hk
  unfold frameT at hk
  split at hk
  · rename_i t vx0 ve0 va0 en0 vl0
    obtain ⟨hb, l, he0, h, hk2⟩ := cond_false_elim hk
    clear hk
    simp only [Bool.and_eq_true] at hb
    obtain ⟨hc0, hnd⟩ := hb
    have hs0 := Nat.eq_of_beq_eq_true hc0
    subst hs0
    refine SCall.seen ?_ (.cons (.refl _) (.cons (.view he0) .nil))
    exact (frame_spec _ t h.1 h.2).use (fun _ => 0) rfl rfl trivial hnd (fun j hj => absurd hj (Nat.not_lt_zero j)) (fun o => hk2 o)
  · exact hk.elim

theorem rframe_spec (x : Value) (t : ByteArray) {l : List BTy} (h : (l.flatMap fB).length ≤ 140000000000000) (ht : t.size ≤ 140737488351232) :
    SMem Tryd.prog 23 [str t, bV x l] 0 [] (fun y : Value => ⟨0, byV y (frm t l), []⟩) := by
  refine SMem.inf 1 EB [] SOK.nil [(67, reightT)] (MSOK.cons reight_ok MSOK.nil) tok mixed [] IOK.nil false [(6, ⟨FrT t l, fun p => ⟨1, [(1, bV x l), (5, .one (.slc 0 1 0 (frm t (l.take p.i)).length p.cap)), (6, int p.i)], [(0, .row 1 (encInt .u8) (frm t (l.take p.i)) p.cap)]⟩, fun p => l.length - p.i, fun _ _ => True⟩)] [] Tryd.call23 Tryd.func23 rfl (by rfl) ?_
  refine Eq.mp (α := (@Bool.rec (fun _ => Prop) (And ((0 : Int) ≤ (0 : Int)) (And ((0 : Int) ≤ (160 : Int)) (And (Int.toNat (0 : Int) ≤ Int.toNat (160 : Int)) (And ((1 : Nat) * Int.toNat (160 : Int) ≤ (281474976710656 : Nat)) (And (Int.toNat (160 : Int) ≤ (9223372036854775807 : Nat)) (And (Int.toNat (0 : Int) = (0 : Nat)) (And (Int.toNat (160 : Int) = Int.toNat (160 : Int)) (And ((0 : Nat) + (1 : Nat) ≤ (1 : Nat)) (And (((0 : Nat) + (1 : Nat)) * (1 : Nat) ≤ (150000000000000 : Nat)) (∀ cap2 : Nat, (∀ a : (0 : Nat) + (1 : Nat) ≤ cap2, (And ((1 : Nat) = (1 : Nat)) (And (cap2 = cap2) (And (((1 : Nat) + List.length (castL (encInt IntKind.u8) (encInt IntKind.u8) (sl t))) * (1 : Nat) ≤ (150000000000000 : Nat)) (∀ cap2_1 : Nat, (∀ a_1 : (1 : Nat) + List.length (castL (encInt IntKind.u8) (encInt IntKind.u8) (sl t)) ≤ cap2_1, (∃ i0 : FrT t l, (And (And True (And (And (SV.view x (1 : Nat) (Enc.enc BE) l = SV.view x (1 : Nat) (Enc.enc BE) l) (And (And ((true : Bool) = true) (And ((0 : Nat) = (0 : Nat)) (And (List.length (frm t (List.take (FrT.i i0) l)) = List.length (List.replicate (Int.toNat (0 : Int)) (Enc.of (encInt IntKind.u8) ((0 : Int), ())) ++ castL (encInt IntKind.u8) (encInt IntKind.u8) (List.take (1 : Nat) (List.drop (0 : Nat) [Enc.of (encInt IntKind.u8) (IntKind.wrap IntKind.u8 (↑(ByteArray.size t) : Int), ())])) ++ castL (encInt IntKind.u8) (encInt IntKind.u8) (sl t))) (FrT.cap i0 = cap2_1)))) (And ((↑(FrT.i i0) : Int) = (0 : Int)) True))) (And (And (And ((true : Bool) = true) (And (FrT.cap i0 = cap2_1) (And (List.map (Enc.enc (encInt IntKind.u8)) (frm t (List.take (FrT.i i0) l)) = List.map (Enc.enc (encInt IntKind.u8)) (List.replicate (Int.toNat (0 : Int)) (Enc.of (encInt IntKind.u8) ((0 : Int), ())) ++ castL (encInt IntKind.u8) (encInt IntKind.u8) (List.take (1 : Nat) (List.drop (0 : Nat) [Enc.of (encInt IntKind.u8) (IntKind.wrap IntKind.u8 (↑(ByteArray.size t) : Int), ())])) ++ castL (encInt IntKind.u8) (encInt IntKind.u8) (sl t))) (∀ x_1 : Int, (∀ a_2 : x_1 ∈ frm t (List.take (FrT.i i0) l), (∀ s : SV, (∀ a_3 : s ∈ Enc.enc (encInt IntKind.u8) x_1, ((SV.isPure s : Bool) = true)))))))) (And ((true : Bool) = true) True)) ((true : Bool) = true)))) (∀ i : FrT t l, (∀ a_2 : True, (@Bool.rec (fun _ => Prop) (And ((0 : Nat) + List.length (frm t (List.take (FrT.i i) l)) ≤ List.length (frm t (List.take (FrT.i i) l))) (And (List.length (frm t (List.take (FrT.i i) l)) ≤ FrT.cap i) (And (∀ y : Int, ((true : Bool) = true)) (∀ x_1 : Value, (∃ o : Value, (And (And (SV.view o (1 : Nat) (Enc.enc (encInt IntKind.u8)) (frm t l) = SV.view x_1 (1 : Nat) (Enc.enc (encInt IntKind.u8)) (List.take (List.length (frm t (List.take (FrT.i i) l))) (List.drop (0 : Nat) (frm t (List.take (FrT.i i) l))))) True) (And True ((true : Bool) = true)))))))) (And ((0 : Int) ≤ (↑(FrT.i i) : Int)) (∃ hk : Int.toNat (↑(FrT.i i) : Int) < List.length l, (And ((0 : Int) ≤ (↑(FrT.i i) : Int)) (∃ hk_1 : Int.toNat (↑(FrT.i i) : Int) < List.length l, (And (And True (∀ o : Unit, (And (And (List.length (frm t (List.take (FrT.i i) l)) = List.length (frm t (List.take (FrT.i i) l))) (And (FrT.cap i = FrT.cap i) (And ((0 : Nat) + (8 : Nat) ≤ (8 : Nat)) (And ((List.length (frm t (List.take (FrT.i i) l)) + (8 : Nat)) * (1 : Nat) ≤ (150000000000000 : Nat)) (∀ cap2_2 : Nat, (∀ a_3 : List.length (frm t (List.take (FrT.i i) l)) + (8 : Nat) ≤ cap2_2, (And (And (List.length (frm t (List.take (FrT.i i) l) ++ castL (encInt IntKind.u8) (encInt IntKind.u8) (List.take (8 : Nat) (List.drop (0 : Nat) (be8 (IntKind.wrap IntKind.u64 (↑(List.length (Prod.snd (Prod.fst l[Int.toNat (↑(FrT.i i) : Int)]))) : Int)))))) = List.length (frm t (List.take (FrT.i i) l) ++ castL (encInt IntKind.u8) (encInt IntKind.u8) (List.take (8 : Nat) (List.drop (0 : Nat) (be8 (IntKind.wrap IntKind.u64 (↑(List.length (Prod.snd (Prod.fst l[Int.toNat (↑(FrT.i i) : Int)]))) : Int))))))) (And (cap2_2 = cap2_2) (∃ ys : List Int, (And (List.map (Enc.enc (encInt IntKind.u8)) ys = List.map (RK.svs._f [RK.int IntKind.u8] ⟨⟨RK.sv._f (RK.int IntKind.u8) PUnit.unit, PUnit.unit⟩, RK.svs._f [] PUnit.unit, PUnit.unit⟩) (Prod.snd (Prod.fst l[Int.toNat (↑(FrT.i i) : Int)]))) (And ((List.length (frm t (List.take (FrT.i i) l) ++ castL (encInt IntKind.u8) (encInt IntKind.u8) (List.take (8 : Nat) (List.drop (0 : Nat) (be8 (IntKind.wrap IntKind.u64 (↑(List.length (Prod.snd (Prod.fst l[Int.toNat (↑(FrT.i i) : Int)]))) : Int)))))) + List.length ys) * (1 : Nat) ≤ (150000000000000 : Nat)) (∀ cap2_3 : Nat, (∀ a_4 : List.length (frm t (List.take (FrT.i i) l) ++ castL (encInt IntKind.u8) (encInt IntKind.u8) (List.take (8 : Nat) (List.drop (0 : Nat) (be8 (IntKind.wrap IntKind.u64 (↑(List.length (Prod.snd (Prod.fst l[Int.toNat (↑(FrT.i i) : Int)]))) : Int)))))) + List.length ys ≤ cap2_3, (∃ i' : FrT t l, (And (And (List.length l - FrT.i i' < List.length l - FrT.i i) True) (And (And (SV.view x (1 : Nat) (Enc.enc BE) l = SV.view x (1 : Nat) (Enc.enc BE) l) (And (And ((true : Bool) = true) (And ((0 : Nat) = (0 : Nat)) (And (List.length (frm t (List.take (FrT.i i') l)) = List.length (frm t (List.take (FrT.i i) l) ++ castL (encInt IntKind.u8) (encInt IntKind.u8) (List.take (8 : Nat) (List.drop (0 : Nat) (be8 (IntKind.wrap IntKind.u64 (↑(List.length (Prod.snd (Prod.fst l[Int.toNat (↑(FrT.i i) : Int)]))) : Int))))) ++ ys)) (FrT.cap i' = cap2_3)))) (And ((↑(FrT.i i') : Int) = IntKind.wrap IntKind.i64 ((↑(FrT.i i) : Int) + (1 : Int))) True))) (And (And (And ((true : Bool) = true) (And (FrT.cap i' = cap2_3) (And (List.map (Enc.enc (encInt IntKind.u8)) (frm t (List.take (FrT.i i') l)) = List.map (Enc.enc (encInt IntKind.u8)) (frm t (List.take (FrT.i i) l) ++ castL (encInt IntKind.u8) (encInt IntKind.u8) (List.take (8 : Nat) (List.drop (0 : Nat) (be8 (IntKind.wrap IntKind.u64 (↑(List.length (Prod.snd (Prod.fst l[Int.toNat (↑(FrT.i i) : Int)]))) : Int))))) ++ ys)) (∀ x_1 : Int, (∀ a_5 : x_1 ∈ frm t (List.take (FrT.i i') l), (∀ s : SV, (∀ a_6 : s ∈ Enc.enc (encInt IntKind.u8) x_1, ((SV.isPure s : Bool) = true)))))))) (And ((true : Bool) = true) True)) ((true : Bool) = true)))))))))))) True))))))) True))) True))))) (decide ((↑(FrT.i i) : Int) < (↑(List.length l) : Int)))))))))))))))))))))))) (And ((0 : Int) ≤ (255 : Int)) (And ((0 : Nat) ≤ Int.toNat (255 : Int)) (And (Int.toNat (255 : Int) ≤ ByteArray.size t) (And ((0 : Int) ≤ (0 : Int)) (And ((0 : Int) ≤ (160 : Int)) (And (Int.toNat (0 : Int) ≤ Int.toNat (160 : Int)) (And ((1 : Nat) * Int.toNat (160 : Int) ≤ (281474976710656 : Nat)) (And (Int.toNat (160 : Int) ≤ (9223372036854775807 : Nat)) (And (Int.toNat (0 : Int) = (0 : Nat)) (And (Int.toNat (160 : Int) = Int.toNat (160 : Int)) (And ((0 : Nat) + (1 : Nat) ≤ (1 : Nat)) (And (((0 : Nat) + (1 : Nat)) * (1 : Nat) ≤ (150000000000000 : Nat)) (∀ cap2 : Nat, (∀ a : (0 : Nat) + (1 : Nat) ≤ cap2, (And ((1 : Nat) = (1 : Nat)) (And (cap2 = cap2) (And (((1 : Nat) + List.length (castL (encInt IntKind.u8) (encInt IntKind.u8) (sl (ByteArray.extract t (0 : Nat) (Int.toNat (255 : Int)))))) * (1 : Nat) ≤ (150000000000000 : Nat)) (∀ cap2_1 : Nat, (∀ a_1 : (1 : Nat) + List.length (castL (encInt IntKind.u8) (encInt IntKind.u8) (sl (ByteArray.extract t (0 : Nat) (Int.toNat (255 : Int))))) ≤ cap2_1, (∃ i0 : FrT t l, (And (And True (And (And (SV.view x (1 : Nat) (Enc.enc BE) l = SV.view x (1 : Nat) (Enc.enc BE) l) (And (And ((true : Bool) = true) (And ((0 : Nat) = (0 : Nat)) (And (List.length (frm t (List.take (FrT.i i0) l)) = List.length (List.replicate (Int.toNat (0 : Int)) (Enc.of (encInt IntKind.u8) ((0 : Int), ())) ++ castL (encInt IntKind.u8) (encInt IntKind.u8) (List.take (1 : Nat) (List.drop (0 : Nat) [Enc.of (encInt IntKind.u8) (IntKind.wrap IntKind.u8 (↑(ByteArray.size (ByteArray.extract t (0 : Nat) (Int.toNat (255 : Int)))) : Int), ())])) ++ castL (encInt IntKind.u8) (encInt IntKind.u8) (sl (ByteArray.extract t (0 : Nat) (Int.toNat (255 : Int)))))) (FrT.cap i0 = cap2_1)))) (And ((↑(FrT.i i0) : Int) = (0 : Int)) True))) (And (And (And ((true : Bool) = true) (And (FrT.cap i0 = cap2_1) (And (List.map (Enc.enc (encInt IntKind.u8)) (frm t (List.take (FrT.i i0) l)) = List.map (Enc.enc (encInt IntKind.u8)) (List.replicate (Int.toNat (0 : Int)) (Enc.of (encInt IntKind.u8) ((0 : Int), ())) ++ castL (encInt IntKind.u8) (encInt IntKind.u8) (List.take (1 : Nat) (List.drop (0 : Nat) [Enc.of (encInt IntKind.u8) (IntKind.wrap IntKind.u8 (↑(ByteArray.size (ByteArray.extract t (0 : Nat) (Int.toNat (255 : Int)))) : Int), ())])) ++ castL (encInt IntKind.u8) (encInt IntKind.u8) (sl (ByteArray.extract t (0 : Nat) (Int.toNat (255 : Int)))))) (∀ x_1 : Int, (∀ a_2 : x_1 ∈ frm t (List.take (FrT.i i0) l), (∀ s : SV, (∀ a_3 : s ∈ Enc.enc (encInt IntKind.u8) x_1, ((SV.isPure s : Bool) = true)))))))) (And ((true : Bool) = true) True)) ((true : Bool) = true)))) (∀ i : FrT t l, (∀ a_2 : True, (@Bool.rec (fun _ => Prop) (And ((0 : Nat) + List.length (frm t (List.take (FrT.i i) l)) ≤ List.length (frm t (List.take (FrT.i i) l))) (And (List.length (frm t (List.take (FrT.i i) l)) ≤ FrT.cap i) (And (∀ y : Int, ((true : Bool) = true)) (∀ x_1 : Value, (∃ o : Value, (And (And (SV.view o (1 : Nat) (Enc.enc (encInt IntKind.u8)) (frm t l) = SV.view x_1 (1 : Nat) (Enc.enc (encInt IntKind.u8)) (List.take (List.length (frm t (List.take (FrT.i i) l))) (List.drop (0 : Nat) (frm t (List.take (FrT.i i) l))))) True) (And True ((true : Bool) = true)))))))) (And ((0 : Int) ≤ (↑(FrT.i i) : Int)) (∃ hk : Int.toNat (↑(FrT.i i) : Int) < List.length l, (And ((0 : Int) ≤ (↑(FrT.i i) : Int)) (∃ hk_1 : Int.toNat (↑(FrT.i i) : Int) < List.length l, (And (And True (∀ o : Unit, (And (And (List.length (frm t (List.take (FrT.i i) l)) = List.length (frm t (List.take (FrT.i i) l))) (And (FrT.cap i = FrT.cap i) (And ((0 : Nat) + (8 : Nat) ≤ (8 : Nat)) (And ((List.length (frm t (List.take (FrT.i i) l)) + (8 : Nat)) * (1 : Nat) ≤ (150000000000000 : Nat)) (∀ cap2_2 : Nat, (∀ a_3 : List.length (frm t (List.take (FrT.i i) l)) + (8 : Nat) ≤ cap2_2, (And (And (List.length (frm t (List.take (FrT.i i) l) ++ castL (encInt IntKind.u8) (encInt IntKind.u8) (List.take (8 : Nat) (List.drop (0 : Nat) (be8 (IntKind.wrap IntKind.u64 (↑(List.length (Prod.snd (Prod.fst l[Int.toNat (↑(FrT.i i) : Int)]))) : Int)))))) = List.length (frm t (List.take (FrT.i i) l) ++ castL (encInt IntKind.u8) (encInt IntKind.u8) (List.take (8 : Nat) (List.drop (0 : Nat) (be8 (IntKind.wrap IntKind.u64 (↑(List.length (Prod.snd (Prod.fst l[Int.toNat (↑(FrT.i i) : Int)]))) : Int))))))) (And (cap2_2 = cap2_2) (∃ ys : List Int, (And (List.map (Enc.enc (encInt IntKind.u8)) ys = List.map (RK.svs._f [RK.int IntKind.u8] ⟨⟨RK.sv._f (RK.int IntKind.u8) PUnit.unit, PUnit.unit⟩, RK.svs._f [] PUnit.unit, PUnit.unit⟩) (Prod.snd (Prod.fst l[Int.toNat (↑(FrT.i i) : Int)]))) (And ((List.length (frm t (List.take (FrT.i i) l) ++ castL (encInt IntKind.u8) (encInt IntKind.u8) (List.take (8 : Nat) (List.drop (0 : Nat) (be8 (IntKind.wrap IntKind.u64 (↑(List.length (Prod.snd (Prod.fst l[Int.toNat (↑(FrT.i i) : Int)]))) : Int)))))) + List.length ys) * (1 : Nat) ≤ (150000000000000 : Nat)) (∀ cap2_3 : Nat, (∀ a_4 : List.length (frm t (List.take (FrT.i i) l) ++ castL (encInt IntKind.u8) (encInt IntKind.u8) (List.take (8 : Nat) (List.drop (0 : Nat) (be8 (IntKind.wrap IntKind.u64 (↑(List.length (Prod.snd (Prod.fst l[Int.toNat (↑(FrT.i i) : Int)]))) : Int)))))) + List.length ys ≤ cap2_3, (∃ i' : FrT t l, (And (And (List.length l - FrT.i i' < List.length l - FrT.i i) True) (And (And (SV.view x (1 : Nat) (Enc.enc BE) l = SV.view x (1 : Nat) (Enc.enc BE) l) (And (And ((true : Bool) = true) (And ((0 : Nat) = (0 : Nat)) (And (List.length (frm t (List.take (FrT.i i') l)) = List.length (frm t (List.take (FrT.i i) l) ++ castL (encInt IntKind.u8) (encInt IntKind.u8) (List.take (8 : Nat) (List.drop (0 : Nat) (be8 (IntKind.wrap IntKind.u64 (↑(List.length (Prod.snd (Prod.fst l[Int.toNat (↑(FrT.i i) : Int)]))) : Int))))) ++ ys)) (FrT.cap i' = cap2_3)))) (And ((↑(FrT.i i') : Int) = IntKind.wrap IntKind.i64 ((↑(FrT.i i) : Int) + (1 : Int))) True))) (And (And (And ((true : Bool) = true) (And (FrT.cap i' = cap2_3) (And (List.map (Enc.enc (encInt IntKind.u8)) (frm t (List.take (FrT.i i') l)) = List.map (Enc.enc (encInt IntKind.u8)) (frm t (List.take (FrT.i i) l) ++ castL (encInt IntKind.u8) (encInt IntKind.u8) (List.take (8 : Nat) (List.drop (0 : Nat) (be8 (IntKind.wrap IntKind.u64 (↑(List.length (Prod.snd (Prod.fst l[Int.toNat (↑(FrT.i i) : Int)]))) : Int))))) ++ ys)) (∀ x_1 : Int, (∀ a_5 : x_1 ∈ frm t (List.take (FrT.i i') l), (∀ s : SV, (∀ a_6 : s ∈ Enc.enc (encInt IntKind.u8) x_1, ((SV.isPure s : Bool) = true)))))))) (And ((true : Bool) = true) True)) ((true : Bool) = true)))))))))))) True))))))) True))) True))))) (decide ((↑(FrT.i i) : Int) < (↑(List.length l) : Int))))))))))))))))))))))))))) (decide ((255 : Int) < (↑(ByteArray.size t) : Int))))) (by kernel_rfl) ?_
  have hs0 : ((sl t).take (min t.size 255)).length = min t.size 255 := by rw [List.length_take, sl_length]; omega
  have hf0 : (frm t []).length = 1 + min t.size 255 := by rw [frm0, List.length_cons, hs0]; omega
  have z0 : List.replicate (Int.toNat 0) (0 : Int) = [] := rfl
  refine bif_dec (fun h0 => ?_) (fun h0 => ?_)
  · have hmin : min t.size 255 = 255 := by omega
    have e1 : t.extract 0 (Int.toNat 255) = t.extract 0 (min t.size 255) := by rw [hmin]; rfl
    simp only [e1, Int.toNat_natCast, sl_extract, extN, wrap8n (show min t.size 255 < 256 by omega), castB, ofB, z0, List.nil_append, List.drop_zero, List.take_succ_cons, List.take_zero, List.singleton_append, ← frm0]
    repeat (with_reducible refine And.intro (by first | exact trivial | omega | decide) ?_)
    intro c1 k1
    repeat (with_reducible refine And.intro (by first | exact trivial | omega | decide) ?_)
    intro c2 k2
    refine ⟨⟨0, c2, Nat.zero_le _, by rw [List.take_zero]; omega⟩, ?_, ?_⟩
    ·
      repeat' first | exact encB_pure _ | exact trivial | refine And.intro ?_ ?_ | with_reducible refine bif_dt (by assumption) ?_ | with_reducible refine bif_df (by assumption) ?_ | with_reducible refine bif_dec (fun _ => ?_) (fun _ => ?_) | with_reducible refine bif_not ?_ | with_reducible refine bif_and ?_ | with_reducible refine bif_or ?_ | with_reducible refine bif_t (by assumption) ?_ | with_reducible refine bif_f (by assumption) ?_ | with_reducible refine bif_t (beq_self_eq_true _) ?_ | with_reducible refine bif_b (fun _ => ?_) (fun _ => ?_) | with_reducible refine ⟨_, Eq.refl (List.map _ _), ?_⟩ | (with_reducible refine Exists.intro (by omega) ?_) | rfl | (intro h0; omega) | omega
    rintro ⟨i, cap1, hi, hc⟩ -
    dsimp only
    have hm := frm_mono t l i
    refine bif_dec (fun h1 => ?_) (fun h1 => ?_)
    · have hi' : i < l.length := by omega
      have h8 := fB_len (l.take i)
      rw [List.length_take, Nat.min_eq_left hi] at h8
      have h9 := flat_mono fB l i
      have hbl := bl_length l[i]
      have hst := frm_step t l hi'
      have hm2 := frm_mono t l (i + 1)
      have hl2 : (frm t (l.take (i + 1))).length = (frm t (l.take i)).length + 8 + (bl l[i]).length := by rw [← hst, List.length_append]; unfold fB; rw [blb_length]; omega
      have hw : IntKind.u64.wrap (l[i].1.2.length : Int) = ((bl l[i]).length : Int) := by rw [hbl, wrapU64]; omega
      have ha : frm t (l.take i) ++ be8 ((bl l[i]).length : Int) ++ bl l[i] = frm t (l.take (i + 1)) := by rw [← hst, List.append_assoc]; rfl
      simp only [t8', castB, inext (show i < 9223372036854775807 by omega), hw]
      refine ⟨by omega, hi', by omega, hi', ⟨trivial, fun _ => ⟨⟨trivial, trivial, by omega, by omega, fun cap3 hc3 => ⟨⟨trivial, trivial, bl l[i], bl_enc _, ?_, ?_⟩, trivial⟩⟩, trivial⟩⟩, trivial⟩
      · rw [List.length_append, be8_length]; omega
      rw [ha, List.length_append, be8_length]
      intro cap4 hc4
      refine ⟨⟨i + 1, cap4, hi', by omega⟩, ⟨show l.length - (i + 1) < l.length - i by omega, trivial⟩, ?_⟩
      repeat' first | exact encB_pure _ | exact trivial | refine And.intro ?_ ?_ | with_reducible refine bif_dt (by assumption) ?_ | with_reducible refine bif_df (by assumption) ?_ | with_reducible refine bif_dec (fun _ => ?_) (fun _ => ?_) | with_reducible refine bif_not ?_ | with_reducible refine bif_and ?_ | with_reducible refine bif_or ?_ | with_reducible refine bif_t (by assumption) ?_ | with_reducible refine bif_f (by assumption) ?_ | with_reducible refine bif_t (beq_self_eq_true _) ?_ | with_reducible refine bif_b (fun _ => ?_) (fun _ => ?_) | with_reducible refine ⟨_, Eq.refl (List.map _ _), ?_⟩ | (with_reducible refine Exists.intro (by omega) ?_) | rfl | (intro h0; omega) | omega
    · have hil : i = l.length := by omega
      subst hil
      simp only [List.take_length, List.drop_zero, Nat.zero_add] at hc ⊢
      repeat (with_reducible refine And.intro (by first | exact trivial | omega | decide | exact fun _ => rfl | exact fun _ => trivial) ?_)
      intro y
      refine ⟨y, ?_⟩
      repeat' first | exact trivial | refine And.intro ?_ ?_ | with_reducible refine bif_dt (by assumption) ?_ | with_reducible refine bif_df (by assumption) ?_ | with_reducible refine bif_dec (fun _ => ?_) (fun _ => ?_) | with_reducible refine bif_not ?_ | with_reducible refine bif_and ?_ | with_reducible refine bif_or ?_ | with_reducible refine bif_t (by assumption) ?_ | with_reducible refine bif_f (by assumption) ?_ | with_reducible refine bif_t (beq_self_eq_true _) ?_ | with_reducible refine bif_b (fun _ => ?_) (fun _ => ?_) | with_reducible refine ⟨_, Eq.refl (List.map _ _), ?_⟩ | (with_reducible refine Exists.intro (by omega) ?_) | rfl | (intro h0; omega) | omega
  · have hmin : min t.size 255 = t.size := by omega
    have e3 : ((t.size : Int)) = ((min t.size 255 : Nat) : Int) := by rw [hmin]
    have e4 : ((min t.size 255 : Nat) : Int) :: sl t = frm t [] := by rw [frm0, hmin, List.take_of_length_le (by rw [sl_length]; exact Nat.le_refl _)]
    have hst : (sl t).length = min t.size 255 := by rw [sl_length]; omega
    simp only [e3, Int.toNat_natCast, wrap8n (show min t.size 255 < 256 by omega), castB, ofB, z0, List.nil_append, List.drop_zero, List.take_succ_cons, List.take_zero, List.singleton_append, e4]
    repeat (with_reducible refine And.intro (by first | exact trivial | omega | decide) ?_)
    intro c1 k1
    repeat (with_reducible refine And.intro (by first | exact trivial | omega | decide) ?_)
    intro c2 k2
    refine ⟨⟨0, c2, Nat.zero_le _, by rw [List.take_zero]; omega⟩, ?_, ?_⟩
    ·
      repeat' first | exact encB_pure _ | exact trivial | refine And.intro ?_ ?_ | with_reducible refine bif_dt (by assumption) ?_ | with_reducible refine bif_df (by assumption) ?_ | with_reducible refine bif_dec (fun _ => ?_) (fun _ => ?_) | with_reducible refine bif_not ?_ | with_reducible refine bif_and ?_ | with_reducible refine bif_or ?_ | with_reducible refine bif_t (by assumption) ?_ | with_reducible refine bif_f (by assumption) ?_ | with_reducible refine bif_t (beq_self_eq_true _) ?_ | with_reducible refine bif_b (fun _ => ?_) (fun _ => ?_) | with_reducible refine ⟨_, Eq.refl (List.map _ _), ?_⟩ | (with_reducible refine Exists.intro (by omega) ?_) | rfl | (intro h0; omega) | omega
    rintro ⟨i, cap1, hi, hc⟩ -
    dsimp only
    have hm := frm_mono t l i
    refine bif_dec (fun h1 => ?_) (fun h1 => ?_)
    · have hi' : i < l.length := by omega
      have h8 := fB_len (l.take i)
      rw [List.length_take, Nat.min_eq_left hi] at h8
      have h9 := flat_mono fB l i
      have hbl := bl_length l[i]
      have hst := frm_step t l hi'
      have hm2 := frm_mono t l (i + 1)
      have hl2 : (frm t (l.take (i + 1))).length = (frm t (l.take i)).length + 8 + (bl l[i]).length := by rw [← hst, List.length_append]; unfold fB; rw [blb_length]; omega
      have hw : IntKind.u64.wrap (l[i].1.2.length : Int) = ((bl l[i]).length : Int) := by rw [hbl, wrapU64]; omega
      have ha : frm t (l.take i) ++ be8 ((bl l[i]).length : Int) ++ bl l[i] = frm t (l.take (i + 1)) := by rw [← hst, List.append_assoc]; rfl
      simp only [t8', castB, inext (show i < 9223372036854775807 by omega), hw]
      refine ⟨by omega, hi', by omega, hi', ⟨trivial, fun _ => ⟨⟨trivial, trivial, by omega, by omega, fun cap3 hc3 => ⟨⟨trivial, trivial, bl l[i], bl_enc _, ?_, ?_⟩, trivial⟩⟩, trivial⟩⟩, trivial⟩
      · rw [List.length_append, be8_length]; omega
      rw [ha, List.length_append, be8_length]
      intro cap4 hc4
      refine ⟨⟨i + 1, cap4, hi', by omega⟩, ⟨show l.length - (i + 1) < l.length - i by omega, trivial⟩, ?_⟩
      repeat' first | exact encB_pure _ | exact trivial | refine And.intro ?_ ?_ | with_reducible refine bif_dt (by assumption) ?_ | with_reducible refine bif_df (by assumption) ?_ | with_reducible refine bif_dec (fun _ => ?_) (fun _ => ?_) | with_reducible refine bif_not ?_ | with_reducible refine bif_and ?_ | with_reducible refine bif_or ?_ | with_reducible refine bif_t (by assumption) ?_ | with_reducible refine bif_f (by assumption) ?_ | with_reducible refine bif_t (beq_self_eq_true _) ?_ | with_reducible refine bif_b (fun _ => ?_) (fun _ => ?_) | with_reducible refine ⟨_, Eq.refl (List.map _ _), ?_⟩ | (with_reducible refine Exists.intro (by omega) ?_) | rfl | (intro h0; omega) | omega
    · have hil : i = l.length := by omega
      subst hil
      simp only [List.take_length, List.drop_zero, Nat.zero_add] at hc ⊢
      repeat (with_reducible refine And.intro (by first | exact trivial | omega | decide | exact fun _ => rfl | exact fun _ => trivial) ?_)
      intro y
      refine ⟨y, ?_⟩
      repeat' first | exact trivial | refine And.intro ?_ ?_ | with_reducible refine bif_dt (by assumption) ?_ | with_reducible refine bif_df (by assumption) ?_ | with_reducible refine bif_dec (fun _ => ?_) (fun _ => ?_) | with_reducible refine bif_not ?_ | with_reducible refine bif_and ?_ | with_reducible refine bif_or ?_ | with_reducible refine bif_t (by assumption) ?_ | with_reducible refine bif_f (by assumption) ?_ | with_reducible refine bif_t (beq_self_eq_true _) ?_ | with_reducible refine bif_b (fun _ => ?_) (fun _ => ?_) | with_reducible refine ⟨_, Eq.refl (List.map _ _), ?_⟩ | (with_reducible refine Exists.intro (by omega) ?_) | rfl | (intro h0; omega) | omega
def rframeT : MT := fun ms n h K => match ms with
  | [.one (.v (.string t)), .one (.view vx0 ve0 en0 vl0)] => bif Nat.beq ve0 1 && noDup [] then ∃ l : List (BTy), vl0.map en0 = l.map eBl ∧ (((l.flatMap fB).length ≤ 140000000000000 ∧ t.size ≤ 140737488351232)) ∧ (∀ y : Value, K (n + 0) (byV y (frm t l)) ([] ++ delL [] h)) else False
  | _ => False
theorem rframe_mono : MMono rframeT := by
  intro ms n h K K' hkk hk
  unfold rframeT at hk ⊢
  split at hk
  · rename_i t vx0 ve0 va0 en0 vl0
    obtain ⟨hb, y0, z0, h1, h2⟩ := cond_false_elim hk
    rw [hb]
    exact ⟨y0, z0, h1, fun o => hkk _ _ _ (h2 o)⟩
  · exact hk.elim
theorem rframe_ok : MOK Tryd.prog 23 rframeT := by
  refine ⟨?_, rframe_mono⟩
  intro ms n hB K hk
  unfold rframeT at hk
  split at hk
  · rename_i t vx0 ve0 va0 en0 vl0
    obtain ⟨hb, l, he0, h, hk2⟩ := cond_false_elim hk
    clear hk
    simp only [Bool.and_eq_true] at hb
    obtain ⟨hc0, hnd⟩ := hb
    have hs0 := Nat.eq_of_beq_eq_true hc0
    subst hs0
    refine SCall.seen ?_ (.cons (.refl _) (.cons (.view he0) .nil))
    exact (rframe_spec _ t h.1 h.2).use (fun _ => 0) rfl rfl trivial hnd (fun j hj => absurd hj (Nat.not_lt_zero j)) (fun o => hk2 o)
  · exact hk.elim

end Go.Proofs.YtblapbjafbmndaaDoor

namespace Go.Proofs.YtblapbjafbmndaaDoor
open Go Go.Sx Go.Sha
set_option linter.unusedVariables false
set_option linter.unusedSimpArgs false
set_option maxRecDepth 100000
set_option maxHeartbeats 4000000

structure CapT (n : Nat) where
  cap : Nat
  h : n ≤ cap
def lentT : MT := fun ms n h K => match ms with
  | [.one (.view vx0 ve0 en0 vl0)] => bif Nat.beq ve0 1 && noDup [] then ∃ l : List (Int), vl0.map en0 = l.map eB ∧ (l.length ≤ 140737488351232) ∧ (∀ c : CapT (l.length + 2), K (n + 1) (.one (.slc n 1 0 l.length c.cap)) ([(n, .row 1 (encInt .u8) (l ++ [55, 56]) c.cap)] ++ delL [] h)) else False
  | _ => False
end Go.Proofs.YtblapbjafbmndaaDoor

namespace Go.Proofs.YtblapbjafbmndaaDoor
open Go Go.Sx Go.Sha
set_option linter.unusedVariables false
set_option linter.unusedSimpArgs false
set_option maxRecDepth 100000
set_option maxHeartbeats 4000000

/-- Rows with the same bytes. -/
structure PiT (l : List BTy) where
  i : Nat
  r : List BTy
  cap : Nat
  hi : i ≤ l.length
  hc : r.length ≤ cap
  he : r.map bl = (l.take i).map bl
structure PaT (l : List BTy) where
  y : Value
  r : List BTy
  he : r.map bl = l.map bl
theorem PiT.len {l : List BTy} (o : PiT l) : o.r.length = o.i := by
  have := congrArg List.length o.he
  have h := o.hi
  simp at this
  omega
theorem PaT.len {l : List BTy} (o : PaT l) : o.r.length = l.length := by have := congrArg List.length o.he; simpa using this
theorem castE (l : List BTy) : castL (encRec [.sl 1 [.int .u8]]) BE l = l := castL_self _ _ rfl
theorem ofE (x : Value) (l : List Int) : (encRec [.sl 1 [.int .u8]]).of ((x, mkL l), ()) = mkB x l := rfl
theorem pa_step {l r : List BTy} {i : Nat} (he : r.map bl = (l.take i).map bl) (hi : i < l.length) (x : Value) : (r ++ [mkB x (bl l[i])]).map bl = (l.take (i + 1)).map bl := by
  rw [List.map_append, he, List.take_add_one, List.getElem?_eq_getElem hi, List.map_append]
  simp [bl_mk]
theorem encBE_pure (l : List BTy) : ∀ x ∈ l, ∀ s ∈ BE.enc x, s.isPure = true := fun x _ => Enc.pures BE x
theorem parts_spec (x : Value) {l : List BTy} (h1 : l.length * 24 ≤ 140737488351232) (h2 : ∀ y ∈ l, y.1.2.length ≤ 140737488351232) : SMem Tryd.prog 22 [bV x l] 0 []
    (fun o : PaT l => ⟨0, bV o.y o.r, []⟩) := by
  refine SMem.inf 1 BE [] SOK.nil [] MSOK.nil tok mixed [] IOK.nil false [(3, ⟨PiT l, fun p => ⟨1, [(0, bV x l), (3, .one (.nslc 0 1 p.r.length p.cap)), (4, int p.i)], [(0, .row 1 BE p.r p.cap)]⟩, fun p => l.length - p.i, fun _ _ => True⟩)] [] Tryd.call22 Tryd.func22 rfl (by rfl) ?_
  refine Eq.mp (α := (∃ i0 : PiT l, (And (And True (And (And (SV.view x (1 : Nat) (Enc.enc BE) l = SV.view x (1 : Nat) (Enc.enc BE) l) (And (And ((true : Bool) = true) (And (List.length (PiT.r i0) = (0 : Nat)) (PiT.cap i0 = (0 : Nat)))) (And ((↑(PiT.i i0) : Int) = (0 : Int)) True))) (And (And (And ((true : Bool) = true) (And (PiT.cap i0 = (0 : Nat)) (And (List.map (Enc.enc BE) (PiT.r i0) = List.map (Enc.enc BE) []) (∀ x_1 : RK.TL [RK.sl (1 : Nat) [RK.int IntKind.u8]], (∀ a : x_1 ∈ PiT.r i0, (∀ s : SV, (∀ a_1 : s ∈ Enc.enc BE x_1, ((SV.isPure s : Bool) = true)))))))) (And ((true : Bool) = true) True)) ((true : Bool) = true)))) (∀ i : PiT l, (∀ a : True, (@Bool.rec (fun _ => Prop) (And (List.length (PiT.r i) ≤ List.length (PiT.r i)) (And (List.length (PiT.r i) ≤ PiT.cap i) (And (PiT.cap i = PiT.cap i) (And (∀ y : RK.TL [RK.sl (1 : Nat) [RK.int IntKind.u8]], ((true : Bool) = true)) (∀ x_1 : Value, (∃ o : PaT l, (And (And (SV.view (PaT.y o) (1 : Nat) (Enc.enc BE) (PaT.r o) = SV.view x_1 (1 : Nat) (Enc.enc BE) (List.take (List.length (PiT.r i)) (PiT.r i))) True) (And True ((true : Bool) = true))))))))) (And ((0 : Int) ≤ (↑(PiT.i i) : Int)) (∃ hk : Int.toNat (↑(PiT.i i) : Int) < List.length l, (And ((0 : Nat) = (0 : Nat)) (And ((0 : Nat) = (0 : Nat)) (∃ ys : List Int, (And (List.map (Enc.enc (encInt IntKind.u8)) ys = List.map (RK.svs._f [RK.int IntKind.u8] ⟨⟨RK.sv._f (RK.int IntKind.u8) PUnit.unit, PUnit.unit⟩, RK.svs._f [] PUnit.unit, PUnit.unit⟩) (Prod.snd (Prod.fst l[Int.toNat (↑(PiT.i i) : Int)]))) (And (((0 : Nat) + List.length ys) * (1 : Nat) ≤ (150000000000000 : Nat)) (∀ cap2 : Nat, (∀ a_1 : (0 : Nat) + List.length ys ≤ cap2, (And ((0 : Nat) + List.length ([] ++ ys) ≤ List.length ([] ++ ys)) (And (List.length ([] ++ ys) ≤ cap2) (And (∀ y : Int, ((true : Bool) = true)) (∀ x_1 : Value, (∃ l' : List (RK.TL [RK.int IntKind.u8]), (And (List.map (Enc.enc (encInt IntKind.u8)) (List.take (List.length ([] ++ ys)) (List.drop (0 : Nat) ([] ++ ys))) = List.map (RK.svs [RK.int IntKind.u8]) l') (And (List.length (PiT.r i) = List.length (PiT.r i)) (And (PiT.cap i = PiT.cap i) (And ((0 : Nat) + (1 : Nat) ≤ (1 : Nat)) (And ((List.length (PiT.r i) + (1 : Nat)) * (24 : Nat) ≤ (150000000000000 : Nat)) (∀ cap2_1 : Nat, (∀ a_2 : List.length (PiT.r i) + (1 : Nat) ≤ cap2_1, (∃ i' : PiT l, (And (And (List.length l - PiT.i i' < List.length l - PiT.i i) True) (And (And (SV.view x (1 : Nat) (Enc.enc BE) l = SV.view x (1 : Nat) (Enc.enc BE) l) (And (And ((true : Bool) = true) (And (List.length (PiT.r i') = List.length (PiT.r i ++ castL (encRec [RK.sl (1 : Nat) [RK.int IntKind.u8]]) BE (List.take (1 : Nat) (List.drop (0 : Nat) [Enc.of (encRec [RK.sl (1 : Nat) [RK.int IntKind.u8]]) ((x_1, l'), ())])))) (PiT.cap i' = cap2_1))) (And ((↑(PiT.i i') : Int) = IntKind.wrap IntKind.i64 ((↑(PiT.i i) : Int) + (1 : Int))) True))) (And (And (And ((true : Bool) = true) (And (PiT.cap i' = cap2_1) (And (List.map (Enc.enc BE) (PiT.r i') = List.map (Enc.enc BE) (PiT.r i ++ castL (encRec [RK.sl (1 : Nat) [RK.int IntKind.u8]]) BE (List.take (1 : Nat) (List.drop (0 : Nat) [Enc.of (encRec [RK.sl (1 : Nat) [RK.int IntKind.u8]]) ((x_1, l'), ())])))) (∀ x_2 : RK.TL [RK.sl (1 : Nat) [RK.int IntKind.u8]], (∀ a_3 : x_2 ∈ PiT.r i', (∀ s : SV, (∀ a_4 : s ∈ Enc.enc BE x_2, ((SV.isPure s : Bool) = true)))))))) (And ((true : Bool) = true) True)) ((true : Bool) = true)))))))))))))))))))))))))) (decide ((↑(PiT.i i) : Int) < (↑(List.length l) : Int))))))))) (by kernel_rfl) ?_
  refine ⟨⟨0, [], 0, Nat.zero_le _, Nat.le_refl _, rfl⟩, ?_, ?_⟩
  ·
    repeat' first | exact encBE_pure _ | exact trivial | refine And.intro ?_ ?_ | with_reducible refine bif_dt (by assumption) ?_ | with_reducible refine bif_df (by assumption) ?_ | with_reducible refine bif_dec (fun _ => ?_) (fun _ => ?_) | with_reducible refine bif_not ?_ | with_reducible refine bif_and ?_ | with_reducible refine bif_or ?_ | with_reducible refine bif_t (by assumption) ?_ | with_reducible refine bif_f (by assumption) ?_ | with_reducible refine bif_t (beq_self_eq_true _) ?_ | with_reducible refine bif_b (fun _ => ?_) (fun _ => ?_) | with_reducible refine ⟨_, Eq.refl (List.map _ _), ?_⟩ | (with_reducible refine Exists.intro (by omega) ?_) | rfl | (intro h0; omega) | omega
  rintro ⟨i, r, cap, hi, hc, he⟩ -
  have hlen : r.length = i := (PiT.mk i r cap hi hc he).len
  dsimp only
  refine bif_dec (fun h => ?_) (fun h => ?_)
  · have hi' : i < l.length := by omega
    have hb := h2 _ (List.getElem_mem hi')
    have hbl := bl_length l[i]
    simp only [Int.toNat_natCast, inext (show i < 9223372036854775807 by omega)]
    refine ⟨by omega, hi', trivial, trivial, bl l[i], bl_enc _, by omega, fun cap2 k2 => ?_⟩
    rw [List.nil_append, List.drop_zero, List.take_length]
    refine ⟨by omega, by omega, fun _ => trivial, fun x1 => ⟨mkL (bl l[i]), encmk _, trivial, trivial, by omega, by omega, fun cap3 k3 => ?_⟩⟩
    rw [List.drop_zero, List.take_succ_cons, List.take_zero, castE, ofE]
    refine ⟨⟨i + 1, r ++ [mkB x1 (bl l[i])], cap3, hi', by rw [List.length_append]; exact k3, pa_step he hi' x1⟩, ⟨show l.length - (i + 1) < l.length - i by omega, trivial⟩, ?_⟩
    repeat' first | exact encBE_pure _ | exact trivial | refine And.intro ?_ ?_ | with_reducible refine bif_dt (by assumption) ?_ | with_reducible refine bif_df (by assumption) ?_ | with_reducible refine bif_dec (fun _ => ?_) (fun _ => ?_) | with_reducible refine bif_not ?_ | with_reducible refine bif_and ?_ | with_reducible refine bif_or ?_ | with_reducible refine bif_t (by assumption) ?_ | with_reducible refine bif_f (by assumption) ?_ | with_reducible refine bif_t (beq_self_eq_true _) ?_ | with_reducible refine bif_b (fun _ => ?_) (fun _ => ?_) | with_reducible refine ⟨_, Eq.refl (List.map _ _), ?_⟩ | (with_reducible refine Exists.intro (by omega) ?_) | rfl | (intro h0; omega) | omega
  · have hil : i = l.length := by omega
    subst hil
    rw [List.take_length] at he
    repeat (with_reducible refine And.intro (by first | exact trivial | omega | decide | exact fun _ => rfl | exact fun _ => trivial) ?_)
    intro y
    refine ⟨⟨y, r, he⟩, ?_⟩
    rw [List.take_of_length_le (Nat.le_refl _)]
    repeat' first | exact trivial | refine And.intro ?_ ?_ | with_reducible refine bif_dt (by assumption) ?_ | with_reducible refine bif_df (by assumption) ?_ | with_reducible refine bif_dec (fun _ => ?_) (fun _ => ?_) | with_reducible refine bif_not ?_ | with_reducible refine bif_and ?_ | with_reducible refine bif_or ?_ | with_reducible refine bif_t (by assumption) ?_ | with_reducible refine bif_f (by assumption) ?_ | with_reducible refine bif_t (beq_self_eq_true _) ?_ | with_reducible refine bif_b (fun _ => ?_) (fun _ => ?_) | with_reducible refine ⟨_, Eq.refl (List.map _ _), ?_⟩ | (with_reducible refine Exists.intro (by omega) ?_) | rfl | (intro h0; omega) | omega
def partsT : MT := fun ms n h K => match ms with
  | [.one (.view vx0 ve0 en0 vl0)] => bif Nat.beq ve0 1 && noDup [] then ∃ l : List (BTy), vl0.map en0 = l.map eBl ∧ ((l.length * 24 ≤ 140737488351232 ∧ ∀ y ∈ l, y.1.2.length ≤ 140737488351232)) ∧ (∀ o : PaT l, K (n + 0) (bV o.y o.r) ([] ++ delL [] h)) else False
  | _ => False
theorem parts_mono : MMono partsT := by
  intro ms n h K K' hkk hk
  unfold partsT at hk ⊢
  split at hk
  · rename_i vx0 ve0 va0 en0 vl0
    obtain ⟨hb, y0, z0, h1, h2⟩ := cond_false_elim hk
    rw [hb]
    exact ⟨y0, z0, h1, fun o => hkk _ _ _ (h2 o)⟩
  · exact hk.elim
theorem parts_ok : MOK Tryd.prog 22 partsT := by
  refine ⟨?_, parts_mono⟩
  intro ms n hB K hk
  unfold partsT at hk
  split at hk
  · rename_i vx0 ve0 va0 en0 vl0
    obtain ⟨hb, l, he0, h, hk2⟩ := cond_false_elim hk
    clear hk
    simp only [Bool.and_eq_true] at hb
    obtain ⟨hc0, hnd⟩ := hb
    have hs0 := Nat.eq_of_beq_eq_true hc0
    subst hs0
    refine SCall.seen ?_ (.cons (.view he0) .nil)
    exact (parts_spec _ h.1 h.2).use (fun _ => 0) rfl rfl trivial hnd (fun j hj => absurd hj (Nat.not_lt_zero j)) (fun o => hk2 o)
  · exact hk.elim


theorem frm_By {t : ByteArray} {l : List BTy} (h : ∀ y ∈ l, By (bl y)) : By (frm t l) := frameF_By (sl_By t) fun a ha => by
  obtain ⟨y, hy, rfl⟩ := List.mem_map.1 ha
  exact h y hy
theorem frm_len (t : ByteArray) (l : List BTy) : (frm t l).length ≤ 256 + (l.flatMap fB).length := by
  have := frm_mono t l l.length
  rwa [List.take_length] at this
theorem rtagged_spec (x : Value) (t : ByteArray) {l : List BTy} (h : (l.flatMap fB).length ≤ 140000000000000) (ht : t.size ≤ 140737488351232) (hB : ∀ y ∈ l, By (bl y)) :
    SFun Tryd.prog 25 [str t, bV x l] (h32 (shaF (frm t l))) := by
  refine SFun.inm [(18, rSumT)] (SOK.cons rSum_ok SOK.nil) [(23, rframeT)] (MSOK.cons rframe_ok MSOK.nil) tok mixed [] IOK.nil true [] [] Tryd.call25 Tryd.func25 rfl (by rfl) ?_
  refine Eq.mp (α := (∃ l_1 : List BTy, (And (List.map (Enc.enc BE) l = List.map eBl l_1) (And (And (List.length (List.flatMap fB l_1) ≤ (140000000000000 : Nat)) (ByteArray.size t ≤ (140737488351232 : Nat))) (∀ y : Value, (∃ b : List Int, (And (List.map (Enc.enc (encInt IntKind.u8)) (frm t l_1) = List.map eB b) (And (And (∀ x_1 : Int, (∀ a : x_1 ∈ b, (And ((0 : Int) ≤ x_1) (x_1 < (256 : Int))))) (List.length b ≤ (140737488351232 : Nat))) (And (M.agg [SV.ints IntKind.u8 (32 : Nat) (shaF b)] = M.agg [SV.ints IntKind.u8 (32 : Nat) (shaF (frm t l))]) ((true : Bool) = true)))))))))) (by kernel_rfl) ?_
  have := frm_len t l
  refine ⟨l, rfl, ⟨h, ht⟩, fun y => ⟨frm t l, rfl, ⟨frm_By hB, by omega⟩, ?_⟩⟩
  repeat' first | exact trivial | refine And.intro ?_ ?_ | with_reducible refine bif_dt (by assumption) ?_ | with_reducible refine bif_df (by assumption) ?_ | with_reducible refine bif_dec (fun _ => ?_) (fun _ => ?_) | with_reducible refine bif_not ?_ | with_reducible refine bif_and ?_ | with_reducible refine bif_or ?_ | with_reducible refine bif_t (by assumption) ?_ | with_reducible refine bif_f (by assumption) ?_ | with_reducible refine bif_t (beq_self_eq_true _) ?_ | with_reducible refine bif_b (fun _ => ?_) (fun _ => ?_) | with_reducible refine ⟨_, Eq.refl (List.map _ _), ?_⟩ | (with_reducible refine Exists.intro (by omega) ?_) | rfl | (intro h0; omega) | omega
def rtaggedMT : MT := fun ms n h K => match ms with
  | [.one (.v (.string t)), .one (.view vx0 ve0 en0 vl0)] => bif Nat.beq ve0 1 && noDup [] then ∃ l : List (BTy), vl0.map en0 = l.map eBl ∧ (((l.flatMap fB).length ≤ 140000000000000 ∧ t.size ≤ 140737488351232 ∧ ∀ y ∈ l, By (bl y))) ∧ (∀ o : Unit, K (n + 0) (h32 (shaF (frm t l))) ([] ++ delL [] h)) else False
  | _ => False
theorem rtaggedM_mono : MMono rtaggedMT := by
  intro ms n h K K' hkk hk
  unfold rtaggedMT at hk ⊢
  split at hk
  · rename_i t vx0 ve0 va0 en0 vl0
    obtain ⟨hb, y0, z0, h1, h2⟩ := cond_false_elim hk
    rw [hb]
    exact ⟨y0, z0, h1, fun o => hkk _ _ _ (h2 o)⟩
  · exact hk.elim
theorem rtaggedM_ok : MOK Tryd.prog 25 rtaggedMT := by
  refine ⟨?_, rtaggedM_mono⟩
  intro ms n hB K hk
  unfold rtaggedMT at hk
  split at hk
  · rename_i t vx0 ve0 va0 en0 vl0
    obtain ⟨hb, l, he0, h, hk2⟩ := cond_false_elim hk
    clear hk
    simp only [Bool.and_eq_true] at hb
    obtain ⟨hc0, hnd⟩ := hb
    have hs0 := Nat.eq_of_beq_eq_true hc0
    subst hs0
    refine SCall.seen ?_ (.cons (.refl _) (.cons (.view he0) .nil))
    exact ((rtagged_spec _ _ h.1 h.2.1 h.2.2).mem rfl).use (fun _ => 0) rfl rfl trivial hnd (fun j hj => absurd hj (Nat.not_lt_zero j)) (fun o => hk2 o)
  · exact hk.elim

end Go.Proofs.YtblapbjafbmndaaDoor

namespace Go.Proofs.YtblapbjafbmndaaDoor
open Go Go.Sx Go.Sha
set_option linter.unusedVariables false
set_option linter.unusedSimpArgs false
set_option maxRecDepth 100000
set_option maxHeartbeats 4000000

/-- The sum that the law adds up. -/
def tot (l : List BTy) : Nat := (l.map fun y => min (bl y).length 30000).sum
end Go.Proofs.YtblapbjafbmndaaDoor
