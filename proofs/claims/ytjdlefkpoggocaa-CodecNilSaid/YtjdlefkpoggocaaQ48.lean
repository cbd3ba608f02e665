/- Blobs and items to writers that are none, and to those that nobody made. -/
import Derived.Test.YtjdlefkpoggocaaQ47
import Derived.Test.YtjdlefkpoggocaaSx24
namespace Go.Proofs.Ytjdlefkpoggocaa
open Go Go.Sx Go.Wide
set_option linter.unusedVariables false
set_option linter.unusedSimpArgs false
set_option maxRecDepth 100000
set_option maxHeartbeats 4000000

def uintNT : MT := fun ms n h K => match ms with
  | [.one (.v (.pointer none)), .one (.view vx0 ve0 en0 vl0)] => bif Nat.beq ve0 1 && noDup [] then ∃ l : List (Int), vl0.map en0 = l.map eU ∧ ((l.length * 8 ≤ 140737488351232)) ∧ (∀ o : Unit, K (n + 0) (int 1) ([] ++ delL [] h)) else False
  | _ => False
theorem uintN_mono : MMono uintNT := by
  intro ms n h K K' hkk hk
  unfold uintNT at hk ⊢
  split at hk
  · rename_i vx0 ve0 va0 en0 vl0
    obtain ⟨hb, y0, z0, h1, h2⟩ := cond_false_elim hk
    rw [hb]
    exact ⟨y0, z0, h1, fun o => hkk _ _ _ (h2 o)⟩
  · exact hk.elim
theorem uintN_ok : MOK Try.prog 67 uintNT := by
  refine ⟨?_, uintN_mono⟩
  intro ms n hB K hk
  unfold uintNT at hk
  split at hk
  · rename_i vx0 ve0 va0 en0 vl0
    obtain ⟨hb, l, he0, h, hk2⟩ := cond_false_elim hk
    clear hk
    simp only [Bool.and_eq_true] at hb
    obtain ⟨hc0, hnd⟩ := hb
    have hs0 := Nat.eq_of_beq_eq_true hc0
    subst hs0
    refine SCall.seen ?_ (.cons (.refl _) (.cons (.view he0) .nil))
    exact (uintN_spec _ h).use (fun _ => 0) rfl rfl trivial hnd (fun j hj => absurd hj (Nat.not_lt_zero j)) (fun o => hk2 o)
  · exact hk.elim

def wideNT : MT := fun ms n h K => match ms with
  | [.one (.v (.pointer none)), .one (.view vx0 ve0 en0 vl0)] => bif Nat.beq ve0 4 && noDup [] then ∃ l : List (List Int), vl0.map en0 = l.map eW ∧ ((l.length * 32 ≤ 140737488351232 ∧ ∀ a ∈ l, L4 a)) ∧ (∀ o : Unit, K (n + 0) (int 1) ([] ++ delL [] h)) else False
  | _ => False
theorem wideN_mono : MMono wideNT := by
  intro ms n h K K' hkk hk
  unfold wideNT at hk ⊢
  split at hk
  · rename_i vx0 ve0 va0 en0 vl0
    obtain ⟨hb, y0, z0, h1, h2⟩ := cond_false_elim hk
    rw [hb]
    exact ⟨y0, z0, h1, fun o => hkk _ _ _ (h2 o)⟩
  · exact hk.elim
theorem wideN_ok : MOK Try.prog 68 wideNT := by
  refine ⟨?_, wideN_mono⟩
  intro ms n hB K hk
  unfold wideNT at hk
  split at hk
  · rename_i vx0 ve0 va0 en0 vl0
    obtain ⟨hb, l, he0, h, hk2⟩ := cond_false_elim hk
    clear hk
    simp only [Bool.and_eq_true] at hb
    obtain ⟨hc0, hnd⟩ := hb
    have hs0 := Nat.eq_of_beq_eq_true hc0
    subst hs0
    refine SCall.seen ?_ (.cons (.refl _) (.cons (.view he0) .nil))
    exact (wideN_spec _ h.1 h.2).use (fun _ => 0) rfl rfl trivial hnd (fun j hj => absurd hj (Nat.not_lt_zero j)) (fun o => hk2 o)
  · exact hk.elim

def hashNT : MT := fun ms n h K => match ms with
  | [.one (.v (.pointer none)), .one (.view vx0 ve0 en0 vl0)] => bif Nat.beq ve0 32 && noDup [] then ∃ l : List (List Int), vl0.map en0 = l.map eH ∧ ((l.length * 32 ≤ 140737488351232 ∧ ∀ a ∈ l, a.length = 32)) ∧ (∀ o : Unit, K (n + 0) (int 1) ([] ++ delL [] h)) else False
  | _ => False
theorem hashN_mono : MMono hashNT := by
  intro ms n h K K' hkk hk
  unfold hashNT at hk ⊢
  split at hk
  · rename_i vx0 ve0 va0 en0 vl0
    obtain ⟨hb, y0, z0, h1, h2⟩ := cond_false_elim hk
    rw [hb]
    exact ⟨y0, z0, h1, fun o => hkk _ _ _ (h2 o)⟩
  · exact hk.elim
theorem hashN_ok : MOK Try.prog 69 hashNT := by
  refine ⟨?_, hashN_mono⟩
  intro ms n hB K hk
  unfold hashNT at hk
  split at hk
  · rename_i vx0 ve0 va0 en0 vl0
    obtain ⟨hb, l, he0, h, hk2⟩ := cond_false_elim hk
    clear hk
    simp only [Bool.and_eq_true] at hb
    obtain ⟨hc0, hnd⟩ := hb
    have hs0 := Nat.eq_of_beq_eq_true hc0
    subst hs0
    refine SCall.seen ?_ (.cons (.refl _) (.cons (.view he0) .nil))
    exact (hashN_spec _ h.1 h.2).use (fun _ => 0) rfl rfl trivial hnd (fun j hj => absurd hj (Nat.not_lt_zero j)) (fun o => hk2 o)
  · exact hk.elim

theorem blobN_spec (x : Value) {l : List BTy} (h5 : ∀ y ∈ l, y.1.2.length ≤ 140737488351232) : SMem Try.prog 41 [.one (.v (.pointer none)), bV x l] 0 [] (fun _ : Unit => ⟨0, int 1, []⟩) := by
  refine SMem.inm [] SOK.nil [(62, eightT), (63, allNT)] (MSOK.cons eight_ok (MSOK.cons allN_ok MSOK.nil)) tok mixed [] IOK.nil false [(3, ⟨BlT l, fun p => ⟨1, [(0, .one (.v (.pointer none))), (1, bV x l), (4, int 0), (5, .one (.nslc 0 1 ((l.take p.i).flatMap fB).length p.cap)), (8, bV x l), (9, int l.length), (10, int p.i)], [(0, .row 1 (encInt .u8) ((l.take p.i).flatMap fB) p.cap)]⟩, fun p => l.length - p.i, fun _ _ => True⟩)] [] Try.call41 Try.func41 rfl (by rfl) ?_
  refine Eq.mp (α := (∃ i0 : BlT l, (And (And True (And (And (Value.pointer none = Value.pointer none) (And (SV.view x (1 : Nat) (Enc.enc BE) l = SV.view x (1 : Nat) (Enc.enc BE) l) (And ((0 : Int) = (0 : Int)) (And (And ((true : Bool) = true) (And (List.length (List.flatMap fB (List.take (BlT.i i0) l)) = (0 : Nat)) (BlT.cap i0 = (0 : Nat)))) (And (SV.view x (1 : Nat) (Enc.enc BE) l = SV.view x (1 : Nat) (Enc.enc BE) l) (And ((↑(List.length l) : Int) = (↑(List.length l) : Int)) (And ((↑(BlT.i i0) : Int) = (0 : Int)) True))))))) (And (And (And ((true : Bool) = true) (And (BlT.cap i0 = (0 : Nat)) (And (List.map (Enc.enc (encInt IntKind.u8)) (List.flatMap fB (List.take (BlT.i i0) l)) = List.map (Enc.enc (encInt IntKind.u8)) []) (∀ x_1 : Int, (∀ a : x_1 ∈ List.flatMap fB (List.take (BlT.i i0) l), (∀ s : SV, (∀ a_1 : s ∈ Enc.enc (encInt IntKind.u8) x_1, ((SV.isPure s : Bool) = true)))))))) (And ((true : Bool) = true) True)) ((true : Bool) = true)))) (∀ i : BlT l, (∀ a : True, (@Bool.rec (fun _ => Prop) (And (List.length (List.flatMap fB (List.take (BlT.i i) l)) ≤ List.length (List.flatMap fB (List.take (BlT.i i) l))) (And (List.length (List.flatMap fB (List.take (BlT.i i) l)) ≤ BlT.cap i) (And (BlT.cap i = BlT.cap i) (And (∀ y : Int, ((true : Bool) = true)) (∀ x_1 : Value, (∃ l_1 : List Int, (And (List.map (Enc.enc (encInt IntKind.u8)) (List.take (List.length (List.flatMap fB (List.take (BlT.i i) l))) (List.flatMap fB (List.take (BlT.i i) l))) = List.map eB l_1) (And True (∀ o : Unit, (∃ o_1 : Unit, (And (And ((1 : Int) = (1 : Int)) True) (And True ((true : Bool) = true))))))))))))) (And ((0 : Int) ≤ (↑(BlT.i i) : Int)) (∃ hk : Int.toNat (↑(BlT.i i) : Int) < List.length l, (And True (∀ o : Unit, (And (List.length (List.flatMap fB (List.take (BlT.i i) l)) = List.length (List.flatMap fB (List.take (BlT.i i) l))) (And (BlT.cap i = BlT.cap i) (And ((0 : Nat) + (8 : Nat) ≤ (8 : Nat)) (And ((List.length (List.flatMap fB (List.take (BlT.i i) l)) + (8 : Nat)) * (1 : Nat) ≤ (150000000000000 : Nat)) (∀ cap2 : Nat, (∀ a_1 : List.length (List.flatMap fB (List.take (BlT.i i) l)) + (8 : Nat) ≤ cap2, (And (List.length (List.flatMap fB (List.take (BlT.i i) l) ++ castL (encInt IntKind.u8) (encInt IntKind.u8) (List.take (8 : Nat) (List.drop (0 : Nat) (be8 (IntKind.wrap IntKind.u64 (↑(List.length (Prod.snd (Prod.fst l[Int.toNat (↑(BlT.i i) : Int)]))) : Int)))))) = List.length (List.flatMap fB (List.take (BlT.i i) l) ++ castL (encInt IntKind.u8) (encInt IntKind.u8) (List.take (8 : Nat) (List.drop (0 : Nat) (be8 (IntKind.wrap IntKind.u64 (↑(List.length (Prod.snd (Prod.fst l[Int.toNat (↑(BlT.i i) : Int)]))) : Int))))))) (And (cap2 = cap2) (∃ ys : List Int, (And (List.map (Enc.enc (encInt IntKind.u8)) ys = List.map (RK.svs._f [RK.int IntKind.u8] ⟨⟨RK.sv._f (RK.int IntKind.u8) PUnit.unit, PUnit.unit⟩, RK.svs._f [] PUnit.unit, PUnit.unit⟩) (Prod.snd (Prod.fst l[Int.toNat (↑(BlT.i i) : Int)]))) (And ((List.length (List.flatMap fB (List.take (BlT.i i) l) ++ castL (encInt IntKind.u8) (encInt IntKind.u8) (List.take (8 : Nat) (List.drop (0 : Nat) (be8 (IntKind.wrap IntKind.u64 (↑(List.length (Prod.snd (Prod.fst l[Int.toNat (↑(BlT.i i) : Int)]))) : Int)))))) + List.length ys) * (1 : Nat) ≤ (150000000000000 : Nat)) (∀ cap2_1 : Nat, (∀ a_2 : List.length (List.flatMap fB (List.take (BlT.i i) l) ++ castL (encInt IntKind.u8) (encInt IntKind.u8) (List.take (8 : Nat) (List.drop (0 : Nat) (be8 (IntKind.wrap IntKind.u64 (↑(List.length (Prod.snd (Prod.fst l[Int.toNat (↑(BlT.i i) : Int)]))) : Int)))))) + List.length ys ≤ cap2_1, (@Bool.rec (fun _ => Prop) (∃ i' : BlT l, (And (And (List.length l - BlT.i i' < List.length l - BlT.i i) True) (And (And (Value.pointer none = Value.pointer none) (And (SV.view x (1 : Nat) (Enc.enc BE) l = SV.view x (1 : Nat) (Enc.enc BE) l) (And ((0 : Int) = (0 : Int)) (And (And ((true : Bool) = true) (And (List.length (List.flatMap fB (List.take (BlT.i i') l)) = List.length (List.flatMap fB (List.take (BlT.i i) l) ++ castL (encInt IntKind.u8) (encInt IntKind.u8) (List.take (8 : Nat) (List.drop (0 : Nat) (be8 (IntKind.wrap IntKind.u64 (↑(List.length (Prod.snd (Prod.fst l[Int.toNat (↑(BlT.i i) : Int)]))) : Int))))) ++ ys)) (BlT.cap i' = cap2_1))) (And (SV.view x (1 : Nat) (Enc.enc BE) l = SV.view x (1 : Nat) (Enc.enc BE) l) (And ((↑(List.length l) : Int) = (↑(List.length l) : Int)) (And ((↑(BlT.i i') : Int) = IntKind.wrap IntKind.i64 ((↑(BlT.i i) : Int) + (1 : Int))) True))))))) (And (And (And ((true : Bool) = true) (And (BlT.cap i' = cap2_1) (And (List.map (Enc.enc (encInt IntKind.u8)) (List.flatMap fB (List.take (BlT.i i') l)) = List.map (Enc.enc (encInt IntKind.u8)) (List.flatMap fB (List.take (BlT.i i) l) ++ castL (encInt IntKind.u8) (encInt IntKind.u8) (List.take (8 : Nat) (List.drop (0 : Nat) (be8 (IntKind.wrap IntKind.u64 (↑(List.length (Prod.snd (Prod.fst l[Int.toNat (↑(BlT.i i) : Int)]))) : Int))))) ++ ys)) (∀ x_1 : Int, (∀ a_3 : x_1 ∈ List.flatMap fB (List.take (BlT.i i') l), (∀ s : SV, (∀ a_4 : s ∈ Enc.enc (encInt IntKind.u8) x_1, ((SV.isPure s : Bool) = true)))))))) (And ((true : Bool) = true) True)) ((true : Bool) = true))))) (And (List.length (List.flatMap fB (List.take (BlT.i i) l) ++ castL (encInt IntKind.u8) (encInt IntKind.u8) (List.take (8 : Nat) (List.drop (0 : Nat) (be8 (IntKind.wrap IntKind.u64 (↑(List.length (Prod.snd (Prod.fst l[Int.toNat (↑(BlT.i i) : Int)]))) : Int))))) ++ ys) ≤ List.length (List.flatMap fB (List.take (BlT.i i) l) ++ castL (encInt IntKind.u8) (encInt IntKind.u8) (List.take (8 : Nat) (List.drop (0 : Nat) (be8 (IntKind.wrap IntKind.u64 (↑(List.length (Prod.snd (Prod.fst l[Int.toNat (↑(BlT.i i) : Int)]))) : Int))))) ++ ys)) (And (List.length (List.flatMap fB (List.take (BlT.i i) l) ++ castL (encInt IntKind.u8) (encInt IntKind.u8) (List.take (8 : Nat) (List.drop (0 : Nat) (be8 (IntKind.wrap IntKind.u64 (↑(List.length (Prod.snd (Prod.fst l[Int.toNat (↑(BlT.i i) : Int)]))) : Int))))) ++ ys) ≤ cap2_1) (And (cap2_1 = cap2_1) (And (∀ y : Int, ((true : Bool) = true)) (∀ x_1 : Value, (∃ l_1 : List Int, (And (List.map (Enc.enc (encInt IntKind.u8)) (List.take (List.length (List.flatMap fB (List.take (BlT.i i) l) ++ castL (encInt IntKind.u8) (encInt IntKind.u8) (List.take (8 : Nat) (List.drop (0 : Nat) (be8 (IntKind.wrap IntKind.u64 (↑(List.length (Prod.snd (Prod.fst l[Int.toNat (↑(BlT.i i) : Int)]))) : Int))))) ++ ys)) (List.flatMap fB (List.take (BlT.i i) l) ++ castL (encInt IntKind.u8) (encInt IntKind.u8) (List.take (8 : Nat) (List.drop (0 : Nat) (be8 (IntKind.wrap IntKind.u64 (↑(List.length (Prod.snd (Prod.fst l[Int.toNat (↑(BlT.i i) : Int)]))) : Int))))) ++ ys)) = List.map eB l_1) (And True (∀ o_1 : Unit, (∃ o_2 : Unit, (And (And ((1 : Int) = (1 : Int)) True) (And True ((true : Bool) = true))))))))))))) (decide ((65536 : Int) < (↑(List.length (List.flatMap fB (List.take (BlT.i i) l) ++ castL (encInt IntKind.u8) (encInt IntKind.u8) (List.take (8 : Nat) (List.drop (0 : Nat) (be8 (IntKind.wrap IntKind.u64 (↑(List.length (Prod.snd (Prod.fst l[Int.toNat (↑(BlT.i i) : Int)]))) : Int))))) ++ ys)) : Int))))))))))))))))))))) (decide ((↑(BlT.i i) : Int) < (↑(List.length l) : Int))))))))) (by kernel_rfl) ?_
  refine ⟨⟨0, 0, Nat.zero_le _, Nat.le_refl _, Nat.zero_le _⟩, ?_, ?_⟩
  ·
    repeat' first | exact encB_pure _ | exact trivial | refine And.intro ?_ ?_ | with_reducible refine bif_dt (by assumption) ?_ | with_reducible refine bif_df (by assumption) ?_ | with_reducible refine bif_dec (fun _ => ?_) (fun _ => ?_) | with_reducible refine bif_not ?_ | with_reducible refine bif_and ?_ | with_reducible refine bif_or ?_ | with_reducible refine bif_t (by assumption) ?_ | with_reducible refine bif_f (by assumption) ?_ | with_reducible refine bif_t (beq_self_eq_true _) ?_ | with_reducible refine bif_b (fun _ => ?_) (fun _ => ?_) | with_reducible refine ⟨_, Eq.refl (List.map _ _), ?_⟩ | (with_reducible refine Exists.intro (by omega) ?_) | rfl | (intro h0; omega) | omega
  rintro ⟨i, cap1, hi, hc, hs⟩ -
  dsimp only
  refine bif_dec (fun h => ?_) (fun h => ?_)
  · have hi' : i < l.length := by omega
    have h8 := fB_len (l.take i)
    rw [List.length_take, Nat.min_eq_left hi] at h8
    have hy := h5 _ (List.getElem_mem hi')
    have hw : IntKind.u64.wrap (l[i].1.2.length : Int) = ((bl l[i]).length : Int) := by rw [bl_length, wrap_u64]; omega
    have hft : (l.take i).flatMap fB ++ be8 ((bl l[i]).length : Int) ++ bl l[i] = (l.take (i + 1)).flatMap fB := by rw [← flat_take fB l hi', List.append_assoc]; rfl
    have hm2 : ((l.take (i + 1)).flatMap fB).length = ((l.take i).flatMap fB).length + 8 + (bl l[i]).length := by rw [← hft, List.length_append, List.length_append, be8_length]
    have hbl := bl_length l[i]
    simp only [Int.toNat_natCast, t8, castB, inext2 (show i < 9223372036854775807 by omega), hw]
    repeat (with_reducible refine And.intro (by first | exact trivial | omega | decide) ?_)
    refine ⟨hi', trivial, fun _ => ?_⟩
    repeat (with_reducible refine And.intro (by first | exact trivial | omega | decide) ?_)
    intro cap2 hc2
    repeat (with_reducible refine And.intro (by first | exact trivial | omega | decide) ?_)
    refine ⟨bl l[i], bl_enc _, ?_, ?_⟩
    · rw [List.length_append, be8_length]; omega
    rw [hft, List.length_append, be8_length]
    intro cap3 hc3
    refine bif_dec (fun hb => ?_) (fun hb => ?_)
    ·
      repeat (with_reducible refine And.intro (by first | exact trivial | omega | decide | exact fun _ => rfl | exact fun _ => trivial) ?_)
      intro x1
      refine ⟨(l.take (i + 1)).flatMap fB, by rw [List.take_length], ?_⟩
      repeat' first | exact encB_pure _ | (intro o) | (refine Exists.intro () ?_) | exact trivial | refine And.intro ?_ ?_ | with_reducible refine bif_dt (by assumption) ?_ | with_reducible refine bif_df (by assumption) ?_ | with_reducible refine bif_dec (fun _ => ?_) (fun _ => ?_) | with_reducible refine bif_not ?_ | with_reducible refine bif_and ?_ | with_reducible refine bif_or ?_ | with_reducible refine bif_t (by assumption) ?_ | with_reducible refine bif_f (by assumption) ?_ | with_reducible refine bif_t (beq_self_eq_true _) ?_ | with_reducible refine bif_b (fun _ => ?_) (fun _ => ?_) | with_reducible refine ⟨_, Eq.refl (List.map _ _), ?_⟩ | (with_reducible refine Exists.intro (by omega) ?_) | rfl | (intro h0; omega) | omega
    · refine ⟨⟨i + 1, cap3, hi', by omega, by omega⟩, ⟨show l.length - (i + 1) < l.length - i by omega, trivial⟩, ?_⟩
      simp only [hft]
      repeat' first | exact encB_pure _ | exact trivial | refine And.intro ?_ ?_ | with_reducible refine bif_dt (by assumption) ?_ | with_reducible refine bif_df (by assumption) ?_ | with_reducible refine bif_dec (fun _ => ?_) (fun _ => ?_) | with_reducible refine bif_not ?_ | with_reducible refine bif_and ?_ | with_reducible refine bif_or ?_ | with_reducible refine bif_t (by assumption) ?_ | with_reducible refine bif_f (by assumption) ?_ | with_reducible refine bif_t (beq_self_eq_true _) ?_ | with_reducible refine bif_b (fun _ => ?_) (fun _ => ?_) | with_reducible refine ⟨_, Eq.refl (List.map _ _), ?_⟩ | (with_reducible refine Exists.intro (by omega) ?_) | rfl | (intro h0; omega) | omega
  · have hil : i = l.length := by omega
    subst hil
    rw [flat_all fB l (Nat.le_refl _)] at hc ⊢
    repeat (with_reducible refine And.intro (by first | exact trivial | omega | decide | exact fun _ => rfl | exact fun _ => trivial) ?_)
    intro x1
    refine ⟨l.flatMap fB, by rw [List.take_length], ?_⟩
    repeat' first | exact encB_pure _ | (intro o) | (refine Exists.intro () ?_) | exact trivial | refine And.intro ?_ ?_ | with_reducible refine bif_dt (by assumption) ?_ | with_reducible refine bif_df (by assumption) ?_ | with_reducible refine bif_dec (fun _ => ?_) (fun _ => ?_) | with_reducible refine bif_not ?_ | with_reducible refine bif_and ?_ | with_reducible refine bif_or ?_ | with_reducible refine bif_t (by assumption) ?_ | with_reducible refine bif_f (by assumption) ?_ | with_reducible refine bif_t (beq_self_eq_true _) ?_ | with_reducible refine bif_b (fun _ => ?_) (fun _ => ?_) | with_reducible refine ⟨_, Eq.refl (List.map _ _), ?_⟩ | (with_reducible refine Exists.intro (by omega) ?_) | rfl | (intro h0; omega) | omega
def blobNT : MT := fun ms n h K => match ms with
  | [.one (.v (.pointer none)), .one (.view vx0 ve0 en0 vl0)] => bif Nat.beq ve0 1 && noDup [] then ∃ l : List (BTy), vl0.map en0 = l.map eBl ∧ ((∀ y ∈ l, y.1.2.length ≤ 140737488351232)) ∧ (∀ o : Unit, K (n + 0) (int 1) ([] ++ delL [] h)) else False
  | _ => False
theorem blobN_mono : MMono blobNT := by
  intro ms n h K K' hkk hk
  unfold blobNT at hk ⊢
  split at hk
  · rename_i vx0 ve0 va0 en0 vl0
    obtain ⟨hb, y0, z0, h1, h2⟩ := cond_false_elim hk
    rw [hb]
    exact ⟨y0, z0, h1, fun o => hkk _ _ _ (h2 o)⟩
  · exact hk.elim
theorem blobN_ok : MOK Try.prog 41 blobNT := by
  refine ⟨?_, blobN_mono⟩
  intro ms n hB K hk
  unfold blobNT at hk
  split at hk
  · rename_i vx0 ve0 va0 en0 vl0
    obtain ⟨hb, l, he0, h, hk2⟩ := cond_false_elim hk
    clear hk
    simp only [Bool.and_eq_true] at hb
    obtain ⟨hc0, hnd⟩ := hb
    have hs0 := Nat.eq_of_beq_eq_true hc0
    subst hs0
    refine SCall.seen ?_ (.cons (.refl _) (.cons (.view he0) .nil))
    exact (blobN_spec _ h).use (fun _ => 0) rfl rfl trivial hnd (fun j hj => absurd hj (Nat.not_lt_zero j)) (fun o => hk2 o)
  · exact hk.elim

theorem putN_spec (a b c d : Value) {x : It} (hx : ItOk x) : SMem Try.prog 44 [.one (.v (.pointer none)), .agg (itC a b c d x)] 0 [] (fun _ : Unit => ⟨0, int 1, []⟩) := by
  refine SMem.inm [] SOK.nil [(67, uintNT), (68, wideNT), (69, hashNT), (41, blobNT), (70, cpartsT)] (MSOK.cons uintN_ok (MSOK.cons wideN_ok (MSOK.cons hashN_ok (MSOK.cons blobN_ok (MSOK.cons cparts_ok MSOK.nil))))) tok mixed [] IOK.nil false [] [] Try.call44 Try.func44 rfl (by rfl) ?_
  refine Eq.mp (α := (@Bool.rec (fun _ => Prop) (@Bool.rec (fun _ => Prop) (@Bool.rec (fun _ => Prop) (∃ l : List BTy, (And (List.map eBl (It.b x) = List.map eBl l) (And (And (List.length l * (24 : Nat) ≤ (140737488351232 : Nat)) (∀ y : BTy, (∀ a_1 : y ∈ l, (List.length (Prod.snd (Prod.fst y)) ≤ (140737488351232 : Nat))))) (∀ o : PaT l, (And (List.length (PaT.r o) ≤ List.length (PaT.r o)) (And (List.length (PaT.r o) ≤ PaT.cap o) (And (PaT.cap o = PaT.cap o) (And (∀ y : RK.TL [RK.sl (1 : Nat) [RK.int IntKind.u8]], ((true : Bool) = true)) (∀ x_1 : Value, (∃ l_1 : List BTy, (And (List.map (Enc.enc BE) (List.take (List.length (PaT.r o)) (PaT.r o)) = List.map eBl l_1) (And (∀ y : BTy, (∀ a_1 : y ∈ l_1, (List.length (Prod.snd (Prod.fst y)) ≤ (140737488351232 : Nat)))) (∀ o_1 : Unit, (∃ o_2 : Unit, (And (And ((1 : Int) = (1 : Int)) True) (And True ((true : Bool) = true))))))))))))))))) (And ((0 : Nat) = (0 : Nat)) (And ((0 : Nat) = (0 : Nat)) (∃ ys : List (List Int), (And (List.map (Enc.enc (encInts IntKind.u8 (32 : Nat))) ys = List.map eH (It.h x)) (And (((0 : Nat) + List.length ys) * (32 : Nat) ≤ (150000000000000 : Nat)) (∀ cap2 : Nat, (∀ a_1 : (0 : Nat) + List.length ys ≤ cap2, (And ((0 : Nat) + List.length ([] ++ ys) ≤ List.length ([] ++ ys)) (And (List.length ([] ++ ys) ≤ cap2) (And (∀ y : List Int, ((true : Bool) = true)) (∀ x_1 : Value, (∃ l : List (List Int), (And (List.map (Enc.enc (encInts IntKind.u8 (32 : Nat))) (List.take (List.length ([] ++ ys)) (List.drop (0 : Nat) ([] ++ ys))) = List.map eH l) (And (And (List.length l * (32 : Nat) ≤ (140737488351232 : Nat)) (∀ a_2 : List Int, (∀ a_3 : a_2 ∈ l, (List.length a_2 = (32 : Nat))))) (∀ o : Unit, (∃ o_1 : Unit, (And (And ((1 : Int) = (1 : Int)) True) (And True ((true : Bool) = true))))))))))))))))))) (It.k x == (2 : Int))) (And ((0 : Nat) = (0 : Nat)) (And ((0 : Nat) = (0 : Nat)) (∃ ys : List (List Int), (And (List.map (Enc.enc (encInts IntKind.u64 (4 : Nat))) ys = List.map eW (It.w x)) (And (((0 : Nat) + List.length ys) * (32 : Nat) ≤ (150000000000000 : Nat)) (∀ cap2 : Nat, (∀ a_1 : (0 : Nat) + List.length ys ≤ cap2, (And ((0 : Nat) + List.length ([] ++ ys) ≤ List.length ([] ++ ys)) (And (List.length ([] ++ ys) ≤ cap2) (And (∀ y : List Int, ((true : Bool) = true)) (∀ x_1 : Value, (∃ l : List (List Int), (And (List.map (Enc.enc (encInts IntKind.u64 (4 : Nat))) (List.take (List.length ([] ++ ys)) (List.drop (0 : Nat) ([] ++ ys))) = List.map eW l) (And (And (List.length l * (32 : Nat) ≤ (140737488351232 : Nat)) (∀ a_2 : List Int, (∀ a_3 : a_2 ∈ l, (And (List.length a_2 = (4 : Nat)) (∀ x_2 : Int, (∀ a_4 : x_2 ∈ a_2, (And ((0 : Int) ≤ x_2) (x_2 < (↑N64 : Int))))))))) (∀ o : Unit, (∃ o_1 : Unit, (And (And ((1 : Int) = (1 : Int)) True) (And True ((true : Bool) = true))))))))))))))))))) (It.k x == (1 : Int))) (And ((0 : Nat) = (0 : Nat)) (And ((0 : Nat) = (0 : Nat)) (∃ ys : List Int, (And (List.map (Enc.enc (encInt IntKind.u64)) ys = List.map eU (It.u x)) (And (((0 : Nat) + List.length ys) * (8 : Nat) ≤ (150000000000000 : Nat)) (∀ cap2 : Nat, (∀ a_1 : (0 : Nat) + List.length ys ≤ cap2, (And ((0 : Nat) + List.length ([] ++ ys) ≤ List.length ([] ++ ys)) (And (List.length ([] ++ ys) ≤ cap2) (And (∀ y : Int, ((true : Bool) = true)) (∀ x_1 : Value, (∃ l : List Int, (And (List.map (Enc.enc (encInt IntKind.u64)) (List.take (List.length ([] ++ ys)) (List.drop (0 : Nat) ([] ++ ys))) = List.map eU l) (And (List.length l * (8 : Nat) ≤ (140737488351232 : Nat)) (∀ o : Unit, (∃ o_1 : Unit, (And (And ((1 : Int) = (1 : Int)) True) (And True ((true : Bool) = true))))))))))))))))))) (It.k x == (0 : Int)))) (by kernel_rfl) ?_
  have hu := hx.u
  have hw := hx.w
  have hh := hx.h
  have hb := hx.b
  rw [show (x.k == 0) = decide (x.k = 0) from rfl, show (x.k == 1) = decide (x.k = 1) from rfl, show (x.k == 2) = decide (x.k = 2) from rfl]
  refine bif_dec (fun e0 => ?_) (fun e0 => ?_)
  ·
    refine ⟨rfl, rfl, x.u, rfl, by omega, fun cap2 k2 => ?_⟩
    rw [List.nil_append, List.drop_zero, List.take_length]
    refine ⟨by omega, by omega, fun _ => rfl, fun x1 => ⟨x.u, rfl, hu, fun o => ⟨(), ?_⟩⟩⟩
    repeat' first | exact encB_pure _ | exact trivial | refine And.intro ?_ ?_ | with_reducible refine bif_dt (by assumption) ?_ | with_reducible refine bif_df (by assumption) ?_ | with_reducible refine bif_dec (fun _ => ?_) (fun _ => ?_) | with_reducible refine bif_not ?_ | with_reducible refine bif_and ?_ | with_reducible refine bif_or ?_ | with_reducible refine bif_t (by assumption) ?_ | with_reducible refine bif_f (by assumption) ?_ | with_reducible refine bif_t (beq_self_eq_true _) ?_ | with_reducible refine bif_b (fun _ => ?_) (fun _ => ?_) | with_reducible refine ⟨_, Eq.refl (List.map _ _), ?_⟩ | (with_reducible refine Exists.intro (by omega) ?_) | rfl | (intro h0; omega) | omega
  refine bif_dec (fun e1 => ?_) (fun e1 => ?_)
  ·
    refine ⟨rfl, rfl, x.w, rfl, by omega, fun cap2 k2 => ?_⟩
    rw [List.nil_append, List.drop_zero, List.take_length]
    refine ⟨by omega, by omega, fun _ => rfl, fun x1 => ⟨x.w, rfl, ⟨hw, hx.wd⟩, fun o => ⟨(), ?_⟩⟩⟩
    repeat' first | exact encB_pure _ | exact trivial | refine And.intro ?_ ?_ | with_reducible refine bif_dt (by assumption) ?_ | with_reducible refine bif_df (by assumption) ?_ | with_reducible refine bif_dec (fun _ => ?_) (fun _ => ?_) | with_reducible refine bif_not ?_ | with_reducible refine bif_and ?_ | with_reducible refine bif_or ?_ | with_reducible refine bif_t (by assumption) ?_ | with_reducible refine bif_f (by assumption) ?_ | with_reducible refine bif_t (beq_self_eq_true _) ?_ | with_reducible refine bif_b (fun _ => ?_) (fun _ => ?_) | with_reducible refine ⟨_, Eq.refl (List.map _ _), ?_⟩ | (with_reducible refine Exists.intro (by omega) ?_) | rfl | (intro h0; omega) | omega
  refine bif_dec (fun e2 => ?_) (fun e2 => ?_)
  ·
    refine ⟨rfl, rfl, x.h, rfl, by omega, fun cap2 k2 => ?_⟩
    rw [List.nil_append, List.drop_zero, List.take_length]
    refine ⟨by omega, by omega, fun _ => rfl, fun x1 => ⟨x.h, rfl, ⟨hh, hx.hl⟩, fun o => ⟨(), ?_⟩⟩⟩
    repeat' first | exact encB_pure _ | exact trivial | refine And.intro ?_ ?_ | with_reducible refine bif_dt (by assumption) ?_ | with_reducible refine bif_df (by assumption) ?_ | with_reducible refine bif_dec (fun _ => ?_) (fun _ => ?_) | with_reducible refine bif_not ?_ | with_reducible refine bif_and ?_ | with_reducible refine bif_or ?_ | with_reducible refine bif_t (by assumption) ?_ | with_reducible refine bif_f (by assumption) ?_ | with_reducible refine bif_t (beq_self_eq_true _) ?_ | with_reducible refine bif_b (fun _ => ?_) (fun _ => ?_) | with_reducible refine ⟨_, Eq.refl (List.map _ _), ?_⟩ | (with_reducible refine Exists.intro (by omega) ?_) | rfl | (intro h0; omega) | omega
  · refine ⟨x.b, rfl, ⟨hb, hx.bl⟩, ?_⟩
    rintro ⟨r, cap2, hc, he⟩
    dsimp only
    rw [List.take_length]
    refine ⟨by omega, hc, rfl, fun _ => rfl, fun x1 => ⟨r, rfl, len_bl he hx.bl, fun o => ⟨(), ?_⟩⟩⟩
    repeat' first | exact encB_pure _ | exact trivial | refine And.intro ?_ ?_ | with_reducible refine bif_dt (by assumption) ?_ | with_reducible refine bif_df (by assumption) ?_ | with_reducible refine bif_dec (fun _ => ?_) (fun _ => ?_) | with_reducible refine bif_not ?_ | with_reducible refine bif_and ?_ | with_reducible refine bif_or ?_ | with_reducible refine bif_t (by assumption) ?_ | with_reducible refine bif_f (by assumption) ?_ | with_reducible refine bif_t (beq_self_eq_true _) ?_ | with_reducible refine bif_b (fun _ => ?_) (fun _ => ?_) | with_reducible refine ⟨_, Eq.refl (List.map _ _), ?_⟩ | (with_reducible refine Exists.intro (by omega) ?_) | rfl | (intro h0; omega) | omega
def putNT : MT := fun ms n h K => match ms with
  | [.one (.v (.pointer none)), .agg [.v (.int .i64 k), .view vx0 ve0 en0 vl0, .view vx1 ve1 en1 vl1, .view vx2 ve2 en2 vl2, .view vx3 ve3 en3 vl3]] => bif Nat.beq ve0 1 && Nat.beq ve1 4 && Nat.beq ve2 32 && Nat.beq ve3 1 && noDup [] then ∃ u : List (Int), vl0.map en0 = u.map eU ∧ ∃ v : List (List Int), vl1.map en1 = v.map eW ∧ ∃ w : List (List Int), vl2.map en2 = w.map eH ∧ ∃ z : List (BTy), vl3.map en3 = z.map eBl ∧ (ItOk ⟨k, u, v, w, z⟩) ∧ (∀ o : Unit, K (n + 0) (int 1) ([] ++ delL [] h)) else False
  | _ => False
theorem putN_mono : MMono putNT := by
  intro ms n h K K' hkk hk
  unfold putNT at hk ⊢
  split at hk
  · rename_i k vx0 ve0 va0 en0 vl0 vx1 ve1 va1 en1 vl1 vx2 ve2 va2 en2 vl2 vx3 ve3 va3 en3 vl3
    obtain ⟨hb, y0, z0, y1, z1, y2, z2, y3, z3, h1, h2⟩ := cond_false_elim hk
    rw [hb]
    exact ⟨y0, z0, y1, z1, y2, z2, y3, z3, h1, fun o => hkk _ _ _ (h2 o)⟩
  · exact hk.elim
theorem putN_ok : MOK Try.prog 44 putNT := by
  refine ⟨?_, putN_mono⟩
  intro ms n hB K hk
  unfold putNT at hk
  split at hk
  · rename_i k vx0 ve0 va0 en0 vl0 vx1 ve1 va1 en1 vl1 vx2 ve2 va2 en2 vl2 vx3 ve3 va3 en3 vl3
    obtain ⟨hb, u, he0, v, he1, w, he2, z, he3, h, hk2⟩ := cond_false_elim hk
    clear hk
    simp only [Bool.and_eq_true] at hb
    obtain ⟨⟨⟨⟨hc0, hc1⟩, hc2⟩, hc3⟩, hnd⟩ := hb
    have hs0 := Nat.eq_of_beq_eq_true hc0
    subst hs0
    have hs1 := Nat.eq_of_beq_eq_true hc1
    subst hs1
    have hs2 := Nat.eq_of_beq_eq_true hc2
    subst hs2
    have hs3 := Nat.eq_of_beq_eq_true hc3
    subst hs3
    refine SCall.seen ?_ (.cons (.refl _) (.cons (.agg (.refl (.view he0 (.view he1 (.view he2 (.view he3 .nil)))))) .nil))
    exact (putN_spec vx0 vx1 vx2 vx3 h).use (fun _ => 0) rfl rfl trivial hnd (fun j hj => absurd hj (Nat.not_lt_zero j)) (fun o => hk2 o)
  · exact hk.elim

def uintUT : MT := fun ms n h K => match ms with
  | [.one (.ptr P0 0), .one (.view vx0 ve0 en0 vl0)] => (match get h P0 with
    | some (.cells [.v (.slice none 0 0), .v (.bool false), .v (.int .i64 0)]) => bif Nat.beq ve0 1 && noDup [P0] then ∃ l : List (Int), vl0.map en0 = l.map eU ∧ ((l.length * 8 ≤ 140737488351232)) ∧ (∀ o : Unit, K (n + 0) (int 1) ([(P0, unC)] ++ delL [P0] h)) else False
    | _ => False)
  | _ => False
theorem uintU_mono : MMono uintUT := by
  intro ms n h K K' hkk hk
  unfold uintUT at hk ⊢
  split at hk
  · rename_i P0 vx0 ve0 va0 en0 vl0
    split at hk
    · rename_i  hg0
      try simp only [hg0]
      obtain ⟨hb, y0, z0, h1, h2⟩ := cond_false_elim hk
      rw [hb]
      exact ⟨y0, z0, h1, fun o => hkk _ _ _ (h2 o)⟩
    · exact hk.elim
  · exact hk.elim
theorem uintU_ok : MOK Try.prog 67 uintUT := by
  refine ⟨?_, uintU_mono⟩
  intro ms n hB K hk
  unfold uintUT at hk
  split at hk
  · rename_i P0 vx0 ve0 va0 en0 vl0
    split at hk
    · rename_i  hg0
      obtain ⟨hb, l, he0, h, hk2⟩ := cond_false_elim hk
      clear hk
      simp only [Bool.and_eq_true] at hb
      obtain ⟨hc0, hnd⟩ := hb
      have hs0 := Nat.eq_of_beq_eq_true hc0
      subst hs0
      refine SCall.seen ?_ (.cons (.refl _) (.cons (.view he0) .nil))
      exact (uintU_spec _ h).use (fun j => match j with | 0 => P0 | _ => 0) rfl rfl ⟨by show (match get hB P0 with | some b0 => Blk.imp _ _ _ b0 | none => False); rw [hg0]; exact ⟨rfl, rfl⟩, rfl, trivial⟩ hnd (fun j hj => by cases j with
          | zero => exact ⟨_, rfl⟩
          | succ j => omega) (fun o => hk2 o)
    · exact hk.elim
  · exact hk.elim

def wideUT : MT := fun ms n h K => match ms with
  | [.one (.ptr P0 0), .one (.view vx0 ve0 en0 vl0)] => (match get h P0 with
    | some (.cells [.v (.slice none 0 0), .v (.bool false), .v (.int .i64 0)]) => bif Nat.beq ve0 4 && noDup [P0] then ∃ l : List (List Int), vl0.map en0 = l.map eW ∧ ((l.length * 32 ≤ 140737488351232 ∧ ∀ a ∈ l, L4 a)) ∧ (∀ o : Unit, K (n + 0) (int 1) ([(P0, unC)] ++ delL [P0] h)) else False
    | _ => False)
  | _ => False
theorem wideU_mono : MMono wideUT := by
  intro ms n h K K' hkk hk
  unfold wideUT at hk ⊢
  split at hk
  · rename_i P0 vx0 ve0 va0 en0 vl0
    split at hk
    · rename_i  hg0
      try simp only [hg0]
      obtain ⟨hb, y0, z0, h1, h2⟩ := cond_false_elim hk
      rw [hb]
      exact ⟨y0, z0, h1, fun o => hkk _ _ _ (h2 o)⟩
    · exact hk.elim
  · exact hk.elim
theorem wideU_ok : MOK Try.prog 68 wideUT := by
  refine ⟨?_, wideU_mono⟩
  intro ms n hB K hk
  unfold wideUT at hk
  split at hk
  · rename_i P0 vx0 ve0 va0 en0 vl0
    split at hk
    · rename_i  hg0
      obtain ⟨hb, l, he0, h, hk2⟩ := cond_false_elim hk
      clear hk
      simp only [Bool.and_eq_true] at hb
      obtain ⟨hc0, hnd⟩ := hb
      have hs0 := Nat.eq_of_beq_eq_true hc0
      subst hs0
      refine SCall.seen ?_ (.cons (.refl _) (.cons (.view he0) .nil))
      exact (wideU_spec _ h.1 h.2).use (fun j => match j with | 0 => P0 | _ => 0) rfl rfl ⟨by show (match get hB P0 with | some b0 => Blk.imp _ _ _ b0 | none => False); rw [hg0]; exact ⟨rfl, rfl⟩, rfl, trivial⟩ hnd (fun j hj => by cases j with
          | zero => exact ⟨_, rfl⟩
          | succ j => omega) (fun o => hk2 o)
    · exact hk.elim
  · exact hk.elim

def hashUT : MT := fun ms n h K => match ms with
  | [.one (.ptr P0 0), .one (.view vx0 ve0 en0 vl0)] => (match get h P0 with
    | some (.cells [.v (.slice none 0 0), .v (.bool false), .v (.int .i64 0)]) => bif Nat.beq ve0 32 && noDup [P0] then ∃ l : List (List Int), vl0.map en0 = l.map eH ∧ ((l.length * 32 ≤ 140737488351232 ∧ ∀ a ∈ l, a.length = 32)) ∧ (∀ o : Unit, K (n + 0) (int 1) ([(P0, unC)] ++ delL [P0] h)) else False
    | _ => False)
  | _ => False
theorem hashU_mono : MMono hashUT := by
  intro ms n h K K' hkk hk
  unfold hashUT at hk ⊢
  split at hk
  · rename_i P0 vx0 ve0 va0 en0 vl0
    split at hk
    · rename_i  hg0
      try simp only [hg0]
      obtain ⟨hb, y0, z0, h1, h2⟩ := cond_false_elim hk
      rw [hb]
      exact ⟨y0, z0, h1, fun o => hkk _ _ _ (h2 o)⟩
    · exact hk.elim
  · exact hk.elim
theorem hashU_ok : MOK Try.prog 69 hashUT := by
  refine ⟨?_, hashU_mono⟩
  intro ms n hB K hk
  unfold hashUT at hk
  split at hk
  · rename_i P0 vx0 ve0 va0 en0 vl0
    split at hk
    · rename_i  hg0
      obtain ⟨hb, l, he0, h, hk2⟩ := cond_false_elim hk
      clear hk
      simp only [Bool.and_eq_true] at hb
      obtain ⟨hc0, hnd⟩ := hb
      have hs0 := Nat.eq_of_beq_eq_true hc0
      subst hs0
      refine SCall.seen ?_ (.cons (.refl _) (.cons (.view he0) .nil))
      exact (hashU_spec _ h.1 h.2).use (fun j => match j with | 0 => P0 | _ => 0) rfl rfl ⟨by show (match get hB P0 with | some b0 => Blk.imp _ _ _ b0 | none => False); rw [hg0]; exact ⟨rfl, rfl⟩, rfl, trivial⟩ hnd (fun j hj => by cases j with
          | zero => exact ⟨_, rfl⟩
          | succ j => omega) (fun o => hk2 o)
    · exact hk.elim
  · exact hk.elim

theorem blobU_spec (x : Value) {l : List BTy} (h5 : ∀ y ∈ l, y.1.2.length ≤ 140737488351232) : SMem Try.prog 41 [.one (.ptr 0 0), bV x l] 1 [(0, unC)] (fun _ : Unit => ⟨1, int 1, [(0, unC)]⟩) := by
  refine SMem.inm [] SOK.nil [(62, eightT), (63, allUT)] (MSOK.cons eight_ok (MSOK.cons allU_ok MSOK.nil)) tok mixed [] IOK.nil false [(3, ⟨BlT l, fun p => ⟨2, [(0, .one (.ptr 0 0)), (1, bV x l), (4, int 0), (5, .one (.nslc 1 1 ((l.take p.i).flatMap fB).length p.cap)), (8, bV x l), (9, int l.length), (10, int p.i)], [(0, unC), (1, .row 1 (encInt .u8) ((l.take p.i).flatMap fB) p.cap)]⟩, fun p => l.length - p.i, fun _ _ => True⟩)] [] Try.call41 Try.func41 rfl (by rfl) ?_
  refine Eq.mp (α := (∃ i0 : BlT l, (And (And True (And (And (And ((true : Bool) = true) ((0 : Nat) = (0 : Nat))) (And (SV.view x (1 : Nat) (Enc.enc BE) l = SV.view x (1 : Nat) (Enc.enc BE) l) (And ((0 : Int) = (0 : Int)) (And (And ((true : Bool) = true) (And (List.length (List.flatMap fB (List.take (BlT.i i0) l)) = (0 : Nat)) (BlT.cap i0 = (0 : Nat)))) (And (SV.view x (1 : Nat) (Enc.enc BE) l = SV.view x (1 : Nat) (Enc.enc BE) l) (And ((↑(List.length l) : Int) = (↑(List.length l) : Int)) (And ((↑(BlT.i i0) : Int) = (0 : Int)) True))))))) (And (And (And (Value.slice none (0 : Nat) (0 : Nat) = Value.slice none (0 : Nat) (0 : Nat)) (And ((false : Bool) = false) (And ((0 : Int) = (0 : Int)) True))) (And ((true : Bool) = true) (And (And ((true : Bool) = true) (And (BlT.cap i0 = (0 : Nat)) (And (List.map (Enc.enc (encInt IntKind.u8)) (List.flatMap fB (List.take (BlT.i i0) l)) = List.map (Enc.enc (encInt IntKind.u8)) []) (∀ x_1 : Int, (∀ a : x_1 ∈ List.flatMap fB (List.take (BlT.i i0) l), (∀ s : SV, (∀ a_1 : s ∈ Enc.enc (encInt IntKind.u8) x_1, ((SV.isPure s : Bool) = true)))))))) (And ((true : Bool) = true) True)))) ((true : Bool) = true)))) (∀ i : BlT l, (∀ a : True, (@Bool.rec (fun _ => Prop) (And (List.length (List.flatMap fB (List.take (BlT.i i) l)) ≤ List.length (List.flatMap fB (List.take (BlT.i i) l))) (And (List.length (List.flatMap fB (List.take (BlT.i i) l)) ≤ BlT.cap i) (And (BlT.cap i = BlT.cap i) (And (∀ y : Int, ((true : Bool) = true)) (∀ x_1 : Value, (∃ l_1 : List Int, (And (List.map (Enc.enc (encInt IntKind.u8)) (List.take (List.length (List.flatMap fB (List.take (BlT.i i) l))) (List.flatMap fB (List.take (BlT.i i) l))) = List.map eB l_1) (And True (∀ o : Unit, (∃ o_1 : Unit, (And (And ((1 : Int) = (1 : Int)) True) (And (And (And (Value.slice none (0 : Nat) (0 : Nat) = Value.slice none (0 : Nat) (0 : Nat)) (And ((false : Bool) = false) (And ((0 : Int) = (0 : Int)) True))) (And ((true : Bool) = true) True)) ((true : Bool) = true))))))))))))) (And ((0 : Int) ≤ (↑(BlT.i i) : Int)) (∃ hk : Int.toNat (↑(BlT.i i) : Int) < List.length l, (And True (∀ o : Unit, (And (List.length (List.flatMap fB (List.take (BlT.i i) l)) = List.length (List.flatMap fB (List.take (BlT.i i) l))) (And (BlT.cap i = BlT.cap i) (And ((0 : Nat) + (8 : Nat) ≤ (8 : Nat)) (And ((List.length (List.flatMap fB (List.take (BlT.i i) l)) + (8 : Nat)) * (1 : Nat) ≤ (150000000000000 : Nat)) (∀ cap2 : Nat, (∀ a_1 : List.length (List.flatMap fB (List.take (BlT.i i) l)) + (8 : Nat) ≤ cap2, (And (List.length (List.flatMap fB (List.take (BlT.i i) l) ++ castL (encInt IntKind.u8) (encInt IntKind.u8) (List.take (8 : Nat) (List.drop (0 : Nat) (be8 (IntKind.wrap IntKind.u64 (↑(List.length (Prod.snd (Prod.fst l[Int.toNat (↑(BlT.i i) : Int)]))) : Int)))))) = List.length (List.flatMap fB (List.take (BlT.i i) l) ++ castL (encInt IntKind.u8) (encInt IntKind.u8) (List.take (8 : Nat) (List.drop (0 : Nat) (be8 (IntKind.wrap IntKind.u64 (↑(List.length (Prod.snd (Prod.fst l[Int.toNat (↑(BlT.i i) : Int)]))) : Int))))))) (And (cap2 = cap2) (∃ ys : List Int, (And (List.map (Enc.enc (encInt IntKind.u8)) ys = List.map (RK.svs._f [RK.int IntKind.u8] ⟨⟨RK.sv._f (RK.int IntKind.u8) PUnit.unit, PUnit.unit⟩, RK.svs._f [] PUnit.unit, PUnit.unit⟩) (Prod.snd (Prod.fst l[Int.toNat (↑(BlT.i i) : Int)]))) (And ((List.length (List.flatMap fB (List.take (BlT.i i) l) ++ castL (encInt IntKind.u8) (encInt IntKind.u8) (List.take (8 : Nat) (List.drop (0 : Nat) (be8 (IntKind.wrap IntKind.u64 (↑(List.length (Prod.snd (Prod.fst l[Int.toNat (↑(BlT.i i) : Int)]))) : Int)))))) + List.length ys) * (1 : Nat) ≤ (150000000000000 : Nat)) (∀ cap2_1 : Nat, (∀ a_2 : List.length (List.flatMap fB (List.take (BlT.i i) l) ++ castL (encInt IntKind.u8) (encInt IntKind.u8) (List.take (8 : Nat) (List.drop (0 : Nat) (be8 (IntKind.wrap IntKind.u64 (↑(List.length (Prod.snd (Prod.fst l[Int.toNat (↑(BlT.i i) : Int)]))) : Int)))))) + List.length ys ≤ cap2_1, (@Bool.rec (fun _ => Prop) (∃ i' : BlT l, (And (And (List.length l - BlT.i i' < List.length l - BlT.i i) True) (And (And (And ((true : Bool) = true) ((0 : Nat) = (0 : Nat))) (And (SV.view x (1 : Nat) (Enc.enc BE) l = SV.view x (1 : Nat) (Enc.enc BE) l) (And ((0 : Int) = (0 : Int)) (And (And ((true : Bool) = true) (And (List.length (List.flatMap fB (List.take (BlT.i i') l)) = List.length (List.flatMap fB (List.take (BlT.i i) l) ++ castL (encInt IntKind.u8) (encInt IntKind.u8) (List.take (8 : Nat) (List.drop (0 : Nat) (be8 (IntKind.wrap IntKind.u64 (↑(List.length (Prod.snd (Prod.fst l[Int.toNat (↑(BlT.i i) : Int)]))) : Int))))) ++ ys)) (BlT.cap i' = cap2_1))) (And (SV.view x (1 : Nat) (Enc.enc BE) l = SV.view x (1 : Nat) (Enc.enc BE) l) (And ((↑(List.length l) : Int) = (↑(List.length l) : Int)) (And ((↑(BlT.i i') : Int) = IntKind.wrap IntKind.i64 ((↑(BlT.i i) : Int) + (1 : Int))) True))))))) (And (And (And (Value.slice none (0 : Nat) (0 : Nat) = Value.slice none (0 : Nat) (0 : Nat)) (And ((false : Bool) = false) (And ((0 : Int) = (0 : Int)) True))) (And ((true : Bool) = true) (And (And ((true : Bool) = true) (And (BlT.cap i' = cap2_1) (And (List.map (Enc.enc (encInt IntKind.u8)) (List.flatMap fB (List.take (BlT.i i') l)) = List.map (Enc.enc (encInt IntKind.u8)) (List.flatMap fB (List.take (BlT.i i) l) ++ castL (encInt IntKind.u8) (encInt IntKind.u8) (List.take (8 : Nat) (List.drop (0 : Nat) (be8 (IntKind.wrap IntKind.u64 (↑(List.length (Prod.snd (Prod.fst l[Int.toNat (↑(BlT.i i) : Int)]))) : Int))))) ++ ys)) (∀ x_1 : Int, (∀ a_3 : x_1 ∈ List.flatMap fB (List.take (BlT.i i') l), (∀ s : SV, (∀ a_4 : s ∈ Enc.enc (encInt IntKind.u8) x_1, ((SV.isPure s : Bool) = true)))))))) (And ((true : Bool) = true) True)))) ((true : Bool) = true))))) (And (List.length (List.flatMap fB (List.take (BlT.i i) l) ++ castL (encInt IntKind.u8) (encInt IntKind.u8) (List.take (8 : Nat) (List.drop (0 : Nat) (be8 (IntKind.wrap IntKind.u64 (↑(List.length (Prod.snd (Prod.fst l[Int.toNat (↑(BlT.i i) : Int)]))) : Int))))) ++ ys) ≤ List.length (List.flatMap fB (List.take (BlT.i i) l) ++ castL (encInt IntKind.u8) (encInt IntKind.u8) (List.take (8 : Nat) (List.drop (0 : Nat) (be8 (IntKind.wrap IntKind.u64 (↑(List.length (Prod.snd (Prod.fst l[Int.toNat (↑(BlT.i i) : Int)]))) : Int))))) ++ ys)) (And (List.length (List.flatMap fB (List.take (BlT.i i) l) ++ castL (encInt IntKind.u8) (encInt IntKind.u8) (List.take (8 : Nat) (List.drop (0 : Nat) (be8 (IntKind.wrap IntKind.u64 (↑(List.length (Prod.snd (Prod.fst l[Int.toNat (↑(BlT.i i) : Int)]))) : Int))))) ++ ys) ≤ cap2_1) (And (cap2_1 = cap2_1) (And (∀ y : Int, ((true : Bool) = true)) (∀ x_1 : Value, (∃ l_1 : List Int, (And (List.map (Enc.enc (encInt IntKind.u8)) (List.take (List.length (List.flatMap fB (List.take (BlT.i i) l) ++ castL (encInt IntKind.u8) (encInt IntKind.u8) (List.take (8 : Nat) (List.drop (0 : Nat) (be8 (IntKind.wrap IntKind.u64 (↑(List.length (Prod.snd (Prod.fst l[Int.toNat (↑(BlT.i i) : Int)]))) : Int))))) ++ ys)) (List.flatMap fB (List.take (BlT.i i) l) ++ castL (encInt IntKind.u8) (encInt IntKind.u8) (List.take (8 : Nat) (List.drop (0 : Nat) (be8 (IntKind.wrap IntKind.u64 (↑(List.length (Prod.snd (Prod.fst l[Int.toNat (↑(BlT.i i) : Int)]))) : Int))))) ++ ys)) = List.map eB l_1) (And True (∀ o_1 : Unit, (∃ o_2 : Unit, (And (And ((1 : Int) = (1 : Int)) True) (And (And (And (Value.slice none (0 : Nat) (0 : Nat) = Value.slice none (0 : Nat) (0 : Nat)) (And ((false : Bool) = false) (And ((0 : Int) = (0 : Int)) True))) (And ((true : Bool) = true) True)) ((true : Bool) = true))))))))))))) (decide ((65536 : Int) < (↑(List.length (List.flatMap fB (List.take (BlT.i i) l) ++ castL (encInt IntKind.u8) (encInt IntKind.u8) (List.take (8 : Nat) (List.drop (0 : Nat) (be8 (IntKind.wrap IntKind.u64 (↑(List.length (Prod.snd (Prod.fst l[Int.toNat (↑(BlT.i i) : Int)]))) : Int))))) ++ ys)) : Int))))))))))))))))))))) (decide ((↑(BlT.i i) : Int) < (↑(List.length l) : Int))))))))) (by kernel_rfl) ?_
  refine ⟨⟨0, 0, Nat.zero_le _, Nat.le_refl _, Nat.zero_le _⟩, ?_, ?_⟩
  ·
    repeat' first | exact encB_pure _ | exact trivial | refine And.intro ?_ ?_ | with_reducible refine bif_dt (by assumption) ?_ | with_reducible refine bif_df (by assumption) ?_ | with_reducible refine bif_dec (fun _ => ?_) (fun _ => ?_) | with_reducible refine bif_not ?_ | with_reducible refine bif_and ?_ | with_reducible refine bif_or ?_ | with_reducible refine bif_t (by assumption) ?_ | with_reducible refine bif_f (by assumption) ?_ | with_reducible refine bif_t (beq_self_eq_true _) ?_ | with_reducible refine bif_b (fun _ => ?_) (fun _ => ?_) | with_reducible refine ⟨_, Eq.refl (List.map _ _), ?_⟩ | (with_reducible refine Exists.intro (by omega) ?_) | rfl | (intro h0; omega) | omega
  rintro ⟨i, cap1, hi, hc, hs⟩ -
  dsimp only
  refine bif_dec (fun h => ?_) (fun h => ?_)
  · have hi' : i < l.length := by omega
    have h8 := fB_len (l.take i)
    rw [List.length_take, Nat.min_eq_left hi] at h8
    have hy := h5 _ (List.getElem_mem hi')
    have hw : IntKind.u64.wrap (l[i].1.2.length : Int) = ((bl l[i]).length : Int) := by rw [bl_length, wrap_u64]; omega
    have hft : (l.take i).flatMap fB ++ be8 ((bl l[i]).length : Int) ++ bl l[i] = (l.take (i + 1)).flatMap fB := by rw [← flat_take fB l hi', List.append_assoc]; rfl
    have hm2 : ((l.take (i + 1)).flatMap fB).length = ((l.take i).flatMap fB).length + 8 + (bl l[i]).length := by rw [← hft, List.length_append, List.length_append, be8_length]
    have hbl := bl_length l[i]
    simp only [Int.toNat_natCast, t8, castB, inext2 (show i < 9223372036854775807 by omega), hw]
    repeat (with_reducible refine And.intro (by first | exact trivial | omega | decide) ?_)
    refine ⟨hi', trivial, fun _ => ?_⟩
    repeat (with_reducible refine And.intro (by first | exact trivial | omega | decide) ?_)
    intro cap2 hc2
    repeat (with_reducible refine And.intro (by first | exact trivial | omega | decide) ?_)
    refine ⟨bl l[i], bl_enc _, ?_, ?_⟩
    · rw [List.length_append, be8_length]; omega
    rw [hft, List.length_append, be8_length]
    intro cap3 hc3
    refine bif_dec (fun hb => ?_) (fun hb => ?_)
    ·
      repeat (with_reducible refine And.intro (by first | exact trivial | omega | decide | exact fun _ => rfl | exact fun _ => trivial) ?_)
      intro x1
      refine ⟨(l.take (i + 1)).flatMap fB, by rw [List.take_length], ?_⟩
      repeat' first | exact encB_pure _ | (intro o) | (refine Exists.intro () ?_) | exact trivial | refine And.intro ?_ ?_ | with_reducible refine bif_dt (by assumption) ?_ | with_reducible refine bif_df (by assumption) ?_ | with_reducible refine bif_dec (fun _ => ?_) (fun _ => ?_) | with_reducible refine bif_not ?_ | with_reducible refine bif_and ?_ | with_reducible refine bif_or ?_ | with_reducible refine bif_t (by assumption) ?_ | with_reducible refine bif_f (by assumption) ?_ | with_reducible refine bif_t (beq_self_eq_true _) ?_ | with_reducible refine bif_b (fun _ => ?_) (fun _ => ?_) | with_reducible refine ⟨_, Eq.refl (List.map _ _), ?_⟩ | (with_reducible refine Exists.intro (by omega) ?_) | rfl | (intro h0; omega) | omega
    · refine ⟨⟨i + 1, cap3, hi', by omega, by omega⟩, ⟨show l.length - (i + 1) < l.length - i by omega, trivial⟩, ?_⟩
      simp only [hft]
      repeat' first | exact encB_pure _ | exact trivial | refine And.intro ?_ ?_ | with_reducible refine bif_dt (by assumption) ?_ | with_reducible refine bif_df (by assumption) ?_ | with_reducible refine bif_dec (fun _ => ?_) (fun _ => ?_) | with_reducible refine bif_not ?_ | with_reducible refine bif_and ?_ | with_reducible refine bif_or ?_ | with_reducible refine bif_t (by assumption) ?_ | with_reducible refine bif_f (by assumption) ?_ | with_reducible refine bif_t (beq_self_eq_true _) ?_ | with_reducible refine bif_b (fun _ => ?_) (fun _ => ?_) | with_reducible refine ⟨_, Eq.refl (List.map _ _), ?_⟩ | (with_reducible refine Exists.intro (by omega) ?_) | rfl | (intro h0; omega) | omega
  · have hil : i = l.length := by omega
    subst hil
    rw [flat_all fB l (Nat.le_refl _)] at hc ⊢
    repeat (with_reducible refine And.intro (by first | exact trivial | omega | decide | exact fun _ => rfl | exact fun _ => trivial) ?_)
    intro x1
    refine ⟨l.flatMap fB, by rw [List.take_length], ?_⟩
    repeat' first | exact encB_pure _ | (intro o) | (refine Exists.intro () ?_) | exact trivial | refine And.intro ?_ ?_ | with_reducible refine bif_dt (by assumption) ?_ | with_reducible refine bif_df (by assumption) ?_ | with_reducible refine bif_dec (fun _ => ?_) (fun _ => ?_) | with_reducible refine bif_not ?_ | with_reducible refine bif_and ?_ | with_reducible refine bif_or ?_ | with_reducible refine bif_t (by assumption) ?_ | with_reducible refine bif_f (by assumption) ?_ | with_reducible refine bif_t (beq_self_eq_true _) ?_ | with_reducible refine bif_b (fun _ => ?_) (fun _ => ?_) | with_reducible refine ⟨_, Eq.refl (List.map _ _), ?_⟩ | (with_reducible refine Exists.intro (by omega) ?_) | rfl | (intro h0; omega) | omega
def blobUT : MT := fun ms n h K => match ms with
  | [.one (.ptr P0 0), .one (.view vx0 ve0 en0 vl0)] => (match get h P0 with
    | some (.cells [.v (.slice none 0 0), .v (.bool false), .v (.int .i64 0)]) => bif Nat.beq ve0 1 && noDup [P0] then ∃ l : List (BTy), vl0.map en0 = l.map eBl ∧ ((∀ y ∈ l, y.1.2.length ≤ 140737488351232)) ∧ (∀ o : Unit, K (n + 0) (int 1) ([(P0, unC)] ++ delL [P0] h)) else False
    | _ => False)
  | _ => False
theorem blobU_mono : MMono blobUT := by
  intro ms n h K K' hkk hk
  unfold blobUT at hk ⊢
  split at hk
  · rename_i P0 vx0 ve0 va0 en0 vl0
    split at hk
    · rename_i  hg0
      try simp only [hg0]
      obtain ⟨hb, y0, z0, h1, h2⟩ := cond_false_elim hk
      rw [hb]
      exact ⟨y0, z0, h1, fun o => hkk _ _ _ (h2 o)⟩
    · exact hk.elim
  · exact hk.elim
theorem blobU_ok : MOK Try.prog 41 blobUT := by
  refine ⟨?_, blobU_mono⟩
  intro ms n hB K hk
  unfold blobUT at hk
  split at hk
  · rename_i P0 vx0 ve0 va0 en0 vl0
    split at hk
    · rename_i  hg0
      obtain ⟨hb, l, he0, h, hk2⟩ := cond_false_elim hk
      clear hk
      simp only [Bool.and_eq_true] at hb
      obtain ⟨hc0, hnd⟩ := hb
      have hs0 := Nat.eq_of_beq_eq_true hc0
      subst hs0
      refine SCall.seen ?_ (.cons (.refl _) (.cons (.view he0) .nil))
      exact (blobU_spec _ h).use (fun j => match j with | 0 => P0 | _ => 0) rfl rfl ⟨by show (match get hB P0 with | some b0 => Blk.imp _ _ _ b0 | none => False); rw [hg0]; exact ⟨rfl, rfl⟩, rfl, trivial⟩ hnd (fun j hj => by cases j with
          | zero => exact ⟨_, rfl⟩
          | succ j => omega) (fun o => hk2 o)
    · exact hk.elim
  · exact hk.elim

theorem putU_spec (a b c d : Value) {x : It} (hx : ItOk x) : SMem Try.prog 44 [.one (.ptr 0 0), .agg (itC a b c d x)] 1 [(0, unC)] (fun _ : Unit => ⟨1, int 1, [(0, unC)]⟩) := by
  refine SMem.inm [] SOK.nil [(67, uintUT), (68, wideUT), (69, hashUT), (41, blobUT), (70, cpartsT)] (MSOK.cons uintU_ok (MSOK.cons wideU_ok (MSOK.cons hashU_ok (MSOK.cons blobU_ok (MSOK.cons cparts_ok MSOK.nil))))) tok mixed [] IOK.nil false [] [] Try.call44 Try.func44 rfl (by rfl) ?_
  refine Eq.mp (α := (@Bool.rec (fun _ => Prop) (@Bool.rec (fun _ => Prop) (@Bool.rec (fun _ => Prop) (∃ l : List BTy, (And (List.map eBl (It.b x) = List.map eBl l) (And (And (List.length l * (24 : Nat) ≤ (140737488351232 : Nat)) (∀ y : BTy, (∀ a_1 : y ∈ l, (List.length (Prod.snd (Prod.fst y)) ≤ (140737488351232 : Nat))))) (∀ o : PaT l, (And (List.length (PaT.r o) ≤ List.length (PaT.r o)) (And (List.length (PaT.r o) ≤ PaT.cap o) (And (PaT.cap o = PaT.cap o) (And (∀ y : RK.TL [RK.sl (1 : Nat) [RK.int IntKind.u8]], ((true : Bool) = true)) (∀ x_1 : Value, (∃ l_1 : List BTy, (And (List.map (Enc.enc BE) (List.take (List.length (PaT.r o)) (PaT.r o)) = List.map eBl l_1) (And (∀ y : BTy, (∀ a_1 : y ∈ l_1, (List.length (Prod.snd (Prod.fst y)) ≤ (140737488351232 : Nat)))) (∀ o_1 : Unit, (∃ o_2 : Unit, (And (And ((1 : Int) = (1 : Int)) True) (And (And (And (Value.slice none (0 : Nat) (0 : Nat) = Value.slice none (0 : Nat) (0 : Nat)) (And ((false : Bool) = false) (And ((0 : Int) = (0 : Int)) True))) (And ((true : Bool) = true) True)) ((true : Bool) = true))))))))))))))))) (And ((0 : Nat) = (0 : Nat)) (And ((0 : Nat) = (0 : Nat)) (∃ ys : List (List Int), (And (List.map (Enc.enc (encInts IntKind.u8 (32 : Nat))) ys = List.map eH (It.h x)) (And (((0 : Nat) + List.length ys) * (32 : Nat) ≤ (150000000000000 : Nat)) (∀ cap2 : Nat, (∀ a_1 : (0 : Nat) + List.length ys ≤ cap2, (And ((0 : Nat) + List.length ([] ++ ys) ≤ List.length ([] ++ ys)) (And (List.length ([] ++ ys) ≤ cap2) (And (∀ y : List Int, ((true : Bool) = true)) (∀ x_1 : Value, (∃ l : List (List Int), (And (List.map (Enc.enc (encInts IntKind.u8 (32 : Nat))) (List.take (List.length ([] ++ ys)) (List.drop (0 : Nat) ([] ++ ys))) = List.map eH l) (And (And (List.length l * (32 : Nat) ≤ (140737488351232 : Nat)) (∀ a_2 : List Int, (∀ a_3 : a_2 ∈ l, (List.length a_2 = (32 : Nat))))) (∀ o : Unit, (∃ o_1 : Unit, (And (And ((1 : Int) = (1 : Int)) True) (And (And (And (Value.slice none (0 : Nat) (0 : Nat) = Value.slice none (0 : Nat) (0 : Nat)) (And ((false : Bool) = false) (And ((0 : Int) = (0 : Int)) True))) (And ((true : Bool) = true) True)) ((true : Bool) = true))))))))))))))))))) (It.k x == (2 : Int))) (And ((0 : Nat) = (0 : Nat)) (And ((0 : Nat) = (0 : Nat)) (∃ ys : List (List Int), (And (List.map (Enc.enc (encInts IntKind.u64 (4 : Nat))) ys = List.map eW (It.w x)) (And (((0 : Nat) + List.length ys) * (32 : Nat) ≤ (150000000000000 : Nat)) (∀ cap2 : Nat, (∀ a_1 : (0 : Nat) + List.length ys ≤ cap2, (And ((0 : Nat) + List.length ([] ++ ys) ≤ List.length ([] ++ ys)) (And (List.length ([] ++ ys) ≤ cap2) (And (∀ y : List Int, ((true : Bool) = true)) (∀ x_1 : Value, (∃ l : List (List Int), (And (List.map (Enc.enc (encInts IntKind.u64 (4 : Nat))) (List.take (List.length ([] ++ ys)) (List.drop (0 : Nat) ([] ++ ys))) = List.map eW l) (And (And (List.length l * (32 : Nat) ≤ (140737488351232 : Nat)) (∀ a_2 : List Int, (∀ a_3 : a_2 ∈ l, (And (List.length a_2 = (4 : Nat)) (∀ x_2 : Int, (∀ a_4 : x_2 ∈ a_2, (And ((0 : Int) ≤ x_2) (x_2 < (↑N64 : Int))))))))) (∀ o : Unit, (∃ o_1 : Unit, (And (And ((1 : Int) = (1 : Int)) True) (And (And (And (Value.slice none (0 : Nat) (0 : Nat) = Value.slice none (0 : Nat) (0 : Nat)) (And ((false : Bool) = false) (And ((0 : Int) = (0 : Int)) True))) (And ((true : Bool) = true) True)) ((true : Bool) = true))))))))))))))))))) (It.k x == (1 : Int))) (And ((0 : Nat) = (0 : Nat)) (And ((0 : Nat) = (0 : Nat)) (∃ ys : List Int, (And (List.map (Enc.enc (encInt IntKind.u64)) ys = List.map eU (It.u x)) (And (((0 : Nat) + List.length ys) * (8 : Nat) ≤ (150000000000000 : Nat)) (∀ cap2 : Nat, (∀ a_1 : (0 : Nat) + List.length ys ≤ cap2, (And ((0 : Nat) + List.length ([] ++ ys) ≤ List.length ([] ++ ys)) (And (List.length ([] ++ ys) ≤ cap2) (And (∀ y : Int, ((true : Bool) = true)) (∀ x_1 : Value, (∃ l : List Int, (And (List.map (Enc.enc (encInt IntKind.u64)) (List.take (List.length ([] ++ ys)) (List.drop (0 : Nat) ([] ++ ys))) = List.map eU l) (And (List.length l * (8 : Nat) ≤ (140737488351232 : Nat)) (∀ o : Unit, (∃ o_1 : Unit, (And (And ((1 : Int) = (1 : Int)) True) (And (And (And (Value.slice none (0 : Nat) (0 : Nat) = Value.slice none (0 : Nat) (0 : Nat)) (And ((false : Bool) = false) (And ((0 : Int) = (0 : Int)) True))) (And ((true : Bool) = true) True)) ((true : Bool) = true))))))))))))))))))) (It.k x == (0 : Int)))) (by kernel_rfl) ?_
  have hu := hx.u
  have hw := hx.w
  have hh := hx.h
  have hb := hx.b
  rw [show (x.k == 0) = decide (x.k = 0) from rfl, show (x.k == 1) = decide (x.k = 1) from rfl, show (x.k == 2) = decide (x.k = 2) from rfl]
  refine bif_dec (fun e0 => ?_) (fun e0 => ?_)
  ·
    refine ⟨rfl, rfl, x.u, rfl, by omega, fun cap2 k2 => ?_⟩
    rw [List.nil_append, List.drop_zero, List.take_length]
    refine ⟨by omega, by omega, fun _ => rfl, fun x1 => ⟨x.u, rfl, hu, fun o => ⟨(), ?_⟩⟩⟩
    repeat' first | exact encB_pure _ | exact trivial | refine And.intro ?_ ?_ | with_reducible refine bif_dt (by assumption) ?_ | with_reducible refine bif_df (by assumption) ?_ | with_reducible refine bif_dec (fun _ => ?_) (fun _ => ?_) | with_reducible refine bif_not ?_ | with_reducible refine bif_and ?_ | with_reducible refine bif_or ?_ | with_reducible refine bif_t (by assumption) ?_ | with_reducible refine bif_f (by assumption) ?_ | with_reducible refine bif_t (beq_self_eq_true _) ?_ | with_reducible refine bif_b (fun _ => ?_) (fun _ => ?_) | with_reducible refine ⟨_, Eq.refl (List.map _ _), ?_⟩ | (with_reducible refine Exists.intro (by omega) ?_) | rfl | (intro h0; omega) | omega
  refine bif_dec (fun e1 => ?_) (fun e1 => ?_)
  ·
    refine ⟨rfl, rfl, x.w, rfl, by omega, fun cap2 k2 => ?_⟩
    rw [List.nil_append, List.drop_zero, List.take_length]
    refine ⟨by omega, by omega, fun _ => rfl, fun x1 => ⟨x.w, rfl, ⟨hw, hx.wd⟩, fun o => ⟨(), ?_⟩⟩⟩
    repeat' first | exact encB_pure _ | exact trivial | refine And.intro ?_ ?_ | with_reducible refine bif_dt (by assumption) ?_ | with_reducible refine bif_df (by assumption) ?_ | with_reducible refine bif_dec (fun _ => ?_) (fun _ => ?_) | with_reducible refine bif_not ?_ | with_reducible refine bif_and ?_ | with_reducible refine bif_or ?_ | with_reducible refine bif_t (by assumption) ?_ | with_reducible refine bif_f (by assumption) ?_ | with_reducible refine bif_t (beq_self_eq_true _) ?_ | with_reducible refine bif_b (fun _ => ?_) (fun _ => ?_) | with_reducible refine ⟨_, Eq.refl (List.map _ _), ?_⟩ | (with_reducible refine Exists.intro (by omega) ?_) | rfl | (intro h0; omega) | omega
  refine bif_dec (fun e2 => ?_) (fun e2 => ?_)
  ·
    refine ⟨rfl, rfl, x.h, rfl, by omega, fun cap2 k2 => ?_⟩
    rw [List.nil_append, List.drop_zero, List.take_length]
    refine ⟨by omega, by omega, fun _ => rfl, fun x1 => ⟨x.h, rfl, ⟨hh, hx.hl⟩, fun o => ⟨(), ?_⟩⟩⟩
    repeat' first | exact encB_pure _ | exact trivial | refine And.intro ?_ ?_ | with_reducible refine bif_dt (by assumption) ?_ | with_reducible refine bif_df (by assumption) ?_ | with_reducible refine bif_dec (fun _ => ?_) (fun _ => ?_) | with_reducible refine bif_not ?_ | with_reducible refine bif_and ?_ | with_reducible refine bif_or ?_ | with_reducible refine bif_t (by assumption) ?_ | with_reducible refine bif_f (by assumption) ?_ | with_reducible refine bif_t (beq_self_eq_true _) ?_ | with_reducible refine bif_b (fun _ => ?_) (fun _ => ?_) | with_reducible refine ⟨_, Eq.refl (List.map _ _), ?_⟩ | (with_reducible refine Exists.intro (by omega) ?_) | rfl | (intro h0; omega) | omega
  · refine ⟨x.b, rfl, ⟨hb, hx.bl⟩, ?_⟩
    rintro ⟨r, cap2, hc, he⟩
    dsimp only
    rw [List.take_length]
    refine ⟨by omega, hc, rfl, fun _ => rfl, fun x1 => ⟨r, rfl, len_bl he hx.bl, fun o => ⟨(), ?_⟩⟩⟩
    repeat' first | exact encB_pure _ | exact trivial | refine And.intro ?_ ?_ | with_reducible refine bif_dt (by assumption) ?_ | with_reducible refine bif_df (by assumption) ?_ | with_reducible refine bif_dec (fun _ => ?_) (fun _ => ?_) | with_reducible refine bif_not ?_ | with_reducible refine bif_and ?_ | with_reducible refine bif_or ?_ | with_reducible refine bif_t (by assumption) ?_ | with_reducible refine bif_f (by assumption) ?_ | with_reducible refine bif_t (beq_self_eq_true _) ?_ | with_reducible refine bif_b (fun _ => ?_) (fun _ => ?_) | with_reducible refine ⟨_, Eq.refl (List.map _ _), ?_⟩ | (with_reducible refine Exists.intro (by omega) ?_) | rfl | (intro h0; omega) | omega
def putUT : MT := fun ms n h K => match ms with
  | [.one (.ptr P0 0), .agg [.v (.int .i64 k), .view vx0 ve0 en0 vl0, .view vx1 ve1 en1 vl1, .view vx2 ve2 en2 vl2, .view vx3 ve3 en3 vl3]] => (match get h P0 with
    | some (.cells [.v (.slice none 0 0), .v (.bool false), .v (.int .i64 0)]) => bif Nat.beq ve0 1 && Nat.beq ve1 4 && Nat.beq ve2 32 && Nat.beq ve3 1 && noDup [P0] then ∃ u : List (Int), vl0.map en0 = u.map eU ∧ ∃ v : List (List Int), vl1.map en1 = v.map eW ∧ ∃ w : List (List Int), vl2.map en2 = w.map eH ∧ ∃ z : List (BTy), vl3.map en3 = z.map eBl ∧ (ItOk ⟨k, u, v, w, z⟩) ∧ (∀ o : Unit, K (n + 0) (int 1) ([(P0, unC)] ++ delL [P0] h)) else False
    | _ => False)
  | _ => False
theorem putU_mono : MMono putUT := by
  intro ms n h K K' hkk hk
  unfold putUT at hk ⊢
  split at hk
  · rename_i P0 k vx0 ve0 va0 en0 vl0 vx1 ve1 va1 en1 vl1 vx2 ve2 va2 en2 vl2 vx3 ve3 va3 en3 vl3
    split at hk
    · rename_i  hg0
      try simp only [hg0]
      obtain ⟨hb, y0, z0, y1, z1, y2, z2, y3, z3, h1, h2⟩ := cond_false_elim hk
      rw [hb]
      exact ⟨y0, z0, y1, z1, y2, z2, y3, z3, h1, fun o => hkk _ _ _ (h2 o)⟩
    · exact hk.elim
  · exact hk.elim
theorem putU_ok : MOK Try.prog 44 putUT := by
  refine ⟨?_, putU_mono⟩
  intro ms n hB K hk
  unfold putUT at hk
  split at hk
  · rename_i P0 k vx0 ve0 va0 en0 vl0 vx1 ve1 va1 en1 vl1 vx2 ve2 va2 en2 vl2 vx3 ve3 va3 en3 vl3
    split at hk
    · rename_i  hg0
      obtain ⟨hb, u, he0, v, he1, w, he2, z, he3, h, hk2⟩ := cond_false_elim hk
      clear hk
      simp only [Bool.and_eq_true] at hb
      obtain ⟨⟨⟨⟨hc0, hc1⟩, hc2⟩, hc3⟩, hnd⟩ := hb
      have hs0 := Nat.eq_of_beq_eq_true hc0
      subst hs0
      have hs1 := Nat.eq_of_beq_eq_true hc1
      subst hs1
      have hs2 := Nat.eq_of_beq_eq_true hc2
      subst hs2
      have hs3 := Nat.eq_of_beq_eq_true hc3
      subst hs3
      refine SCall.seen ?_ (.cons (.refl _) (.cons (.agg (.refl (.view he0 (.view he1 (.view he2 (.view he3 .nil)))))) .nil))
      exact (putU_spec vx0 vx1 vx2 vx3 h).use (fun j => match j with | 0 => P0 | _ => 0) rfl rfl ⟨by show (match get hB P0 with | some b0 => Blk.imp _ _ _ b0 | none => False); rw [hg0]; exact ⟨rfl, rfl⟩, rfl, trivial⟩ hnd (fun j hj => by cases j with
          | zero => exact ⟨_, rfl⟩
          | succ j => omega) (fun o => hk2 o)
    · exact hk.elim
  · exact hk.elim

end Go.Proofs.Ytjdlefkpoggocaa
