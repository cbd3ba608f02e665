/- The codec's writer; numbers, items and tops. -/
import Derived.Test.YtgbikcniediomaaDoorPA
import Derived.Test.YtgbikcniediomaaDoorDD
import Derived.Test.YtgbikcniediomaaDoorSx24
namespace Go.Proofs.YtgbikcniediomaaDoor.Dg
open Go Go.Sx Go.Sha
set_option linter.unusedVariables false
set_option linter.unusedSimpArgs false
set_option maxRecDepth 100000
set_option maxHeartbeats 4000000

theorem eightc_spec (x : Int) : SMem Tryd.prog 42 [u64 x] 0 [] (fun _ : Unit => ⟨1, .one (.slc 0 1 0 8 8), [(0, .row 1 (encInt .u8) (be8 x) 8)]⟩) := by
  refine SMem.inm [] SOK.nil [] MSOK.nil tok mixed [] IOK.nil true [] [] Tryd.call42 Tryd.func42 rfl (by rfl) ?_
  refine Eq.mp (α := (And ((0 : Int) ≤ (8 : Int)) (And ((0 : Int) ≤ (8 : Int)) (And (Int.toNat (8 : Int) ≤ Int.toNat (8 : Int)) (And ((1 : Nat) * Int.toNat (8 : Int) ≤ (281474976710656 : Nat)) (And (Int.toNat (8 : Int) ≤ (9223372036854775807 : Nat)) (And ((0 : Int) ≤ (56 : Int)) (And ((0 : Int) ≤ (0 : Int)) (And (Int.toNat (0 : Int) < Int.toNat (8 : Int)) (∃ hi : (0 : Nat) + Int.toNat (0 : Int) < (8 : Nat), (And ((0 : Int) ≤ (48 : Int)) (And ((0 : Int) ≤ (1 : Int)) (And (Int.toNat (1 : Int) < Int.toNat (8 : Int)) (∃ hi_1 : (0 : Nat) + Int.toNat (1 : Int) < (8 : Nat), (And ((0 : Int) ≤ (40 : Int)) (And ((0 : Int) ≤ (2 : Int)) (And (Int.toNat (2 : Int) < Int.toNat (8 : Int)) (∃ hi_2 : (0 : Nat) + Int.toNat (2 : Int) < (8 : Nat), (And ((0 : Int) ≤ (32 : Int)) (And ((0 : Int) ≤ (3 : Int)) (And (Int.toNat (3 : Int) < Int.toNat (8 : Int)) (∃ hi_3 : (0 : Nat) + Int.toNat (3 : Int) < (8 : Nat), (And ((0 : Int) ≤ (24 : Int)) (And ((0 : Int) ≤ (4 : Int)) (And (Int.toNat (4 : Int) < Int.toNat (8 : Int)) (∃ hi_4 : (0 : Nat) + Int.toNat (4 : Int) < (8 : Nat), (And ((0 : Int) ≤ (16 : Int)) (And ((0 : Int) ≤ (5 : Int)) (And (Int.toNat (5 : Int) < Int.toNat (8 : Int)) (∃ hi_5 : (0 : Nat) + Int.toNat (5 : Int) < (8 : Nat), (And ((0 : Int) ≤ (8 : Int)) (And ((0 : Int) ≤ (6 : Int)) (And (Int.toNat (6 : Int) < Int.toNat (8 : Int)) (∃ hi_6 : (0 : Nat) + Int.toNat (6 : Int) < (8 : Nat), (And ((0 : Int) ≤ (0 : Int)) (And ((0 : Int) ≤ (7 : Int)) (And (Int.toNat (7 : Int) < Int.toNat (8 : Int)) (∃ hi_7 : (0 : Nat) + Int.toNat (7 : Int) < (8 : Nat), (∃ o : Unit, (And (And (And ((true : Bool) = true) (And ((0 : Nat) = (0 : Nat)) (And ((8 : Nat) = Int.toNat (8 : Int)) ((8 : Nat) = Int.toNat (8 : Int))))) True) (And (And (And ((true : Bool) = true) (And ((8 : Nat) = Int.toNat (8 : Int)) (And (List.map (Enc.enc (encInt IntKind.u8)) (be8 x) = List.map (Enc.enc (encInt IntKind.u8)) (List.set (List.set (List.set (List.set (List.set (List.set (List.set (List.set (List.replicate (Int.toNat (8 : Int)) (Enc.of (encInt IntKind.u8) ((0 : Int), ()))) ((0 : Nat) + Int.toNat (0 : Int)) (Enc.of (encInt IntKind.u8) (IntKind.wrap IntKind.u8 (shr IntKind.u64 x (56 : Int)), ()))) ((0 : Nat) + Int.toNat (1 : Int)) (Enc.of (encInt IntKind.u8) (IntKind.wrap IntKind.u8 (shr IntKind.u64 x (48 : Int)), ()))) ((0 : Nat) + Int.toNat (2 : Int)) (Enc.of (encInt IntKind.u8) (IntKind.wrap IntKind.u8 (shr IntKind.u64 x (40 : Int)), ()))) ((0 : Nat) + Int.toNat (3 : Int)) (Enc.of (encInt IntKind.u8) (IntKind.wrap IntKind.u8 (shr IntKind.u64 x (32 : Int)), ()))) ((0 : Nat) + Int.toNat (4 : Int)) (Enc.of (encInt IntKind.u8) (IntKind.wrap IntKind.u8 (shr IntKind.u64 x (24 : Int)), ()))) ((0 : Nat) + Int.toNat (5 : Int)) (Enc.of (encInt IntKind.u8) (IntKind.wrap IntKind.u8 (shr IntKind.u64 x (16 : Int)), ()))) ((0 : Nat) + Int.toNat (6 : Int)) (Enc.of (encInt IntKind.u8) (IntKind.wrap IntKind.u8 (shr IntKind.u64 x (8 : Int)), ()))) ((0 : Nat) + Int.toNat (7 : Int)) (Enc.of (encInt IntKind.u8) (IntKind.wrap IntKind.u8 (shr IntKind.u64 x (0 : Int)), ())))) (∀ x_1 : Int, (∀ a : x_1 ∈ be8 x, (∀ s : SV, (∀ a_1 : s ∈ Enc.enc (encInt IntKind.u8) x_1, ((SV.isPure s : Bool) = (true))))))))) (And ((true : Bool) = true) True)) ((true : Bool) = true)))))))))))))))))))))))))))))))))))))))))) (by kernel_rfl) ?_
  simp only [e56, e48, e40, e32, e24, e16, e08, e00, ofB]
  repeat' first | exact encB_pure _ | (refine Exists.intro () ?_) | exact trivial | refine And.intro ?_ ?_ | with_reducible refine bif_dt (by assumption) ?_ | with_reducible refine bif_df (by assumption) ?_ | with_reducible refine bif_dec (fun _ => ?_) (fun _ => ?_) | with_reducible refine bif_not ?_ | with_reducible refine bif_and ?_ | with_reducible refine bif_or ?_ | with_reducible refine bif_t (by assumption) ?_ | with_reducible refine bif_f (by assumption) ?_ | with_reducible refine bif_t (beq_self_eq_true _) ?_ | with_reducible refine bif_b (fun _ => ?_) (fun _ => ?_) | with_reducible refine ⟨_, Eq.refl (List.map _ _), ?_⟩ | (with_reducible refine Exists.intro (by omega) ?_) | rfl | (intro h0; omega) | omega
def eightcT : MT := fun ms n h K => match ms with
  | [.one (.v (.int .u64 x))] => bif true then True ∧ (∀ o : Unit, K (n + 1) (.one (.slc n 1 0 8 8)) ([(n, .row 1 (encInt .u8) (be8 x) 8)] ++ delL [] h)) else False
  | _ => False
theorem eightc_mono : MMono eightcT := by
  intro ms n h K K' hkk hk
  unfold eightcT at hk ⊢
  split at hk
  · rename_i x
    obtain ⟨hb, h1, h2⟩ := cond_false_elim hk
    rw [hb]
    exact ⟨h1, fun o => hkk _ _ _ (h2 o)⟩
  · exact hk.elim
theorem eightc_ok : MOK Tryd.prog 42 eightcT := by
  refine ⟨?_, eightc_mono⟩
  intro ms n hB K hk
  unfold eightcT at hk
  split at hk
  · rename_i x
    obtain ⟨hb, h, hk2⟩ := cond_false_elim hk
    clear hk
    have hnd : noDup [] = true := rfl
    refine SCall.seen ?_ (.cons (.refl _) .nil)
    exact (eightc_spec x).use (fun _ => 0) rfl rfl trivial (by exact hnd) (fun j hj => absurd hj (Nat.not_lt_zero j)) (fun o => hk2 o)
  · exact hk.elim

theorem writer_spec : SMem Tryd.prog 32 [] 0 [] (fun _ : Unit => ⟨2, .one (.ptr 0 0), [(0, .cells [.nslc 1 1 0 0, .v (.bool true), .v (.int .i64 0)]), (1, .row 1 (encInt .u8) [] 0)]⟩) := by
  refine SMem.inm [] SOK.nil [] MSOK.nil tok mixed [] IOK.nil true [] [] Tryd.call32 Tryd.func32 rfl (by rfl) ?_
  refine Eq.mp (α := (∃ o : Unit, (And (And (And ((true : Bool) = true) ((0 : Nat) = (0 : Nat))) True) (And (And (And (And ((true : Bool) = true) (And ((0 : Nat) = (0 : Nat)) ((0 : Nat) = (0 : Nat)))) (And ((true : Bool) = true) (And ((0 : Int) = (0 : Int)) True))) (And ((true : Bool) = true) (And (And ((true : Bool) = true) (And ((0 : Nat) = (0 : Nat)) (And (List.map (Enc.enc (encInt IntKind.u8)) [] = List.map (Enc.enc (encInt IntKind.u8)) []) (∀ x : Int, (∀ a : x ∈ [], (∀ s : SV, (∀ a_1 : s ∈ Enc.enc (encInt IntKind.u8) x, ((SV.isPure s : Bool) = (true))))))))) (And ((true : Bool) = true) True)))) ((true : Bool) = true))))) (by kernel_rfl) ?_
  repeat' first | exact encB_pure _ | (refine Exists.intro () ?_) | exact trivial | refine And.intro ?_ ?_ | with_reducible refine bif_dt (by assumption) ?_ | with_reducible refine bif_df (by assumption) ?_ | with_reducible refine bif_dec (fun _ => ?_) (fun _ => ?_) | with_reducible refine bif_not ?_ | with_reducible refine bif_and ?_ | with_reducible refine bif_or ?_ | with_reducible refine bif_t (by assumption) ?_ | with_reducible refine bif_f (by assumption) ?_ | with_reducible refine bif_t (beq_self_eq_true _) ?_ | with_reducible refine bif_b (fun _ => ?_) (fun _ => ?_) | with_reducible refine ⟨_, Eq.refl (List.map _ _), ?_⟩ | (with_reducible refine Exists.intro (by omega) ?_) | rfl | (intro h0; omega) | omega
def writerT : MT := fun ms n h K => match ms with
  | [] => bif true then True ∧ (∀ o : Unit, K (n + 2) (.one (.ptr n 0)) ([(n, .cells [.nslc (n + 1) 1 0 0, .v (.bool true), .v (.int .i64 0)]), (n + 1, .row 1 (encInt .u8) [] 0)] ++ delL [] h)) else False
  | _ => False
theorem writer_mono : MMono writerT := by
  intro ms n h K K' hkk hk
  unfold writerT at hk ⊢
  split at hk
  · obtain ⟨hb, h1, h2⟩ := cond_false_elim hk
    rw [hb]
    exact ⟨h1, fun o => hkk _ _ _ (h2 o)⟩
  · exact hk.elim
theorem writer_ok : MOK Tryd.prog 32 writerT := by
  refine ⟨?_, writer_mono⟩
  intro ms n hB K hk
  unfold writerT at hk
  split at hk
  · obtain ⟨hb, h, hk2⟩ := cond_false_elim hk
    clear hk
    have hnd : noDup [] = true := rfl
    refine SCall.seen ?_ .nil
    exact (writer_spec).use (fun _ => 0) rfl rfl trivial (by exact hnd) (fun j hj => absurd hj (Nat.not_lt_zero j)) (fun o => hk2 o)
  · exact hk.elim

theorem wfits {b l : List Int} (h : b.length ≤ 65536) : decide (IntKind.wrap IntKind.i64 ((65536 : Int) - (b.length : Int)) < (l.length : Int)) = !(fits b l) := by
  rw [wrap64 (by omega) (by omega)]
  unfold fits
  by_cases h1 : l.length ≤ 65536 - b.length
  · rw [decide_eq_true h1, decide_eq_false (by omega)]; rfl
  · rw [decide_eq_false h1, decide_eq_true (by omega)]; rfl
theorem all_spec (x : Value) {b l : List Int} {len cap cap' : Nat} (h1 : len = b.length) (h2 : cap = cap') (h3 : b.length ≤ 65536) (h4 : b.length ≤ cap') : SMem Tryd.prog 43 [.one (.ptr 0 0), byV x l] 2 [(0, .cells [.nslc 1 1 len cap, .v (.bool true), .v (.int .i64 0)]), (1, .row 1 (encInt .u8) b cap')]
    (fun c : CapT (putL b l).length => ⟨3, int (putE b l), [(0, .cells [.nslc 2 1 (putL b l).length c.cap, .v (.bool true), .v (.int .i64 0)]), (2, .row 1 (encInt .u8) (putL b l) c.cap)]⟩) := by
  subst h1
  subst h2
  refine SMem.inm [] SOK.nil [] MSOK.nil tok mixed [] IOK.nil true [] [] Tryd.call43 Tryd.func43 rfl (by rfl) ?_
  refine Eq.mp (α := (@Bool.rec (fun _ => Prop) (And (List.length b = List.length b) (And (cap = cap) (∃ ys : List Int, (And (List.map (Enc.enc (encInt IntKind.u8)) ys = List.map (Enc.enc (encInt IntKind.u8)) l) (And ((List.length b + List.length ys) * (1 : Nat) ≤ (150000000000000 : Nat)) (∀ cap2 : Nat, (∀ a : List.length b + List.length ys ≤ cap2, (∃ o : CapT (List.length (putL b l)), (And (And (putE b l = (0 : Int)) True) (And (And (And (And ((true : Bool) = true) (And (List.length (putL b l) = List.length (b ++ ys)) (CapT.cap o = cap2))) (And ((true : Bool) = true) (And ((0 : Int) = (0 : Int)) True))) (And ((true : Bool) = true) (And (And ((true : Bool) = true) (And (CapT.cap o = cap2) (And (List.map (Enc.enc (encInt IntKind.u8)) (putL b l) = List.map (Enc.enc (encInt IntKind.u8)) (b ++ ys)) (∀ x_1 : Int, (∀ a_1 : x_1 ∈ putL b l, (∀ s : SV, (∀ a_2 : s ∈ Enc.enc (encInt IntKind.u8) x_1, ((SV.isPure s : Bool) = (true))))))))) (And ((true : Bool) = true) True)))) ((true : Bool) = true))))))))))) (∃ o : CapT (List.length (putL b l)), (And (And (putE b l = (6 : Int)) True) (And (And (And (And ((true : Bool) = true) (And (List.length (putL b l) = List.length b) (CapT.cap o = cap))) (And ((true : Bool) = true) (And ((0 : Int) = (0 : Int)) True))) (And ((true : Bool) = true) (And (And ((true : Bool) = true) (And (CapT.cap o = cap) (And (List.map (Enc.enc (encInt IntKind.u8)) (putL b l) = List.map (Enc.enc (encInt IntKind.u8)) b) (∀ x_1 : Int, (∀ a : x_1 ∈ putL b l, (∀ s : SV, (∀ a_1 : s ∈ Enc.enc (encInt IntKind.u8) x_1, ((SV.isPure s : Bool) = (true))))))))) (And ((true : Bool) = true) True)))) ((true : Bool) = true)))) (decide (IntKind.wrap IntKind.i64 ((65536 : Int) - (↑(List.length b) : Int)) < (↑(List.length l) : Int))))) (by kernel_rfl) ?_
  rw [wfits h3]
  refine bif_not ?_
  unfold putL putE
  have hf : fits b l = decide (l.length ≤ 65536 - b.length) := rfl
  cases h : fits b l with
  | true =>
    have h5 := of_decide_eq_true (hf.symm.trans h)
    simp only [cond_true]
    repeat (with_reducible refine And.intro (by first | exact trivial | omega | decide) ?_)
    refine ⟨l, rfl, by omega, fun cap2 hc => ⟨⟨cap2, by rw [List.length_append]; exact hc⟩, ?_⟩⟩
    repeat' first | exact encB_pure _ | exact trivial | refine And.intro ?_ ?_ | with_reducible refine bif_dt (by assumption) ?_ | with_reducible refine bif_df (by assumption) ?_ | with_reducible refine bif_dec (fun _ => ?_) (fun _ => ?_) | with_reducible refine bif_not ?_ | with_reducible refine bif_and ?_ | with_reducible refine bif_or ?_ | with_reducible refine bif_t (by assumption) ?_ | with_reducible refine bif_f (by assumption) ?_ | with_reducible refine bif_t (beq_self_eq_true _) ?_ | with_reducible refine bif_b (fun _ => ?_) (fun _ => ?_) | with_reducible refine ⟨_, Eq.refl (List.map _ _), ?_⟩ | (with_reducible refine Exists.intro (by omega) ?_) | rfl | (intro h0; omega) | omega
  | false =>
    simp only [cond_false]
    refine ⟨⟨cap, h4⟩, ?_⟩
    repeat' first | exact encB_pure _ | exact trivial | refine And.intro ?_ ?_ | with_reducible refine bif_dt (by assumption) ?_ | with_reducible refine bif_df (by assumption) ?_ | with_reducible refine bif_dec (fun _ => ?_) (fun _ => ?_) | with_reducible refine bif_not ?_ | with_reducible refine bif_and ?_ | with_reducible refine bif_or ?_ | with_reducible refine bif_t (by assumption) ?_ | with_reducible refine bif_f (by assumption) ?_ | with_reducible refine bif_t (beq_self_eq_true _) ?_ | with_reducible refine bif_b (fun _ => ?_) (fun _ => ?_) | with_reducible refine ⟨_, Eq.refl (List.map _ _), ?_⟩ | (with_reducible refine Exists.intro (by omega) ?_) | rfl | (intro h0; omega) | omega
def allT : MT := fun ms n h K => match ms with
  | [.one (.ptr P0 0), .one (.view vx0 ve0 en0 vl0)] => (match get h P0 with
    | some (.cells [.nslc P1 1 len cap, .v (.bool true), .v (.int .i64 0)]) => (match get h P1 with
    | some (.row we1 wn1 wl1 cap2) => bif Nat.beq ve0 1 && Nat.beq we1 1 && noDup [P0, P1] then ∃ l : List (Int), vl0.map en0 = l.map eB ∧ ∃ b : List (Int), wl1.map wn1.enc = b.map ((encInt .u8)).enc ∧ ((len = b.length ∧ cap = cap2 ∧ b.length ≤ 65536 ∧ b.length ≤ cap2)) ∧ (∀ c : CapT (putL b l).length, K (n + 1) (int (putE b l)) ([(P0, .cells [.nslc n 1 (putL b l).length c.cap, .v (.bool true), .v (.int .i64 0)]), (n, .row 1 (encInt .u8) (putL b l) c.cap)] ++ delL [P0, P1] h)) else False
    | _ => False)
    | _ => False)
  | _ => False
theorem all_mono : MMono allT := by
  intro ms n h K K' hkk hk
  unfold allT at hk ⊢
  split at hk
  · rename_i P0 vx0 ve0 va0 en0 vl0
    split at hk
    · rename_i P1 len cap hg0
      try simp only [hg0]
      split at hk
      · rename_i we1 wa1 wn1 wl1 cap2 hg1
        try simp only [hg1]
        obtain ⟨hb, y0, z0, y1, z1, h1, h2⟩ := cond_false_elim hk
        rw [hb]
        exact ⟨y0, z0, y1, z1, h1, fun o => hkk _ _ _ (h2 o)⟩
      · exact hk.elim
    · exact hk.elim
  · exact hk.elim
theorem all_ok : MOK Tryd.prog 43 allT := by
  refine ⟨?_, all_mono⟩
  intro ms n hB K hk
  unfold allT at hk
  split at hk
  · rename_i P0 vx0 ve0 va0 en0 vl0
    split at hk
    · rename_i P1 len cap hg0
      split at hk
      · rename_i we1 wa1 wn1 wl1 cap2 hg1
        obtain ⟨hb, l, he0, b, hl1, h, hk2⟩ := cond_false_elim hk
        clear hk
        simp only [Bool.and_eq_true] at hb
        obtain ⟨⟨hc0, hc1⟩, hnd⟩ := hb
        have hs0 := Nat.eq_of_beq_eq_true hc0
        subst hs0
        have hs1 := Nat.eq_of_beq_eq_true hc1
        subst hs1
        refine SCall.seen ?_ (.cons (.refl _) (.cons (.view he0) .nil))
        exact (all_spec _ h.1 h.2.1 h.2.2.1 h.2.2.2).use (fun j => match j with | 0 => P0 | 1 => P1 | _ => 0) rfl rfl ⟨by show (match get hB P0 with | some b0 => Blk.imp _ _ _ b0 | none => False); rw [hg0]; exact ⟨rfl, rfl⟩, rfl, ⟨by show (match get hB P1 with | some b0 => Blk.imp _ _ _ b0 | none => False); rw [hg1]; exact ⟨rfl, rfl, hl1.symm, fun y _ => Enc.pures _ y⟩, rfl, trivial⟩⟩ (by exact hnd) (fun j hj => by cases j with
            | zero => exact ⟨_, rfl⟩
            | succ j => cases j with
             | zero => exact ⟨_, rfl⟩
             | succ j => omega) (fun o => hk2 o)
      · exact hk.elim
    · exact hk.elim
  · exact hk.elim


theorem inext2 {i : Nat} (h : i < 9223372036854775807) : IntKind.i64.wrap ((i : Int) + 1) = ((i + 1 : Nat) : Int) := by rw [wrap64 (by omega) (by omega)]; omega
structure FlT {α : Type} (f : α → List Int) (l : List α) where
  i : Nat
  cap : Nat
  hi : i ≤ l.length
  hc : ((l.take i).flatMap f).length ≤ cap
abbrev uV (x : Value) (l : List Int) : M := .one (.view x 1 (encInt .u64).enc l)
theorem uint_spec (x : Value) {b l : List Int} {len cap cap' : Nat} (h1 : len = b.length) (h2 : cap = cap') (h3 : b.length ≤ 65536) (h4 : b.length ≤ cap') (h5 : l.length * 8 ≤ 140737488351232) :
    SMem Tryd.prog 33 [.one (.ptr 0 0), uV x l] 2 [(0, .cells [.nslc 1 1 len cap, .v (.bool true), .v (.int .i64 0)]), (1, .row 1 (encInt .u8) b cap')]
    (fun c : CapT (putL b (l.flatMap be8)).length => ⟨3, int (putE b (l.flatMap be8)), [(0, .cells [.nslc 2 1 (putL b (l.flatMap be8)).length c.cap, .v (.bool true), .v (.int .i64 0)]), (2, .row 1 (encInt .u8) (putL b (l.flatMap be8)) c.cap)]⟩) := by
  subst h1
  subst h2
  refine SMem.inm [] SOK.nil [(42, eightcT), (43, allT)] (MSOK.cons eightc_ok (MSOK.cons all_ok MSOK.nil)) tok mixed [] IOK.nil false [(3, ⟨FlT be8 l, fun p => ⟨3, [(0, .one (.ptr 0 0)), (1, uV x l), (4, int 0), (5, .one (.nslc 2 1 ((l.take p.i).flatMap be8).length p.cap)), (8, uV x l), (9, int l.length), (10, int p.i)], [(0, .cells [.nslc 1 1 b.length cap, .v (.bool true), .v (.int .i64 0)]), (1, .row 1 (encInt .u8) b cap), (2, .row 1 (encInt .u8) ((l.take p.i).flatMap be8) p.cap)]⟩, fun p => l.length - p.i, fun _ _ => True⟩)] [] Tryd.call33 Tryd.func33 rfl (by rfl) ?_
  refine Eq.mp (α := (∃ i0 : FlT be8 l, (And (And True (And (And (And ((true : Bool) = true) ((0 : Nat) = (0 : Nat))) (And (SV.view x (1 : Nat) (Enc.enc (encInt IntKind.u64)) l = SV.view x (1 : Nat) (Enc.enc (encInt IntKind.u64)) l) (And ((0 : Int) = (0 : Int)) (And (And ((true : Bool) = true) (And (List.length (List.flatMap be8 (List.take (FlT.i i0) l)) = (0 : Nat)) (FlT.cap i0 = (0 : Nat)))) (And (SV.view x (1 : Nat) (Enc.enc (encInt IntKind.u64)) l = SV.view x (1 : Nat) (Enc.enc (encInt IntKind.u64)) l) (And ((↑(List.length l) : Int) = (↑(List.length l) : Int)) (And ((↑(FlT.i i0) : Int) = (0 : Int)) True))))))) (And (And (And (And ((true : Bool) = true) (And (List.length b = List.length b) (cap = cap))) (And ((true : Bool) = true) (And ((0 : Int) = (0 : Int)) True))) (And ((true : Bool) = true) (And (And ((true : Bool) = true) (And (cap = cap) (And (List.map (Enc.enc (encInt IntKind.u8)) b = List.map (Enc.enc (encInt IntKind.u8)) b) (∀ x_1 : Int, (∀ a : x_1 ∈ b, (∀ s : SV, (∀ a_1 : s ∈ Enc.enc (encInt IntKind.u8) x_1, ((SV.isPure s : Bool) = (true))))))))) (And ((true : Bool) = true) (And (And ((true : Bool) = true) (And (FlT.cap i0 = (0 : Nat)) (And (List.map (Enc.enc (encInt IntKind.u8)) (List.flatMap be8 (List.take (FlT.i i0) l)) = List.map (Enc.enc (encInt IntKind.u8)) []) (∀ x_1 : Int, (∀ a : x_1 ∈ List.flatMap be8 (List.take (FlT.i i0) l), (∀ s : SV, (∀ a_1 : s ∈ Enc.enc (encInt IntKind.u8) x_1, ((SV.isPure s : Bool) = (true))))))))) (And ((true : Bool) = true) True)))))) ((true : Bool) = true)))) (∀ i : FlT be8 l, (∀ a : True, (@Bool.rec (fun _ => Prop) (And (List.length (List.flatMap be8 (List.take (FlT.i i) l)) ≤ List.length (List.flatMap be8 (List.take (FlT.i i) l))) (And (List.length (List.flatMap be8 (List.take (FlT.i i) l)) ≤ FlT.cap i) (And (FlT.cap i = FlT.cap i) (And (∀ y : Int, ((true : Bool) = true)) (∀ x_1 : Value, (∃ l_1 : List Int, (And (List.map (Enc.enc (encInt IntKind.u8)) (List.take (List.length (List.flatMap be8 (List.take (FlT.i i) l))) (List.flatMap be8 (List.take (FlT.i i) l))) = List.map eB l_1) (∃ b_1 : List Int, (And (List.map (Enc.enc (encInt IntKind.u8)) b = List.map (Enc.enc (encInt IntKind.u8)) b_1) (And (And (List.length b = List.length b_1) (And (cap = cap) (And (List.length b_1 ≤ (65536 : Nat)) (List.length b_1 ≤ cap)))) (∀ c : CapT (List.length (putL b_1 l_1)), (∃ o : CapT (List.length (putL b (List.flatMap be8 l))), (And (And (putE b (List.flatMap be8 l) = putE b_1 l_1) True) (And (And (And (And ((true : Bool) = true) (And (List.length (putL b (List.flatMap be8 l)) = List.length (putL b_1 l_1)) (CapT.cap o = CapT.cap c))) (And ((true : Bool) = true) (And ((0 : Int) = (0 : Int)) True))) (And ((true : Bool) = true) (And (And ((true : Bool) = true) (And (CapT.cap o = CapT.cap c) (And (List.map (Enc.enc (encInt IntKind.u8)) (putL b (List.flatMap be8 l)) = List.map (Enc.enc (encInt IntKind.u8)) (putL b_1 l_1)) (∀ x_2 : Int, (∀ a_1 : x_2 ∈ putL b (List.flatMap be8 l), (∀ s : SV, (∀ a_2 : s ∈ Enc.enc (encInt IntKind.u8) x_2, ((SV.isPure s : Bool) = (true))))))))) (And ((true : Bool) = true) True)))) ((true : Bool) = true))))))))))))))) (And ((0 : Int) ≤ (↑(FlT.i i) : Int)) (∃ hk : Int.toNat (↑(FlT.i i) : Int) < List.length l, (And True (∀ o : Unit, (And (List.length (List.flatMap be8 (List.take (FlT.i i) l)) = List.length (List.flatMap be8 (List.take (FlT.i i) l))) (And (FlT.cap i = FlT.cap i) (And ((0 : Nat) + (8 : Nat) ≤ (8 : Nat)) (And ((List.length (List.flatMap be8 (List.take (FlT.i i) l)) + (8 : Nat)) * (1 : Nat) ≤ (150000000000000 : Nat)) (∀ cap2 : Nat, (∀ a_1 : List.length (List.flatMap be8 (List.take (FlT.i i) l)) + (8 : Nat) ≤ cap2, (∃ i' : FlT be8 l, (And (And (List.length l - FlT.i i' < List.length l - FlT.i i) True) (And (And (And ((true : Bool) = true) ((0 : Nat) = (0 : Nat))) (And (SV.view x (1 : Nat) (Enc.enc (encInt IntKind.u64)) l = SV.view x (1 : Nat) (Enc.enc (encInt IntKind.u64)) l) (And ((0 : Int) = (0 : Int)) (And (And ((true : Bool) = true) (And (List.length (List.flatMap be8 (List.take (FlT.i i') l)) = List.length (List.flatMap be8 (List.take (FlT.i i) l) ++ castL (encInt IntKind.u8) (encInt IntKind.u8) (List.take (8 : Nat) (List.drop (0 : Nat) (be8 l[Int.toNat (↑(FlT.i i) : Int)]))))) (FlT.cap i' = cap2))) (And (SV.view x (1 : Nat) (Enc.enc (encInt IntKind.u64)) l = SV.view x (1 : Nat) (Enc.enc (encInt IntKind.u64)) l) (And ((↑(List.length l) : Int) = (↑(List.length l) : Int)) (And ((↑(FlT.i i') : Int) = IntKind.wrap IntKind.i64 ((↑(FlT.i i) : Int) + (1 : Int))) True))))))) (And (And (And (And ((true : Bool) = true) (And (List.length b = List.length b) (cap = cap))) (And ((true : Bool) = true) (And ((0 : Int) = (0 : Int)) True))) (And ((true : Bool) = true) (And (And ((true : Bool) = true) (And (cap = cap) (And (List.map (Enc.enc (encInt IntKind.u8)) b = List.map (Enc.enc (encInt IntKind.u8)) b) (∀ x_1 : Int, (∀ a_2 : x_1 ∈ b, (∀ s : SV, (∀ a_3 : s ∈ Enc.enc (encInt IntKind.u8) x_1, ((SV.isPure s : Bool) = (true))))))))) (And ((true : Bool) = true) (And (And ((true : Bool) = true) (And (FlT.cap i' = cap2) (And (List.map (Enc.enc (encInt IntKind.u8)) (List.flatMap be8 (List.take (FlT.i i') l)) = List.map (Enc.enc (encInt IntKind.u8)) (List.flatMap be8 (List.take (FlT.i i) l) ++ castL (encInt IntKind.u8) (encInt IntKind.u8) (List.take (8 : Nat) (List.drop (0 : Nat) (be8 l[Int.toNat (↑(FlT.i i) : Int)]))))) (∀ x_1 : Int, (∀ a_2 : x_1 ∈ List.flatMap be8 (List.take (FlT.i i') l), (∀ s : SV, (∀ a_3 : s ∈ Enc.enc (encInt IntKind.u8) x_1, ((SV.isPure s : Bool) = (true))))))))) (And ((true : Bool) = true) True)))))) ((true : Bool) = true))))))))))))))) (decide ((↑(FlT.i i) : Int) < (↑(List.length l) : Int))))))))) (by kernel_rfl) ?_
  refine ⟨⟨0, 0, Nat.zero_le _, Nat.le_refl _⟩, ?_, ?_⟩
  ·
    repeat' first | exact encB_pure _ | exact trivial | refine And.intro ?_ ?_ | with_reducible refine bif_dt (by assumption) ?_ | with_reducible refine bif_df (by assumption) ?_ | with_reducible refine bif_dec (fun _ => ?_) (fun _ => ?_) | with_reducible refine bif_not ?_ | with_reducible refine bif_and ?_ | with_reducible refine bif_or ?_ | with_reducible refine bif_t (by assumption) ?_ | with_reducible refine bif_f (by assumption) ?_ | with_reducible refine bif_t (beq_self_eq_true _) ?_ | with_reducible refine bif_b (fun _ => ?_) (fun _ => ?_) | with_reducible refine ⟨_, Eq.refl (List.map _ _), ?_⟩ | (with_reducible refine Exists.intro (by omega) ?_) | rfl | (intro h0; omega) | omega
  rintro ⟨i, cap1, hi, hc⟩ -
  dsimp only
  have hl8 : ∀ i, ((l.take i).flatMap be8).length = 8 * (l.take i).length := fun i => flat_mul fun _ _ => rfl
  have hm := hl8 i
  rw [List.length_take, Nat.min_eq_left hi] at hm
  refine bif_dec (fun h => ?_) (fun h => ?_)
  · have hi' : i < l.length := by omega
    simp only [Int.toNat_natCast, t8, castB, inext2 (show i < 9223372036854775807 by omega), flat_take be8 l hi']
    repeat (with_reducible refine And.intro (by first | exact trivial | omega | decide) ?_)
    refine ⟨hi', trivial, fun _ => ?_⟩
    repeat (with_reducible refine And.intro (by first | exact trivial | omega | decide) ?_)
    intro cap2 hc2
    have hm2 : ((l.take (i + 1)).flatMap be8).length = ((l.take i).flatMap be8).length + 8 := by rw [← flat_take be8 l hi', List.length_append]; rfl
    refine ⟨⟨i + 1, cap2, hi', by omega⟩, ⟨show l.length - (i + 1) < l.length - i by omega, trivial⟩, ?_⟩
    repeat' first | exact encB_pure _ | exact trivial | refine And.intro ?_ ?_ | with_reducible refine bif_dt (by assumption) ?_ | with_reducible refine bif_df (by assumption) ?_ | with_reducible refine bif_dec (fun _ => ?_) (fun _ => ?_) | with_reducible refine bif_not ?_ | with_reducible refine bif_and ?_ | with_reducible refine bif_or ?_ | with_reducible refine bif_t (by assumption) ?_ | with_reducible refine bif_f (by assumption) ?_ | with_reducible refine bif_t (beq_self_eq_true _) ?_ | with_reducible refine bif_b (fun _ => ?_) (fun _ => ?_) | with_reducible refine ⟨_, Eq.refl (List.map _ _), ?_⟩ | (with_reducible refine Exists.intro (by omega) ?_) | rfl | (intro h0; omega) | omega
  · have hil : i = l.length := by omega
    subst hil
    rw [flat_all be8 l (Nat.le_refl _)] at hc ⊢
    repeat (with_reducible refine And.intro (by first | exact trivial | omega | decide | exact fun _ => rfl) ?_)
    intro x1
    refine ⟨_, List.take_length ▸ rfl, b, rfl, ?_, fun c => ⟨c, ?_⟩⟩
    · exact ⟨rfl, rfl, h3, h4⟩
    repeat' first | exact encB_pure _ | exact trivial | refine And.intro ?_ ?_ | with_reducible refine bif_dt (by assumption) ?_ | with_reducible refine bif_df (by assumption) ?_ | with_reducible refine bif_dec (fun _ => ?_) (fun _ => ?_) | with_reducible refine bif_not ?_ | with_reducible refine bif_and ?_ | with_reducible refine bif_or ?_ | with_reducible refine bif_t (by assumption) ?_ | with_reducible refine bif_f (by assumption) ?_ | with_reducible refine bif_t (beq_self_eq_true _) ?_ | with_reducible refine bif_b (fun _ => ?_) (fun _ => ?_) | with_reducible refine ⟨_, Eq.refl (List.map _ _), ?_⟩ | (with_reducible refine Exists.intro (by omega) ?_) | rfl | (intro h0; omega) | omega
abbrev hV (x : Value) (l : List (List Int)) : M := .one (.view x 32 (encInts .u8 32).enc l)
abbrev eU : Int → List SV := (encInt .u64).enc
def uintwT : MT := fun ms n h K => match ms with
  | [.one (.ptr P0 0), .one (.view vx0 ve0 en0 vl0)] => (match get h P0 with
    | some (.cells [.nslc P1 1 len cap, .v (.bool true), .v (.int .i64 0)]) => (match get h P1 with
    | some (.row we1 wn1 wl1 cap2) => bif Nat.beq ve0 1 && Nat.beq we1 1 && noDup [P0, P1] then ∃ l : List (Int), vl0.map en0 = l.map eU ∧ ∃ b : List (Int), wl1.map wn1.enc = b.map ((encInt .u8)).enc ∧ ((len = b.length ∧ cap = cap2 ∧ b.length ≤ 65536 ∧ b.length ≤ cap2 ∧ l.length * 8 ≤ 140737488351232)) ∧ (∀ c : CapT (putL b (l.flatMap be8)).length, K (n + 1) (int (putE b (l.flatMap be8))) ([(P0, .cells [.nslc n 1 (putL b (l.flatMap be8)).length c.cap, .v (.bool true), .v (.int .i64 0)]), (n, .row 1 (encInt .u8) (putL b (l.flatMap be8)) c.cap)] ++ delL [P0, P1] h)) else False
    | _ => False)
    | _ => False)
  | _ => False
theorem uintw_mono : MMono uintwT := by
  intro ms n h K K' hkk hk
  unfold uintwT at hk ⊢
  split at hk
  · rename_i P0 vx0 ve0 va0 en0 vl0
    split at hk
    · rename_i P1 len cap hg0
      try simp only [hg0]
      split at hk
      · rename_i we1 wa1 wn1 wl1 cap2 hg1
        try simp only [hg1]
        obtain ⟨hb, y0, z0, y1, z1, h1, h2⟩ := cond_false_elim hk
        rw [hb]
        exact ⟨y0, z0, y1, z1, h1, fun o => hkk _ _ _ (h2 o)⟩
      · exact hk.elim
    · exact hk.elim
  · exact hk.elim
theorem uintw_ok : MOK Tryd.prog 33 uintwT := by
  refine ⟨?_, uintw_mono⟩
  intro ms n hB K hk
  unfold uintwT at hk
  split at hk
  · rename_i P0 vx0 ve0 va0 en0 vl0
    split at hk
    · rename_i P1 len cap hg0
      split at hk
      · rename_i we1 wa1 wn1 wl1 cap2 hg1
        obtain ⟨hb, l, he0, b, hl1, h, hk2⟩ := cond_false_elim hk
        clear hk
        simp only [Bool.and_eq_true] at hb
        obtain ⟨⟨hc0, hc1⟩, hnd⟩ := hb
        have hs0 := Nat.eq_of_beq_eq_true hc0
        subst hs0
        have hs1 := Nat.eq_of_beq_eq_true hc1
        subst hs1
        refine SCall.seen ?_ (.cons (.refl _) (.cons (.view he0) .nil))
        exact (uint_spec _ h.1 h.2.1 h.2.2.1 h.2.2.2.1 h.2.2.2.2).use (fun j => match j with | 0 => P0 | 1 => P1 | _ => 0) rfl rfl ⟨by show (match get hB P0 with | some b0 => Blk.imp _ _ _ b0 | none => False); rw [hg0]; exact ⟨rfl, rfl⟩, rfl, ⟨by show (match get hB P1 with | some b0 => Blk.imp _ _ _ b0 | none => False); rw [hg1]; exact ⟨rfl, rfl, hl1.symm, fun y _ => Enc.pures _ y⟩, rfl, trivial⟩⟩ (by exact hnd) (fun j hj => by cases j with
            | zero => exact ⟨_, rfl⟩
            | succ j => cases j with
             | zero => exact ⟨_, rfl⟩
             | succ j => omega) (fun o => hk2 o)
      · exact hk.elim
    · exact hk.elim
  · exact hk.elim

theorem wbytes_spec {b : List Int} {len cap cap' : Nat} (h1 : len = b.length) (h2 : cap = cap') (h3 : b.length ≤ cap') (h4 : b.length ≤ 65536) :
    SMem Tryd.prog 35 [.one (.ptr 0 0)] 2 [(0, .cells [.nslc 1 1 len cap, .v (.bool true), .v (.int .i64 0)]), (1, .row 1 (encInt .u8) b cap')]
    (fun x : Value => ⟨2, byV x b, [(0, .cells [.nslc 1 1 len cap, .v (.bool true), .v (.int .i64 0)]), (1, .row 1 (encInt .u8) b cap')]⟩) := by
  subst h1
  subst h2
  refine SMem.inf 1 EB [] SOK.nil [] MSOK.nil tok mixed [(45, ⟨Tryd.f45, true, [], []⟩), (26, ⟨Tryd.f26, true, [], []⟩)] (IOK.cons Tryd.func45 Tryd.call45 (IOK.cons Tryd.func26 Tryd.call26 IOK.nil)) true [] [] Tryd.call35 Tryd.func35 rfl (by rfl) ?_
  refine Eq.mp (α := (@Bool.rec (fun _ => Prop) (And ((0 : Nat) = (0 : Nat)) (And ((0 : Nat) = (0 : Nat)) (And (List.length b ≤ List.length b) (And (cap = cap) (And (((0 : Nat) + List.length (castL (encInt IntKind.u8) (encInt IntKind.u8) (List.take (List.length b) b))) * (1 : Nat) ≤ (150000000000000 : Nat)) (∀ cap2 : Nat, (∀ a : (0 : Nat) + List.length (castL (encInt IntKind.u8) (encInt IntKind.u8) (List.take (List.length b) b)) ≤ cap2, (And ((0 : Nat) + List.length ([] ++ castL (encInt IntKind.u8) (encInt IntKind.u8) (List.take (List.length b) b)) ≤ List.length ([] ++ castL (encInt IntKind.u8) (encInt IntKind.u8) (List.take (List.length b) b))) (And (List.length ([] ++ castL (encInt IntKind.u8) (encInt IntKind.u8) (List.take (List.length b) b)) ≤ cap2) (And (∀ y : Int, ((true : Bool) = true)) (∀ x : Value, (∃ o : Value, (And (And (SV.view o (1 : Nat) (Enc.enc (encInt IntKind.u8)) b = nilV (1 : Nat) EB (SV.view x (1 : Nat) (Enc.enc (encInt IntKind.u8)) (List.take (List.length ([] ++ castL (encInt IntKind.u8) (encInt IntKind.u8) (List.take (List.length b) b))) (List.drop (0 : Nat) ([] ++ castL (encInt IntKind.u8) (encInt IntKind.u8) (List.take (List.length b) b)))))) True) (And (And (And (And ((true : Bool) = true) (And (List.length b = List.length b) (cap = cap))) (And ((true : Bool) = true) (And ((0 : Int) = (0 : Int)) True))) (And ((true : Bool) = true) (And (And ((true : Bool) = true) (And (cap = cap) (And (List.map (Enc.enc (encInt IntKind.u8)) b = List.map (Enc.enc (encInt IntKind.u8)) b) (∀ x_1 : Int, (∀ a_1 : x_1 ∈ b, (∀ s : SV, (∀ a_2 : s ∈ Enc.enc (encInt IntKind.u8) x_1, ((SV.isPure s : Bool) = (true))))))))) (And ((true : Bool) = true) True)))) ((true : Bool) = true))))))))))))))) (∃ o : Value, (And (And (SV.view o (1 : Nat) (Enc.enc (encInt IntKind.u8)) b = nilV (1 : Nat) EB (SV.v (Value.slice none (0 : Nat) (0 : Nat)))) True) (And (And (And (And ((true : Bool) = true) (And (List.length b = List.length b) (cap = cap))) (And ((true : Bool) = true) (And ((0 : Int) = (0 : Int)) True))) (And ((true : Bool) = true) (And (And ((true : Bool) = true) (And (cap = cap) (And (List.map (Enc.enc (encInt IntKind.u8)) b = List.map (Enc.enc (encInt IntKind.u8)) b) (∀ x : Int, (∀ a : x ∈ b, (∀ s : SV, (∀ a_1 : s ∈ Enc.enc (encInt IntKind.u8) x, ((SV.isPure s : Bool) = (true))))))))) (And ((true : Bool) = true) True)))) ((true : Bool) = true)))) (Nat.beq cap (0 : Nat)))) (by kernel_rfl) ?_
  have ht : List.take b.length b = b := List.take_length
  simp only [ht, castB, List.nil_append, List.drop_zero, Nat.zero_add]
  refine bif_b (fun hc => ?_) (fun hc => ?_)
  · have hc0 : cap = 0 := Nat.eq_of_beq_eq_true hc
    have hb : b = [] := List.eq_nil_of_length_eq_zero (by omega)
    subst hb
    refine ⟨.slice none 0 0, ?_⟩
    repeat' first | exact encB_pure _ | exact trivial | refine And.intro ?_ ?_ | with_reducible refine bif_dt (by assumption) ?_ | with_reducible refine bif_df (by assumption) ?_ | with_reducible refine bif_dec (fun _ => ?_) (fun _ => ?_) | with_reducible refine bif_not ?_ | with_reducible refine bif_and ?_ | with_reducible refine bif_or ?_ | with_reducible refine bif_t (by assumption) ?_ | with_reducible refine bif_f (by assumption) ?_ | with_reducible refine bif_t (beq_self_eq_true _) ?_ | with_reducible refine bif_b (fun _ => ?_) (fun _ => ?_) | with_reducible refine ⟨_, Eq.refl (List.map _ _), ?_⟩ | (with_reducible refine Exists.intro (by omega) ?_) | rfl | (intro h0; omega) | omega
  ·
    repeat (with_reducible refine And.intro (by first | exact trivial | omega | decide) ?_)
    intro cap2 hc2
    repeat (with_reducible refine And.intro (by first | exact trivial | omega | decide | exact fun _ => rfl | exact fun _ => trivial) ?_)
    intro x
    refine ⟨x, ?_⟩
    repeat' first | exact encB_pure _ | exact trivial | refine And.intro ?_ ?_ | with_reducible refine bif_dt (by assumption) ?_ | with_reducible refine bif_df (by assumption) ?_ | with_reducible refine bif_dec (fun _ => ?_) (fun _ => ?_) | with_reducible refine bif_not ?_ | with_reducible refine bif_and ?_ | with_reducible refine bif_or ?_ | with_reducible refine bif_t (by assumption) ?_ | with_reducible refine bif_f (by assumption) ?_ | with_reducible refine bif_t (beq_self_eq_true _) ?_ | with_reducible refine bif_b (fun _ => ?_) (fun _ => ?_) | with_reducible refine ⟨_, Eq.refl (List.map _ _), ?_⟩ | (with_reducible refine Exists.intro (by omega) ?_) | rfl | (intro h0; omega) | omega
def wbytesT : MT := fun ms n h K => match ms with
  | [.one (.ptr P0 0)] => (match get h P0 with
    | some (.cells [.nslc P1 1 len cap, .v (.bool true), .v (.int .i64 0)]) => (match get h P1 with
    | some (.row we1 wn1 wl1 cap2) => bif Nat.beq we1 1 && noDup [P0, P1] then ∃ b : List (Int), wl1.map wn1.enc = b.map ((encInt .u8)).enc ∧ ((len = b.length ∧ cap = cap2 ∧ b.length ≤ cap2 ∧ b.length ≤ 65536)) ∧ (∀ x : Value, K (n + 0) (byV x b) ([(P0, .cells [.nslc P1 1 len cap, .v (.bool true), .v (.int .i64 0)]), (P1, .row 1 (encInt .u8) b cap2)] ++ delL [P0, P1] h)) else False
    | _ => False)
    | _ => False)
  | _ => False
theorem wbytes_mono : MMono wbytesT := by
  intro ms n h K K' hkk hk
  unfold wbytesT at hk ⊢
  split at hk
  · rename_i P0
    split at hk
    · rename_i P1 len cap hg0
      try simp only [hg0]
      split at hk
      · rename_i we1 wa1 wn1 wl1 cap2 hg1
        try simp only [hg1]
        obtain ⟨hb, y0, z0, h1, h2⟩ := cond_false_elim hk
        rw [hb]
        exact ⟨y0, z0, h1, fun o => hkk _ _ _ (h2 o)⟩
      · exact hk.elim
    · exact hk.elim
  · exact hk.elim
theorem wbytes_ok : MOK Tryd.prog 35 wbytesT := by
  refine ⟨?_, wbytes_mono⟩
  intro ms n hB K hk
  unfold wbytesT at hk
  split at hk
  · rename_i P0
    split at hk
    · rename_i P1 len cap hg0
      split at hk
      · rename_i we1 wa1 wn1 wl1 cap2 hg1
        obtain ⟨hb, b, hl1, h, hk2⟩ := cond_false_elim hk
        clear hk
        simp only [Bool.and_eq_true] at hb
        obtain ⟨hc0, hnd⟩ := hb
        have hs0 := Nat.eq_of_beq_eq_true hc0
        subst hs0
        refine SCall.seen ?_ (.cons (.refl _) .nil)
        exact (wbytes_spec h.1 h.2.1 h.2.2.1 h.2.2.2).use (fun j => match j with | 0 => P0 | 1 => P1 | _ => 0) rfl rfl ⟨by show (match get hB P0 with | some b0 => Blk.imp _ _ _ b0 | none => False); rw [hg0]; exact ⟨rfl, rfl⟩, rfl, ⟨by show (match get hB P1 with | some b0 => Blk.imp _ _ _ b0 | none => False); rw [hg1]; exact ⟨rfl, rfl, hl1.symm, fun y _ => Enc.pures _ y⟩, rfl, trivial⟩⟩ (by exact hnd) (fun j hj => by cases j with
            | zero => exact ⟨_, rfl⟩
            | succ j => cases j with
             | zero => exact ⟨_, rfl⟩
             | succ j => omega) (fun o => hk2 o)
      · exact hk.elim
    · exact hk.elim
  · exact hk.elim

open Go Go.Sx Go.Sha

theorem wrapU {n : Int} (h0 : 0 ≤ n) (h1 : n < 9223372036854775808) : IntKind.u64.wrap n = n := by rw [wrapU64]; omega
theorem put8 (n : Int) : putL [] ([n].flatMap be8) = be8 n := by
  rw [List.flatMap_cons, List.flatMap_nil, List.append_nil, putL_fit (by rw [be8_length]; decide), List.nil_append]
theorem lanu_spec {n : Int} (h0 : 0 ≤ n) (h1 : n < 9223372036854775808) : SMem Tryd.prog 46 [int n] 0 [] (fun y : Value => ⟨0, byV y (be8 n), []⟩) := by
  refine SMem.inm [] SOK.nil [(32, writerT), (33, uintwT), (35, wbytesT)] (MSOK.cons writer_ok (MSOK.cons uintw_ok (MSOK.cons wbytes_ok MSOK.nil))) tok mixed [] IOK.nil true [] [] Tryd.call46 Tryd.func46 rfl (by rfl) ?_
  refine Eq.mp (α := (And True (∀ o : Unit, (And ((0 : Nat) + (1 : Nat) ≤ (1 : Nat)) (And ((1 : Nat) ≤ (1 : Nat)) (And (∀ y : Int, ((true : Bool) = true)) (∀ x : Value, (∃ l : List Int, (And (List.map (Enc.enc (encInt IntKind.u64)) (List.take (1 : Nat) (List.drop (0 : Nat) [Enc.of (encInt IntKind.u64) (IntKind.wrap IntKind.u64 n, ())])) = List.map eU l) (∃ b : List Int, (And (List.map (Enc.enc (encInt IntKind.u8)) [] = List.map (Enc.enc (encInt IntKind.u8)) b) (And (And ((0 : Nat) = List.length b) (And ((0 : Nat) = (0 : Nat)) (And (List.length b ≤ (65536 : Nat)) (And (List.length b ≤ (0 : Nat)) (List.length l * (8 : Nat) ≤ (140737488351232 : Nat)))))) (∀ c : CapT (List.length (putL b (List.flatMap be8 l))), (∃ b_1 : List Int, (And (List.map (Enc.enc (encInt IntKind.u8)) (putL b (List.flatMap be8 l)) = List.map (Enc.enc (encInt IntKind.u8)) b_1) (And (And (List.length (putL b (List.flatMap be8 l)) = List.length b_1) (And (CapT.cap c = CapT.cap c) (And (List.length b_1 ≤ CapT.cap c) (List.length b_1 ≤ (65536 : Nat))))) (∀ x_1 : Value, (∃ o_1 : Value, (And (And (SV.view o_1 (1 : Nat) (Enc.enc (encInt IntKind.u8)) (be8 n) = SV.view x_1 (1 : Nat) (Enc.enc (encInt IntKind.u8)) b_1) True) (And True ((true : Bool) = true))))))))))))))))))))) (by kernel_rfl) ?_
  have hU : (encInt IntKind.u64).of (IntKind.u64.wrap n, ()) = n := wrapU h0 h1
  refine ⟨trivial, fun _ => ⟨by omega, by omega, fun _ => rfl, fun x => ⟨[n], by rw [hU]; rfl, [], rfl, ⟨rfl, rfl, by decide, by decide, by show 1 * 8 ≤ _; decide⟩, fun c => ⟨_, rfl, ⟨rfl, rfl, c.h, ?_⟩, fun x1 => ⟨x1, ?_⟩⟩⟩⟩⟩
  · rw [put8, be8_length]; decide
  · rw [put8]
    repeat' first | exact trivial | refine And.intro ?_ ?_ | with_reducible refine bif_dt (by assumption) ?_ | with_reducible refine bif_df (by assumption) ?_ | with_reducible refine bif_dec (fun _ => ?_) (fun _ => ?_) | with_reducible refine bif_not ?_ | with_reducible refine bif_and ?_ | with_reducible refine bif_or ?_ | with_reducible refine bif_t (by assumption) ?_ | with_reducible refine bif_f (by assumption) ?_ | with_reducible refine bif_t (beq_self_eq_true _) ?_ | with_reducible refine bif_b (fun _ => ?_) (fun _ => ?_) | with_reducible refine ⟨_, Eq.refl (List.map _ _), ?_⟩ | (with_reducible refine Exists.intro (by omega) ?_) | rfl | (intro h0; omega) | omega
def lanuT : MT := fun ms n h K => match ms with
  | [.one (.v (.int .i64 n_))] => bif true then ((0 ≤ n_ ∧ n_ < 9223372036854775808)) ∧ (∀ y : Value, K (n + 0) (byV y (be8 n_)) ([] ++ delL [] h)) else False
  | _ => False
theorem lanu_mono : MMono lanuT := by
  intro ms n h K K' hkk hk
  unfold lanuT at hk ⊢
  split at hk
  · rename_i n_
    obtain ⟨hb, h1, h2⟩ := cond_false_elim hk
    rw [hb]
    exact ⟨h1, fun o => hkk _ _ _ (h2 o)⟩
  · exact hk.elim
theorem lanu_ok : MOK Tryd.prog 46 lanuT := by
  refine ⟨?_, lanu_mono⟩
  intro ms n hB K hk
  unfold lanuT at hk
  split at hk
  · rename_i n_
    obtain ⟨hb, h, hk2⟩ := cond_false_elim hk
    clear hk
    have hnd : noDup [] = true := rfl
    refine SCall.seen ?_ (.cons (.refl _) .nil)
    exact (lanu_spec h.1 h.2).use (fun _ => 0) rfl rfl trivial (by exact hnd) (fun j hj => absurd hj (Nat.not_lt_zero j)) (fun o => hk2 o)
  · exact hk.elim

noncomputable def itF (i : Int) (b : List Int) : List Int := shaF (frameF [105, 116, 101, 109] [be8 i, b])
noncomputable def topF (c : Int) (h : List Int) : List Int := shaF (frameF [108, 105, 115, 116] [be8 c, h])
theorem itF_length (i : Int) (b : List Int) : (itF i b).length = 32 := shaF_length _
theorem itF_By (i : Int) (b : List Int) : By (itF i b) := shaF_By _
theorem topF_length (i : Int) (b : List Int) : (topF i b).length = 32 := shaF_length _
theorem frm_item (x y : Value) (a b : List Int) : frm { data := #[105, 116, 101, 109] } [mkB x a, mkB y b] = frameF [105, 116, 101, 109] [a, b] := by
  unfold frm
  rw [List.map_cons, List.map_cons, List.map_nil, bl_mk, bl_mk]
  rfl
theorem frm_list (x y : Value) (a b : List Int) : frm { data := #[108, 105, 115, 116] } [mkB x a, mkB y b] = frameF [108, 105, 115, 116] [a, b] := by
  unfold frm
  rw [List.map_cons, List.map_cons, List.map_nil, bl_mk, bl_mk]
  rfl
theorem two_len (x y : Value) (i : Int) {b : List Int} (h : b.length ≤ 1000000000) : ([mkB x (be8 i), mkB y b].flatMap fB).length ≤ 140000000000000 := by
  rw [List.flatMap_cons, List.flatMap_cons, List.flatMap_nil, fB_mk, fB_mk]
  simp [blb_length, be8_length]
  omega
theorem two_By (x y : Value) (i : Int) {b : List Int} (h : By b) : ∀ z ∈ [mkB x (be8 i), mkB y b], By (bl z) := by
  intro z hz
  rcases List.mem_cons.1 hz with rfl | hz
  · rw [bl_mk]; exact be8_By _
  · rcases List.mem_cons.1 hz with rfl | hz
    · rw [bl_mk]; exact h
    · cases hz
theorem item_spec (x : Value) {i : Int} {b : List Int} (h0 : 0 ≤ i) (h1 : i < 9223372036854775808) (hb : By b) (hl : b.length ≤ 1000000000) : SFun Tryd.prog 47 [int i, byV x b] (h32 (itF i b)) := by
  refine SFun.inm [] SOK.nil [(46, lanuT), (30, taggedMT)] (MSOK.cons lanu_ok (MSOK.cons taggedM_ok MSOK.nil)) tok mixed [] IOK.nil true [] [] Tryd.call47 Tryd.func47 rfl (by rfl) ?_
  refine Eq.mp (α := (And (And ((0 : Int) ≤ i) (i < (9223372036854775808 : Int))) (∀ y : Value, (∃ l' : List (RK.TL [RK.int IntKind.u8]), (And (List.map (Enc.enc (encInt IntKind.u8)) (be8 i) = List.map (RK.svs [RK.int IntKind.u8]) l') (∃ l'_1 : List (RK.TL [RK.int IntKind.u8]), (And (List.map (Enc.enc (encInt IntKind.u8)) b = List.map (RK.svs [RK.int IntKind.u8]) l'_1) (And ((0 : Nat) + (2 : Nat) ≤ (2 : Nat)) (And ((2 : Nat) ≤ (2 : Nat)) (And (∀ y_1 : RK.TL [RK.sl (1 : Nat) [RK.int IntKind.u8]], ((true : Bool) = true)) (∀ x_1 : Value, (∃ l : List BTy, (And (List.map (Enc.enc (encRec [RK.sl (1 : Nat) [RK.int IntKind.u8]])) (List.take (2 : Nat) (List.drop (0 : Nat) [Enc.of (encRec [RK.sl (1 : Nat) [RK.int IntKind.u8]]) ((y, l'), ()), Enc.of (encRec [RK.sl (1 : Nat) [RK.int IntKind.u8]]) ((x, l'_1), ())])) = List.map eBl l) (And (And (List.length (List.flatMap fB l) ≤ (140000000000000 : Nat)) (And (ByteArray.size { data := #[(105 : UInt8), (116 : UInt8), (101 : UInt8), (109 : UInt8)] } ≤ (140737488351232 : Nat)) (∀ y_1 : BTy, (∀ a : y_1 ∈ l, (∀ x_2 : Int, (∀ a_1 : x_2 ∈ bl y_1, (And ((0 : Int) ≤ x_2) (x_2 < (256 : Int))))))))) (∀ o : Unit, (And (M.agg [SV.ints IntKind.u8 (32 : Nat) (shaF (frm { data := #[(105 : UInt8), (116 : UInt8), (101 : UInt8), (109 : UInt8)] } l))] = M.agg [SV.ints IntKind.u8 (32 : Nat) (itF i b)]) ((true : Bool) = true))))))))))))))))) (by kernel_rfl) ?_
  refine ⟨⟨h0, h1⟩, fun y => ⟨mkL (be8 i), encmk _, mkL b, encmk _, by omega, by omega, fun _ => rfl, fun x1 => ⟨[mkB y (be8 i), mkB x b], rfl, ⟨two_len _ _ _ hl, by decide, two_By _ _ _ hb⟩, fun _ => ?_⟩⟩⟩
  rw [frm_item]
  exact ⟨rfl, rfl⟩
def itemT : List M → (M → Prop) → Prop
  | [.one (.v (.int .i64 i)), .one (.view x0 es0 en0 l0)], K => bif Nat.beq es0 1 then ∃ b : List (Int), l0.map en0 = b.map eB ∧ ((0 ≤ i ∧ i < 9223372036854775808 ∧ By b ∧ b.length ≤ 1000000000) ∧ K (h32 (itF i b))) else False
  | _, _ => False
theorem item_ok : POK Tryd.prog 47 itemT := by
  intro ms K h
  unfold itemT at h ⊢
  split at h
  · obtain ⟨hb0, b, he0, h0⟩ := cond_false_elim (b := Nat.beq _ _) h
    have hs0 := Nat.eq_of_beq_eq_true hb0
    subst hs0
    exact ⟨_, h0.2, (item_spec _ h0.1.1 h0.1.2.1 h0.1.2.2.1 h0.1.2.2.2).seen (.cons (.refl _) (.cons (.view he0) .nil)), rfl, fun _ hk => by show cond _ _ _; refine (show cond true _ _ from ⟨_, he0, ?_⟩); exact ⟨h0.1, hk⟩⟩
  · exact h.elim

theorem ex2 {z z1 : Value} {a b : List Int} {P : List BTy → Prop} (h : P [mkB z a, mkB z1 b]) : ∃ l, List.map (encRec [.sl 1 [.int .u8]]).enc (List.take 2 (List.drop 0 [(encRec [.sl 1 [.int .u8]]).of ((z, mkL a), ()), (encRec [.sl 1 [.int .u8]]).of ((z1, mkL b), ())])) = List.map eBl l ∧ P l := ⟨_, rfl, h⟩
theorem top_spec {c : Int} {a : List Int} (h0 : 0 ≤ c) (h1 : c < 9223372036854775808) (ha : By a) (hl : a.length = 32) : SFun Tryd.prog 36 [int c, h32 a] (h32 (topF c a)) := by
  refine SFun.inm [] SOK.nil [(46, lanuT), (30, taggedMT)] (MSOK.cons lanu_ok (MSOK.cons taggedM_ok MSOK.nil)) tok mixed [] IOK.nil true [] [] Tryd.call36 Tryd.func36 rfl (by rfl) ?_
  refine Eq.mp (α := (And ((0 : Nat) ≤ (32 : Nat)) (And ((32 : Nat) ≤ (32 : Nat)) (And ((32 : Nat) ≤ (32 : Nat)) (And (And (And ((0 : Int) ≤ c) (c < (9223372036854775808 : Int))) (∀ y : Value, (And (And ((if (32 : Nat) = (0 : Nat) then (0 : Nat) else (0 : Nat)) + ((32 : Nat) - (0 : Nat)) ≤ (32 : Nat)) (And ((32 : Nat) - (0 : Nat) ≤ (32 : Nat) - (0 : Nat)) (∀ x : Value, (∃ l' : List (RK.TL [RK.int IntKind.u8]), (And (List.map (Enc.enc (encInt IntKind.u8)) (be8 c) = List.map (RK.svs [RK.int IntKind.u8]) l') (∃ l'_1 : List (RK.TL [RK.int IntKind.u8]), (And (List.map (fun b => [SV.v (Value.int IntKind.u8 b)]) (List.take ((32 : Nat) - (0 : Nat)) (List.drop (if (32 : Nat) = (0 : Nat) then (0 : Nat) else (0 : Nat)) a)) = List.map (RK.svs [RK.int IntKind.u8]) l'_1) (And (And ((0 : Nat) + (2 : Nat) ≤ (2 : Nat)) (And ((2 : Nat) ≤ (2 : Nat)) (And (∀ y_1 : RK.TL [RK.sl (1 : Nat) [RK.int IntKind.u8]], ((true : Bool) = true)) (∀ x_1 : Value, (∃ l : List BTy, (And (List.map (Enc.enc (encRec [RK.sl (1 : Nat) [RK.int IntKind.u8]])) (List.take (2 : Nat) (List.drop (0 : Nat) [Enc.of (encRec [RK.sl (1 : Nat) [RK.int IntKind.u8]]) ((y, l'), ()), Enc.of (encRec [RK.sl (1 : Nat) [RK.int IntKind.u8]]) ((x, l'_1), ())])) = List.map eBl l) (And (And (List.length (List.flatMap fB l) ≤ (140000000000000 : Nat)) (And (ByteArray.size { data := #[(108 : UInt8), (105 : UInt8), (115 : UInt8), (116 : UInt8)] } ≤ (140737488351232 : Nat)) (∀ y_1 : BTy, (∀ a_1 : y_1 ∈ l, (∀ x_2 : Int, (∀ a_2 : x_2 ∈ bl y_1, (And ((0 : Int) ≤ x_2) (x_2 < (256 : Int))))))))) (∀ o : Unit, (And (And (M.agg [SV.ints IntKind.u8 (32 : Nat) (shaF (frm { data := #[(108 : UInt8), (105 : UInt8), (115 : UInt8), (116 : UInt8)] } l))] = M.agg [SV.ints IntKind.u8 (32 : Nat) (topF c a)]) ((true : Bool) = true)) True))))))))) True)))))))) True))) True))))) (by kernel_rfl) ?_
  have ta : List.take (32 - 0) (List.drop (if (32 : Nat) = 0 then 0 else 0) a) = a := by
    show List.take 32 (List.drop 0 a) = a
    rw [List.drop_zero, List.take_of_length_le (by omega)]
  simp only [ta]
  have leaf : ∀ x x1 : Value, shaF (frm { data := #[108, 105, 115, 116] } [mkB x (be8 c), mkB x1 a]) = topF c a := fun x x1 => by rw [frm_list]; rfl
  repeat' first
    | exact trivial
    | exact two_len _ _ _ (by omega)
    | exact two_By _ _ _ ha
    | exact congrArg (fun z => M.agg [SV.ints IntKind.u8 32 z]) (leaf _ _)
    | exact CapT.h _
    | refine ⟨mkL (be8 c), encmk _, ?_⟩
    | refine ⟨mkL a, encmk _, ?_⟩
    | refine ex2 ?_
    | with_reducible refine And.intro ?_ ?_
    | (intro z)
    | omega
    | rfl
    | decide
def topT : List M → (M → Prop) → Prop
  | [.one (.v (.int .i64 c)), .agg [.ints .u8 32 a]], K => (0 ≤ c ∧ c < 9223372036854775808 ∧ By a ∧ a.length = 32) ∧ K (h32 (topF c a))
  | _, _ => False
theorem top_ok : POK Tryd.prog 36 topT := by
  intro ms K h
  unfold topT at h ⊢
  split at h
  · exact ⟨_, h.2, (top_spec h.1.1 h.1.2.1 h.1.2.2.1 h.1.2.2.2), rfl, fun _ hk => ⟨h.1, hk⟩⟩
  · exact h.elim

open Go Go.Sx Go.Sha

abbrev H32 : Enc (List Int) := encInts .u8 32
abbrev z32 : List Int := List.replicate 32 0
noncomputable def prF (a b : List Int) : List Int := shaF (pairF a b)
noncomputable def lev0 (l : List BTy) : List (List Int) := l.mapIdx fun i y => itF (i : Int) (bl y)
theorem lev0_length (l : List BTy) : (lev0 l).length = l.length := List.length_mapIdx
theorem lev0_get (l : List BTy) (i : Nat) (h : i < l.length) : (lev0 l)[i]'(by rw [lev0_length]; exact h) = itF (i : Int) (bl l[i]) := by
  unfold lev0
  rw [List.getElem_mapIdx]
abbrev Ok32 (l : List (List Int)) : Prop := ∀ a ∈ l, a.length = 32 ∧ By a
theorem lev0_ok (l : List BTy) : Ok32 (lev0 l) := fun a ha => by
  obtain ⟨i, hi, rfl⟩ := List.mem_iff_getElem.1 ha
  rw [lev0_length] at hi
  rw [lev0_get l i hi]
  exact ⟨itF_length _ _, itF_By _ _⟩
theorem next_ok : ∀ {l : List (List Int)}, Ok32 l → Ok32 (nextF prF l)
  | [], h => h
  | [a], h => h
  | a :: b :: r, h => fun x hx => by
    rcases List.mem_cons.1 hx with rfl | hx
    · exact ⟨shaF_length _, shaF_By _⟩
    · exact next_ok (fun y hy => h y (by simp [hy])) x hx
noncomputable def rootL (l : List BTy) : List Int := rootF prF z32 l.length (lev0 l)

structure L1T (l : List BTy) where
  i : Nat
  hi : i ≤ l.length
noncomputable def row1 (l : List BTy) (i : Nat) : List (List Int) := (lev0 l).take i ++ List.replicate (l.length - i) z32
theorem row1_length {l : List BTy} {i : Nat} (h : i ≤ l.length) : (row1 l i).length = l.length := by
  unfold row1
  rw [List.length_append, List.length_take, List.length_replicate, lev0_length]
  omega
theorem row1_set {l : List BTy} {i : Nat} (h : i < l.length) : (row1 l i).set i (itF (i : Int) (bl l[i])) = row1 l (i + 1) := by
  unfold row1
  have h1 : ((lev0 l).take i).length = i := by rw [List.length_take, lev0_length]; omega
  rw [List.set_append_right _ _ (by omega), h1, Nat.sub_self, show l.length - i = (l.length - (i + 1)) + 1 by omega, List.replicate_succ, List.set_cons_zero, List.take_add_one, List.getElem?_eq_getElem (by rw [lev0_length]; exact h), lev0_get l i h]
  simp
theorem row1_all (l : List BTy) : row1 l l.length = lev0 l := by
  unfold row1
  rw [Nat.sub_self, List.take_of_length_le (by rw [lev0_length]; exact Nat.le_refl _)]
  simp
structure L2T (l : List BTy) where
  lev : List (List Int)
  R : List (List Int)
  f : Nat
  hR : R.length = l.length
  hL : lev.length ≤ l.length
  hp : ∀ j (h : j < lev.length), R[j]? = some lev[j]
  hf : lev.length ≤ f
  hr : rootF prF z32 f lev = rootL l
  ok : Ok32 lev
structure L3T (l : List BTy) where
  lev : List (List Int)
  R : List (List Int)
  f : Nat
  n : Nat
  hR : R.length = l.length
  hL : lev.length ≤ l.length
  h1 : ∀ j, j < n → R[j]? = (nextF prF lev)[j]?
  h2 : ∀ j (h : j < lev.length), 2 * n ≤ j → R[j]? = some lev[j]
  hn : 2 * n ≤ lev.length
  hb : 1 < lev.length
  hf : lev.length ≤ f
  hr : rootF prF z32 f lev = rootL l
  ok : Ok32 lev
noncomputable abbrev lvI (x : Value) (l : List BTy) : List (Nat × Inv) := [
  (3, ⟨L1T l, fun p => ⟨2, [(1, int 0), (2, .one (.clo 38 [])), (6, .one (.ptr 0 0)), (7, .one (.slc 1 32 0 l.length l.length)), (15, bV x l), (16, int l.length), (17, int p.i)], [(0, .cells [.ints .u8 32 z32]), (1, .row 32 H32 (row1 l p.i) l.length)]⟩, fun p => l.length - p.i, fun _ _ => True⟩),
  (7, ⟨L2T l, fun p => ⟨2, [(1, int 0), (2, .one (.clo 38 [])), (6, .one (.ptr 0 0)), (7, .one (.slc 1 32 0 p.lev.length l.length))], [(0, .cells [.ints .u8 32 z32]), (1, .row 32 H32 p.R l.length)]⟩, fun p => p.lev.length, fun _ _ => True⟩),
  (11, ⟨L3T l, fun p => ⟨2, [(1, int 0), (2, .one (.clo 38 [])), (6, .one (.ptr 0 0)), (7, .one (.slc 1 32 0 p.lev.length l.length)), (10, int p.n), (11, int (2 * p.n : Nat))], [(0, .cells [.ints .u8 32 z32]), (1, .row 32 H32 p.R l.length)]⟩, fun p => p.lev.length - 2 * p.n, fun i j => j.lev = i.lev⟩)]
theorem row1_zero (l : List BTy) : row1 l 0 = List.replicate l.length z32 := by
  unfold row1
  rw [List.take_zero, List.nil_append, Nat.sub_zero]
theorem H32_pure (l : List (List Int)) : ∀ y ∈ l, ∀ s ∈ H32.enc y, s.isPure = true := fun y _ => Enc.pures H32 y
theorem set_one {lev R : List (List Int)} {n : Nat} (hR : lev.length ≤ R.length) (h1 : ∀ j, j < n → R[j]? = (nextF prF lev)[j]?) (h2 : ∀ j (h : j < lev.length), 2 * n ≤ j → R[j]? = some lev[j]) (hn : 2 * n + 1 = lev.length) :
    ∀ j (h : j < (nextF prF lev).length), (R.set n (R[2 * n]'(by omega)))[j]? = some (nextF prF lev)[j] := by
  intro j h
  have hl := nextF_length prF lev
  rw [← List.getElem?_eq_getElem h]
  by_cases e : j = n
  · subst e
    have a := h2 (2 * j) (by omega) (Nat.le_refl _)
    rw [List.getElem?_eq_getElem (by omega)] at a
    rw [List.getElem?_set_self (by omega), nextF_one prF lev j hn, a]
  · rw [List.getElem?_set_ne (fun h => e h.symm)]
    exact h1 j (by omega)
theorem set_two {lev R : List (List Int)} {n : Nat} (hR : lev.length ≤ R.length) (h1 : ∀ j, j < n → R[j]? = (nextF prF lev)[j]?) (h2 : ∀ j (h : j < lev.length), 2 * n ≤ j → R[j]? = some lev[j]) (hn : 2 * n + 1 < lev.length) :
    R[2 * n]'(by omega) = lev[2 * n] ∧ R[2 * n + 1]'(by omega) = lev[2 * n + 1] ∧ (∀ j, j < n + 1 → (R.set n (prF (R[2 * n]'(by omega)) (R[2 * n + 1]'(by omega))))[j]? = (nextF prF lev)[j]?) ∧ (∀ j (h : j < lev.length), 2 * (n + 1) ≤ j → (R.set n (prF (R[2 * n]'(by omega)) (R[2 * n + 1]'(by omega))))[j]? = some lev[j]) := by
  have a := h2 (2 * n) (by omega) (Nat.le_refl _)
  have b := h2 (2 * n + 1) (by omega) (by omega)
  rw [List.getElem?_eq_getElem (by omega)] at a b
  have a := Option.some.inj a
  have b := Option.some.inj b
  refine ⟨a, b, fun j hj => ?_, fun j hj h3 => ?_⟩
  · by_cases e : j = n
    · subst e
      rw [List.getElem?_set_self (by omega), nextF_two prF lev j hn, a, b]
    · rw [List.getElem?_set_ne (fun h => e h.symm)]
      exact h1 j (by omega)
  · rw [List.getElem?_set_ne (by omega)]
    exact h2 j hj (by omega)
theorem levels0_spec (x : Value) {l : List BTy} (h : l.length ≤ 1000) (h2 : ∀ y ∈ l, (bl y).length ≤ 1000000000) (hB : ∀ y ∈ l, By (bl y)) : SMem Tryd.prog 37 [bV x l, int 0, .one (.clo 38 [])] 0 [] (fun _ : Unit => ⟨0, h32 (rootL l), []⟩) := by
  refine SMem.inm [(47, itemT), (48, pairT)] (SOK.cons item_ok (SOK.cons pair_ok SOK.nil)) [] MSOK.nil tok mixed [(38, ⟨Tryd.f38, false, [], []⟩)] (IOK.cons Tryd.func38 Tryd.call38 IOK.nil) false (lvI x l) [] Tryd.call37 Tryd.func37 rfl (by rfl) ?_
  refine Eq.mp (α := (And ((0 : Int) ≤ (↑(List.length l) : Int)) (And ((0 : Int) ≤ (↑(List.length l) : Int)) (And (Int.toNat (↑(List.length l) : Int) ≤ Int.toNat (↑(List.length l) : Int)) (And ((32 : Nat) * Int.toNat (↑(List.length l) : Int) ≤ (281474976710656 : Nat)) (And (Int.toNat (↑(List.length l) : Int) ≤ (9223372036854775807 : Nat)) (∃ i0 : L1T l, (And (And True (And (And ((0 : Int) = (0 : Int)) (And (And ((38 : Nat) = (38 : Nat)) True) (And (And ((true : Bool) = true) ((0 : Nat) = (0 : Nat))) (And (And ((true : Bool) = true) (And ((0 : Nat) = (0 : Nat)) (And (List.length l = Int.toNat (↑(List.length l) : Int)) (List.length l = Int.toNat (↑(List.length l) : Int))))) (And (SV.view x (1 : Nat) (Enc.enc BE) l = SV.view x (1 : Nat) (Enc.enc BE) l) (And ((↑(List.length l) : Int) = (↑(List.length l) : Int)) (And ((↑(L1T.i i0) : Int) = (0 : Int)) True))))))) (And (And (And (z32 = List.replicate (32 : Nat) (0 : Int)) True) (And ((true : Bool) = true) (And (And ((true : Bool) = true) (And (List.length l = Int.toNat (↑(List.length l) : Int)) (And (List.map (Enc.enc H32) (row1 l (L1T.i i0)) = List.map (Enc.enc (encInts IntKind.u8 (32 : Nat))) (List.replicate (Int.toNat (↑(List.length l) : Int)) (Enc.of (encInts IntKind.u8 (32 : Nat)) (List.replicate (32 : Nat) (0 : Int), ())))) (∀ x_1 : List Int, (∀ a : x_1 ∈ row1 l (L1T.i i0), (∀ s : SV, (∀ a_1 : s ∈ Enc.enc H32 x_1, ((SV.isPure s : Bool) = (true))))))))) (And ((true : Bool) = true) True)))) ((true : Bool) = true)))) (∀ i : L1T l, (∀ a : True, (@Bool.rec (fun _ => Prop) (∃ i0_1 : L2T l, (And (And True (And (And ((0 : Int) = (0 : Int)) (And (And ((38 : Nat) = (38 : Nat)) True) (And (And ((true : Bool) = true) ((0 : Nat) = (0 : Nat))) (And (And ((true : Bool) = true) (And ((0 : Nat) = (0 : Nat)) (And (List.length (L2T.lev i0_1) = List.length l) (List.length l = List.length l)))) True)))) (And (And (And (z32 = z32) True) (And ((true : Bool) = true) (And (And ((true : Bool) = true) (And (List.length l = List.length l) (And (List.map (Enc.enc H32) (L2T.R i0_1) = List.map (Enc.enc H32) (row1 l (L1T.i i))) (∀ x_1 : List Int, (∀ a_1 : x_1 ∈ L2T.R i0_1, (∀ s : SV, (∀ a_2 : s ∈ Enc.enc H32 x_1, ((SV.isPure s : Bool) = (true))))))))) (And ((true : Bool) = true) True)))) ((true : Bool) = true)))) (∀ i_1 : L2T l, (∀ a_1 : True, (@Bool.rec (fun _ => Prop) (@Bool.rec (fun _ => Prop) (And ((0 : Int) ≤ (0 : Int)) (And (Int.toNat (0 : Int) < List.length (L2T.lev i_1)) (∃ hi : (0 : Nat) + Int.toNat (0 : Int) < List.length (L2T.R i_1), (∃ o : Unit, (And (And (And (rootL l = (L2T.R i_1)[(0 : Nat) + Int.toNat (0 : Int)]) True) True) (And True ((true : Bool) = true))))))) (∃ o : Unit, (And (And (And (rootL l = List.replicate (32 : Nat) (0 : Int)) True) True) (And True ((true : Bool) = true)))) ((↑(List.length (L2T.lev i_1)) : Int) == (0 : Int))) (∃ i0_2 : L3T l, (And (And (L3T.lev i0_2 = L3T.lev i0_2) (And (And ((0 : Int) = (0 : Int)) (And (And ((38 : Nat) = (38 : Nat)) True) (And (And ((true : Bool) = true) ((0 : Nat) = (0 : Nat))) (And (And ((true : Bool) = true) (And ((0 : Nat) = (0 : Nat)) (And (List.length (L3T.lev i0_2) = List.length (L2T.lev i_1)) (List.length l = List.length l)))) (And ((↑(L3T.n i0_2) : Int) = (0 : Int)) (And ((↑((2 : Nat) * L3T.n i0_2) : Int) = (0 : Int)) True)))))) (And (And (And (z32 = z32) True) (And ((true : Bool) = true) (And (And ((true : Bool) = true) (And (List.length l = List.length l) (And (List.map (Enc.enc H32) (L3T.R i0_2) = List.map (Enc.enc H32) (L2T.R i_1)) (∀ x_1 : List Int, (∀ a_2 : x_1 ∈ L3T.R i0_2, (∀ s : SV, (∀ a_3 : s ∈ Enc.enc H32 x_1, ((SV.isPure s : Bool) = (true))))))))) (And ((true : Bool) = true) True)))) ((true : Bool) = true)))) (∀ i_2 : L3T l, (∀ a_2 : L3T.lev i_2 = L3T.lev i0_2, (@Bool.rec (fun _ => Prop) (And ((0 : Int) ≤ (↑(L3T.n i_2) : Int)) (And ((0 : Nat) ≤ Int.toNat (↑(L3T.n i_2) : Int)) (And (Int.toNat (↑(L3T.n i_2) : Int) ≤ List.length l) (And (List.length l ≤ List.length l) (And ((2 : Int) ≠ (0 : Int)) (∃ i' : L2T l, (And (And (List.length (L2T.lev i') < List.length (L2T.lev i_1)) True) (And (And ((0 : Int) = (0 : Int)) (And (And ((38 : Nat) = (38 : Nat)) True) (And (And ((true : Bool) = true) ((0 : Nat) = (0 : Nat))) (And (And ((true : Bool) = true) (And ((0 : Nat) = if List.length l = (0 : Nat) then (0 : Nat) else (0 : Nat) + (0 : Nat)) (And (List.length (L2T.lev i') = Int.toNat (↑(L3T.n i_2) : Int) - (0 : Nat)) (List.length l = List.length l - (0 : Nat))))) True)))) (And (And (And (z32 = z32) True) (And ((true : Bool) = true) (And (And ((true : Bool) = true) (And (List.length l = List.length l) (And (List.map (Enc.enc H32) (L2T.R i') = List.map (Enc.enc H32) (L3T.R i_2)) (∀ x_1 : List Int, (∀ a_3 : x_1 ∈ L2T.R i', (∀ s : SV, (∀ a_4 : s ∈ Enc.enc H32 x_1, ((SV.isPure s : Bool) = (true))))))))) (And ((true : Bool) = true) True)))) ((true : Bool) = true)))))))))) (@Bool.rec (fun _ => Prop) (And ((0 : Int) ≤ (↑((2 : Nat) * L3T.n i_2) : Int)) (And (Int.toNat (↑((2 : Nat) * L3T.n i_2) : Int) < List.length (L3T.lev i_2)) (∃ hi : (0 : Nat) + Int.toNat (↑((2 : Nat) * L3T.n i_2) : Int) < List.length (L3T.R i_2), (And ((0 : Int) ≤ IntKind.wrap IntKind.i64 ((↑((2 : Nat) * L3T.n i_2) : Int) + (1 : Int))) (And (Int.toNat (IntKind.wrap IntKind.i64 ((↑((2 : Nat) * L3T.n i_2) : Int) + (1 : Int))) < List.length (L3T.lev i_2)) (∃ hi_1 : (0 : Nat) + Int.toNat (IntKind.wrap IntKind.i64 ((↑((2 : Nat) * L3T.n i_2) : Int) + (1 : Int))) < List.length (L3T.R i_2), (And (And (List.length (L3T.R i_2)[(0 : Nat) + Int.toNat (↑((2 : Nat) * L3T.n i_2) : Int)] = (32 : Nat)) (And (List.length (L3T.R i_2)[(0 : Nat) + Int.toNat (IntKind.wrap IntKind.i64 ((↑((2 : Nat) * L3T.n i_2) : Int) + (1 : Int)))] = (32 : Nat)) (And (∀ x_1 : Int, (∀ a_3 : x_1 ∈ (L3T.R i_2)[(0 : Nat) + Int.toNat (↑((2 : Nat) * L3T.n i_2) : Int)], (And ((0 : Int) ≤ x_1) (x_1 < (256 : Int))))) (∀ x_1 : Int, (∀ a_3 : x_1 ∈ (L3T.R i_2)[(0 : Nat) + Int.toNat (IntKind.wrap IntKind.i64 ((↑((2 : Nat) * L3T.n i_2) : Int) + (1 : Int)))], (And ((0 : Int) ≤ x_1) (x_1 < (256 : Int)))))))) (And ((0 : Int) ≤ (↑(L3T.n i_2) : Int)) (And (Int.toNat (↑(L3T.n i_2) : Int) < List.length (L3T.lev i_2)) (∃ hi_2 : (0 : Nat) + Int.toNat (↑(L3T.n i_2) : Int) < List.length (L3T.R i_2), (∃ i' : L3T l, (And (And (List.length (L3T.lev i') - (2 : Nat) * L3T.n i' < List.length (L3T.lev i_2) - (2 : Nat) * L3T.n i_2) (L3T.lev i' = L3T.lev i0_2)) (And (And ((0 : Int) = (0 : Int)) (And (And ((38 : Nat) = (38 : Nat)) True) (And (And ((true : Bool) = true) ((0 : Nat) = (0 : Nat))) (And (And ((true : Bool) = true) (And ((0 : Nat) = (0 : Nat)) (And (List.length (L3T.lev i') = List.length (L3T.lev i_2)) (List.length l = List.length l)))) (And ((↑(L3T.n i') : Int) = IntKind.wrap IntKind.i64 ((↑(L3T.n i_2) : Int) + (1 : Int))) (And ((↑((2 : Nat) * L3T.n i') : Int) = IntKind.wrap IntKind.i64 ((↑((2 : Nat) * L3T.n i_2) : Int) + (2 : Int))) True)))))) (And (And (And (z32 = z32) True) (And ((true : Bool) = true) (And (And ((true : Bool) = true) (And (List.length l = List.length l) (And (List.map (Enc.enc H32) (L3T.R i') = List.map (Enc.enc H32) (List.set (L3T.R i_2) ((0 : Nat) + Int.toNat (↑(L3T.n i_2) : Int)) (Enc.of H32 (shaF (pairF (L3T.R i_2)[(0 : Nat) + Int.toNat (↑((2 : Nat) * L3T.n i_2) : Int)] (L3T.R i_2)[(0 : Nat) + Int.toNat (IntKind.wrap IntKind.i64 ((↑((2 : Nat) * L3T.n i_2) : Int) + (1 : Int)))]), ())))) (∀ x_1 : List Int, (∀ a_3 : x_1 ∈ L3T.R i', (∀ s : SV, (∀ a_4 : s ∈ Enc.enc H32 x_1, ((SV.isPure s : Bool) = (true))))))))) (And ((true : Bool) = true) True)))) ((true : Bool) = true))))))))))))))) (And ((0 : Int) ≤ (↑((2 : Nat) * L3T.n i_2) : Int)) (And (Int.toNat (↑((2 : Nat) * L3T.n i_2) : Int) < List.length (L3T.lev i_2)) (∃ hi : (0 : Nat) + Int.toNat (↑((2 : Nat) * L3T.n i_2) : Int) < List.length (L3T.R i_2), (And ((0 : Int) ≤ (↑(L3T.n i_2) : Int)) (And (Int.toNat (↑(L3T.n i_2) : Int) < List.length (L3T.lev i_2)) (∃ hi_1 : (0 : Nat) + Int.toNat (↑(L3T.n i_2) : Int) < List.length (L3T.R i_2), (And ((0 : Int) ≤ IntKind.wrap IntKind.i64 ((↑(L3T.n i_2) : Int) + (1 : Int))) (And ((0 : Nat) ≤ Int.toNat (IntKind.wrap IntKind.i64 ((↑(L3T.n i_2) : Int) + (1 : Int)))) (And (Int.toNat (IntKind.wrap IntKind.i64 ((↑(L3T.n i_2) : Int) + (1 : Int))) ≤ List.length l) (And (List.length l ≤ List.length l) (And ((2 : Int) ≠ (0 : Int)) (∃ i' : L2T l, (And (And (List.length (L2T.lev i') < List.length (L2T.lev i_1)) True) (And (And ((0 : Int) = (0 : Int)) (And (And ((38 : Nat) = (38 : Nat)) True) (And (And ((true : Bool) = true) ((0 : Nat) = (0 : Nat))) (And (And ((true : Bool) = true) (And ((0 : Nat) = if List.length l = (0 : Nat) then (0 : Nat) else (0 : Nat) + (0 : Nat)) (And (List.length (L2T.lev i') = Int.toNat (IntKind.wrap IntKind.i64 ((↑(L3T.n i_2) : Int) + (1 : Int))) - (0 : Nat)) (List.length l = List.length l - (0 : Nat))))) True)))) (And (And (And (z32 = z32) True) (And ((true : Bool) = true) (And (And ((true : Bool) = true) (And (List.length l = List.length l) (And (List.map (Enc.enc H32) (L2T.R i') = List.map (Enc.enc H32) (List.set (L3T.R i_2) ((0 : Nat) + Int.toNat (↑(L3T.n i_2) : Int)) (Enc.of H32 ((L3T.R i_2)[(0 : Nat) + Int.toNat (↑((2 : Nat) * L3T.n i_2) : Int)], ())))) (∀ x_1 : List Int, (∀ a_3 : x_1 ∈ L2T.R i', (∀ s : SV, (∀ a_4 : s ∈ Enc.enc H32 x_1, ((SV.isPure s : Bool) = (true))))))))) (And ((true : Bool) = true) True)))) ((true : Bool) = true)))))))))))))))) (IntKind.wrap IntKind.i64 ((↑((2 : Nat) * L3T.n i_2) : Int) + (1 : Int)) == (↑(List.length (L3T.lev i_2)) : Int))) (decide ((↑((2 : Nat) * L3T.n i_2) : Int) < (↑(List.length (L3T.lev i_2)) : Int)))))))) (decide ((1 : Int) < (↑(List.length (L2T.lev i_1)) : Int)))))))) (And ((0 : Int) ≤ (↑(L1T.i i) : Int)) (∃ hk : Int.toNat (↑(L1T.i i) : Int) < List.length l, (∃ b : List Int, (And (List.map (RK.svs._f [RK.int IntKind.u8] ⟨⟨RK.sv._f (RK.int IntKind.u8) PUnit.unit, PUnit.unit⟩, RK.svs._f [] PUnit.unit, PUnit.unit⟩) (Prod.snd (Prod.fst l[Int.toNat (↑(L1T.i i) : Int)])) = List.map eB b) (And (And ((0 : Int) ≤ (↑(L1T.i i) : Int)) (And ((↑(L1T.i i) : Int) < (9223372036854775808 : Int)) (And (∀ x_1 : Int, (∀ a_1 : x_1 ∈ b, (And ((0 : Int) ≤ x_1) (x_1 < (256 : Int))))) (List.length b ≤ (1000000000 : Nat))))) (And ((0 : Int) ≤ (↑(L1T.i i) : Int)) (And (Int.toNat (↑(L1T.i i) : Int) < List.length l) (∃ hi : (0 : Nat) + Int.toNat (↑(L1T.i i) : Int) < List.length (row1 l (L1T.i i)), (∃ i' : L1T l, (And (And (List.length l - L1T.i i' < List.length l - L1T.i i) True) (And (And ((0 : Int) = (0 : Int)) (And (And ((38 : Nat) = (38 : Nat)) True) (And (And ((true : Bool) = true) ((0 : Nat) = (0 : Nat))) (And (And ((true : Bool) = true) (And ((0 : Nat) = (0 : Nat)) (And (List.length l = List.length l) (List.length l = List.length l)))) (And (SV.view x (1 : Nat) (Enc.enc BE) l = SV.view x (1 : Nat) (Enc.enc BE) l) (And ((↑(List.length l) : Int) = (↑(List.length l) : Int)) (And ((↑(L1T.i i') : Int) = IntKind.wrap IntKind.i64 ((↑(L1T.i i) : Int) + (1 : Int))) True))))))) (And (And (And (z32 = z32) True) (And ((true : Bool) = true) (And (And ((true : Bool) = true) (And (List.length l = List.length l) (And (List.map (Enc.enc H32) (row1 l (L1T.i i')) = List.map (Enc.enc H32) (List.set (row1 l (L1T.i i)) ((0 : Nat) + Int.toNat (↑(L1T.i i) : Int)) (Enc.of H32 (itF (↑(L1T.i i) : Int) b, ())))) (∀ x_1 : List Int, (∀ a_1 : x_1 ∈ row1 l (L1T.i i'), (∀ s : SV, (∀ a_2 : s ∈ Enc.enc H32 x_1, ((SV.isPure s : Bool) = (true))))))))) (And ((true : Bool) = true) True)))) ((true : Bool) = true))))))))))))) (decide ((↑(L1T.i i) : Int) < (↑(List.length l) : Int)))))))))))))) (by kernel_rfl) ?_
  refine ⟨by omega, by omega, by omega, by omega, by omega, ⟨0, Nat.zero_le _⟩, ?_, ?_⟩
  · simp only [Int.toNat_natCast, row1_zero]
    repeat' first | exact H32_pure _ | exact trivial | refine And.intro ?_ ?_ | with_reducible refine bif_dt (by assumption) ?_ | with_reducible refine bif_df (by assumption) ?_ | with_reducible refine bif_dec (fun _ => ?_) (fun _ => ?_) | with_reducible refine bif_not ?_ | with_reducible refine bif_and ?_ | with_reducible refine bif_or ?_ | with_reducible refine bif_t (by assumption) ?_ | with_reducible refine bif_f (by assumption) ?_ | with_reducible refine bif_t (beq_self_eq_true _) ?_ | with_reducible refine bif_b (fun _ => ?_) (fun _ => ?_) | with_reducible refine ⟨_, Eq.refl (List.map _ _), ?_⟩ | (with_reducible refine Exists.intro (by omega) ?_) | rfl | (intro h0; omega) | omega
  rintro ⟨i, hi⟩ -
  dsimp only
  refine bif_dec (fun h3 => ?_) (fun h3 => ?_)
  · have hi' : i < l.length := by omega
    have hset := row1_set hi'
    have hw : IntKind.i64.wrap ((i : Int) + 1) = ((i + 1 : Nat) : Int) := inext (by omega)
    simp only [Int.toNat_natCast, Nat.zero_add, hw]
    refine ⟨by omega, hi', bl l[i], (bl_enc _).symm, ⟨by omega, by omega, hB _ (List.getElem_mem hi'), h2 _ (List.getElem_mem hi')⟩, by omega, hi', by rw [row1_length hi]; exact hi', ⟨i + 1, hi'⟩, ⟨show l.length - (i + 1) < l.length - i by omega, trivial⟩, ?_⟩
    have hof : H32.of (itF (i : Int) (bl l[i]), ()) = itF (i : Int) (bl l[i]) := rfl
    rw [hof, hset]
    repeat' first | exact H32_pure _ | exact trivial | refine And.intro ?_ ?_ | with_reducible refine bif_dt (by assumption) ?_ | with_reducible refine bif_df (by assumption) ?_ | with_reducible refine bif_dec (fun _ => ?_) (fun _ => ?_) | with_reducible refine bif_not ?_ | with_reducible refine bif_and ?_ | with_reducible refine bif_or ?_ | with_reducible refine bif_t (by assumption) ?_ | with_reducible refine bif_f (by assumption) ?_ | with_reducible refine bif_t (beq_self_eq_true _) ?_ | with_reducible refine bif_b (fun _ => ?_) (fun _ => ?_) | with_reducible refine ⟨_, Eq.refl (List.map _ _), ?_⟩ | (with_reducible refine Exists.intro (by omega) ?_) | rfl | (intro h0; omega) | omega
  have hil : i = l.length := by omega
  subst hil
  rw [row1_all]
  refine ⟨⟨lev0 l, lev0 l, l.length, lev0_length l, Nat.le_of_eq (lev0_length l), fun j h => List.getElem?_eq_getElem h, Nat.le_of_eq (lev0_length l), rfl, lev0_ok l⟩, ?_, ?_⟩
  · refine ⟨trivial, ?_, ?_⟩
    · simp only [lev0_length]
      repeat' first | exact trivial | refine And.intro ?_ ?_ | with_reducible refine bif_dt (by assumption) ?_ | with_reducible refine bif_df (by assumption) ?_ | with_reducible refine bif_dec (fun _ => ?_) (fun _ => ?_) | with_reducible refine bif_not ?_ | with_reducible refine bif_and ?_ | with_reducible refine bif_or ?_ | with_reducible refine bif_t (by assumption) ?_ | with_reducible refine bif_f (by assumption) ?_ | with_reducible refine bif_t (beq_self_eq_true _) ?_ | with_reducible refine bif_b (fun _ => ?_) (fun _ => ?_) | with_reducible refine ⟨_, Eq.refl (List.map _ _), ?_⟩ | (with_reducible refine Exists.intro (by omega) ?_) | rfl | (intro h0; omega) | omega
    ·
      repeat' first | exact H32_pure _ | exact trivial | refine And.intro ?_ ?_ | with_reducible refine bif_dt (by assumption) ?_ | with_reducible refine bif_df (by assumption) ?_ | with_reducible refine bif_dec (fun _ => ?_) (fun _ => ?_) | with_reducible refine bif_not ?_ | with_reducible refine bif_and ?_ | with_reducible refine bif_or ?_ | with_reducible refine bif_t (by assumption) ?_ | with_reducible refine bif_f (by assumption) ?_ | with_reducible refine bif_t (beq_self_eq_true _) ?_ | with_reducible refine bif_b (fun _ => ?_) (fun _ => ?_) | with_reducible refine ⟨_, Eq.refl (List.map _ _), ?_⟩ | (with_reducible refine Exists.intro (by omega) ?_) | rfl | (intro h0; omega) | omega
  rintro ⟨lev, R, f, hR, hL, hp, hf, hr, ok⟩ -
  dsimp only
  refine bif_dec (fun h3 => ?_) (fun h3 => ?_)
  rotate_left
  · refine bif_b (fun h4 => ?_) (fun h4 => ?_)
    · have h4 : lev.length = 0 := by
        have := eq_of_beq h4
        omega
      have : lev = [] := List.eq_nil_of_length_eq_zero h4
      subst this
      have e0 : rootL l = z32 := by
        rw [← hr, rootF_end (by decide)]
        rfl
      refine ⟨(), ?_⟩
      rw [e0]
      repeat' first | exact trivial | refine And.intro ?_ ?_ | with_reducible refine bif_dt (by assumption) ?_ | with_reducible refine bif_df (by assumption) ?_ | with_reducible refine bif_dec (fun _ => ?_) (fun _ => ?_) | with_reducible refine bif_not ?_ | with_reducible refine bif_and ?_ | with_reducible refine bif_or ?_ | with_reducible refine bif_t (by assumption) ?_ | with_reducible refine bif_f (by assumption) ?_ | with_reducible refine bif_t (beq_self_eq_true _) ?_ | with_reducible refine bif_b (fun _ => ?_) (fun _ => ?_) | with_reducible refine ⟨_, Eq.refl (List.map _ _), ?_⟩ | (with_reducible refine Exists.intro (by omega) ?_) | rfl | (intro h0; omega) | omega
    · have h4 : lev.length = 1 := by
        have : ¬ ((lev.length : Int) = 0) := fun e => by rw [e] at h4; cases h4
        omega
      have hp0 := hp 0 (by omega)
      rw [List.getElem?_eq_getElem (by omega)] at hp0
      have hp0 := Option.some.inj hp0
      refine ⟨by omega, by show 0 < lev.length; omega, by show 0 < R.length; omega, (), ?_⟩
      have e0 : rootL l = lev[0]'(by omega) := by
        rw [← hr, rootF_end (by omega)]
        match lev, h4 with
        | [a], _ => rfl
      rw [e0, ← hp0]
      repeat' first | exact trivial | refine And.intro ?_ ?_ | with_reducible refine bif_dt (by assumption) ?_ | with_reducible refine bif_df (by assumption) ?_ | with_reducible refine bif_dec (fun _ => ?_) (fun _ => ?_) | with_reducible refine bif_not ?_ | with_reducible refine bif_and ?_ | with_reducible refine bif_or ?_ | with_reducible refine bif_t (by assumption) ?_ | with_reducible refine bif_f (by assumption) ?_ | with_reducible refine bif_t (beq_self_eq_true _) ?_ | with_reducible refine bif_b (fun _ => ?_) (fun _ => ?_) | with_reducible refine ⟨_, Eq.refl (List.map _ _), ?_⟩ | (with_reducible refine Exists.intro (by omega) ?_) | rfl | (intro h0; omega) | omega
  have h3 : 1 < lev.length := by omega
  obtain ⟨g, rfl, hg, hr2, _⟩ := rootF_step (pr := prF) (z := z32) h3 hf
  have hnl := nextF_length prF lev
  refine ⟨⟨lev, R, g + 1, 0, hR, hL, fun j hj => absurd hj (Nat.not_lt_zero _), fun j h _ => hp j h, Nat.zero_le _, h3, hf, hr, ok⟩, ?_, ?_⟩
  ·
    repeat' first | exact H32_pure _ | exact trivial | refine And.intro ?_ ?_ | with_reducible refine bif_dt (by assumption) ?_ | with_reducible refine bif_df (by assumption) ?_ | with_reducible refine bif_dec (fun _ => ?_) (fun _ => ?_) | with_reducible refine bif_not ?_ | with_reducible refine bif_and ?_ | with_reducible refine bif_or ?_ | with_reducible refine bif_t (by assumption) ?_ | with_reducible refine bif_f (by assumption) ?_ | with_reducible refine bif_t (beq_self_eq_true _) ?_ | with_reducible refine bif_b (fun _ => ?_) (fun _ => ?_) | with_reducible refine ⟨_, Eq.refl (List.map _ _), ?_⟩ | (with_reducible refine Exists.intro (by omega) ?_) | rfl | (intro h0; omega) | omega
  rintro ⟨lev', R, f', n, hR, hL, h1, h2, hn, hb, hf', hr', ok'⟩ hrel
  dsimp only at hrel
  subst hrel
  dsimp only
  have w1 : IntKind.i64.wrap (((2 * n : Nat) : Int) + 1) = ((2 * n + 1 : Nat) : Int) := inext (by omega)
  have w2 : IntKind.i64.wrap (((2 * n : Nat) : Int) + 2) = ((2 * (n + 1) : Nat) : Int) := by rw [wrap64 (by omega) (by omega)]; omega
  have w3 : IntKind.i64.wrap ((n : Int) + 1) = ((n + 1 : Nat) : Int) := inext (by omega)
  simp only [w1, w2, w3, Int.toNat_natCast, Nat.zero_add, Nat.sub_zero, ite_self]
  refine bif_dec (fun h5 => ?_) (fun h5 => ?_)
  · refine bif_b (fun h6 => ?_) (fun h6 => ?_)
    · have h6 : 2 * n + 1 = lev'.length := by have := eq_of_beq h6; omega
      have hs := set_one (by omega) h1 h2 h6
      refine ⟨by omega, by omega, by omega, by omega, by omega, by omega, by omega, by omega, by omega, by omega, by omega, ⟨nextF prF lev', R.set n (R[2 * n]'(by omega)), g, by rw [List.length_set]; exact hR, by omega, hs, hg, by rw [← hr2, hr], next_ok ok'⟩, ?_, ?_⟩
      ·
        dsimp only
        repeat' first | exact trivial | refine And.intro ?_ ?_ | with_reducible refine bif_dt (by assumption) ?_ | with_reducible refine bif_df (by assumption) ?_ | with_reducible refine bif_dec (fun _ => ?_) (fun _ => ?_) | with_reducible refine bif_not ?_ | with_reducible refine bif_and ?_ | with_reducible refine bif_or ?_ | with_reducible refine bif_t (by assumption) ?_ | with_reducible refine bif_f (by assumption) ?_ | with_reducible refine bif_t (beq_self_eq_true _) ?_ | with_reducible refine bif_b (fun _ => ?_) (fun _ => ?_) | with_reducible refine ⟨_, Eq.refl (List.map _ _), ?_⟩ | (with_reducible refine Exists.intro (by omega) ?_) | rfl | (intro h0; omega) | omega
      ·
        dsimp only
        repeat' first | exact H32_pure _ | exact trivial | refine And.intro ?_ ?_ | with_reducible refine bif_dt (by assumption) ?_ | with_reducible refine bif_df (by assumption) ?_ | with_reducible refine bif_dec (fun _ => ?_) (fun _ => ?_) | with_reducible refine bif_not ?_ | with_reducible refine bif_and ?_ | with_reducible refine bif_or ?_ | with_reducible refine bif_t (by assumption) ?_ | with_reducible refine bif_f (by assumption) ?_ | with_reducible refine bif_t (beq_self_eq_true _) ?_ | with_reducible refine bif_b (fun _ => ?_) (fun _ => ?_) | with_reducible refine ⟨_, Eq.refl (List.map _ _), ?_⟩ | (with_reducible refine Exists.intro (by omega) ?_) | rfl | (intro h0; omega) | omega
    · have h6 : 2 * n + 1 < lev'.length := by
        have : ¬ (((2 * n + 1 : Nat) : Int) = (lev'.length : Int)) := fun e => by rw [e] at h6; simp at h6
        omega
      obtain ⟨a, b, hs1, hs2⟩ := set_two (by omega) h1 h2 h6
      have oa := ok' _ (List.getElem_mem (show 2 * n < lev'.length by omega))
      have ob := ok' _ (List.getElem_mem h6)
      refine ⟨by omega, by omega, by omega, by omega, by omega, by omega, ⟨by rw [a]; exact oa.1, by rw [b]; exact ob.1, by rw [a]; exact oa.2, by rw [b]; exact ob.2⟩, by omega, by omega, by omega, ⟨lev', R.set n (prF (R[2 * n]'(by omega)) (R[2 * n + 1]'(by omega))), f', n + 1, by rw [List.length_set]; exact hR, hL, hs1, hs2, by omega, hb, hf', hr', ok'⟩, ?_, ?_⟩
      ·
        dsimp only
        repeat' first | exact trivial | refine And.intro ?_ ?_ | with_reducible refine bif_dt (by assumption) ?_ | with_reducible refine bif_df (by assumption) ?_ | with_reducible refine bif_dec (fun _ => ?_) (fun _ => ?_) | with_reducible refine bif_not ?_ | with_reducible refine bif_and ?_ | with_reducible refine bif_or ?_ | with_reducible refine bif_t (by assumption) ?_ | with_reducible refine bif_f (by assumption) ?_ | with_reducible refine bif_t (beq_self_eq_true _) ?_ | with_reducible refine bif_b (fun _ => ?_) (fun _ => ?_) | with_reducible refine ⟨_, Eq.refl (List.map _ _), ?_⟩ | (with_reducible refine Exists.intro (by omega) ?_) | rfl | (intro h0; omega) | omega
      ·
        dsimp only
        repeat' first | exact H32_pure _ | exact trivial | refine And.intro ?_ ?_ | with_reducible refine bif_dt (by assumption) ?_ | with_reducible refine bif_df (by assumption) ?_ | with_reducible refine bif_dec (fun _ => ?_) (fun _ => ?_) | with_reducible refine bif_not ?_ | with_reducible refine bif_and ?_ | with_reducible refine bif_or ?_ | with_reducible refine bif_t (by assumption) ?_ | with_reducible refine bif_f (by assumption) ?_ | with_reducible refine bif_t (beq_self_eq_true _) ?_ | with_reducible refine bif_b (fun _ => ?_) (fun _ => ?_) | with_reducible refine ⟨_, Eq.refl (List.map _ _), ?_⟩ | (with_reducible refine Exists.intro (by omega) ?_) | rfl | (intro h0; omega) | omega
  · have h5 : 2 * n = lev'.length := by omega
    refine ⟨by omega, by omega, by omega, by omega, by omega, ⟨nextF prF lev', R, g, hR, by omega, fun j hj => by rw [← List.getElem?_eq_getElem hj]; exact h1 j (by omega), hg, by rw [← hr2, hr], next_ok ok⟩, ?_, ?_⟩
    ·
      dsimp only
      repeat' first | exact trivial | refine And.intro ?_ ?_ | with_reducible refine bif_dt (by assumption) ?_ | with_reducible refine bif_df (by assumption) ?_ | with_reducible refine bif_dec (fun _ => ?_) (fun _ => ?_) | with_reducible refine bif_not ?_ | with_reducible refine bif_and ?_ | with_reducible refine bif_or ?_ | with_reducible refine bif_t (by assumption) ?_ | with_reducible refine bif_f (by assumption) ?_ | with_reducible refine bif_t (beq_self_eq_true _) ?_ | with_reducible refine bif_b (fun _ => ?_) (fun _ => ?_) | with_reducible refine ⟨_, Eq.refl (List.map _ _), ?_⟩ | (with_reducible refine Exists.intro (by omega) ?_) | rfl | (intro h0; omega) | omega
    ·
      dsimp only
      repeat' first | exact H32_pure _ | exact trivial | refine And.intro ?_ ?_ | with_reducible refine bif_dt (by assumption) ?_ | with_reducible refine bif_df (by assumption) ?_ | with_reducible refine bif_dec (fun _ => ?_) (fun _ => ?_) | with_reducible refine bif_not ?_ | with_reducible refine bif_and ?_ | with_reducible refine bif_or ?_ | with_reducible refine bif_t (by assumption) ?_ | with_reducible refine bif_f (by assumption) ?_ | with_reducible refine bif_t (beq_self_eq_true _) ?_ | with_reducible refine bif_b (fun _ => ?_) (fun _ => ?_) | with_reducible refine ⟨_, Eq.refl (List.map _ _), ?_⟩ | (with_reducible refine Exists.intro (by omega) ?_) | rfl | (intro h0; omega) | omega
open Go Go.Sx Go.Sha

def levels0T : MT := fun ms n h K => match ms with
  | [.one (.view vx0 ve0 en0 vl0), .one (.v (.int .i64 0)), .one (.clo 38 [])] => bif Nat.beq ve0 1 && noDup [] then ∃ l : List (BTy), vl0.map en0 = l.map eBl ∧ ((l.length ≤ 1000 ∧ (∀ y ∈ l, (bl y).length ≤ 1000000000) ∧ ∀ y ∈ l, By (bl y))) ∧ (∀ o : Unit, K (n + 0) (h32 (rootL l)) ([] ++ delL [] h)) else False
  | _ => False
theorem levels0_mono : MMono levels0T := by
  intro ms n h K K' hkk hk
  unfold levels0T at hk ⊢
  split at hk
  · rename_i vx0 ve0 va0 en0 vl0
    obtain ⟨hb, y0, z0, h1, h2⟩ := cond_false_elim hk
    rw [hb]
    exact ⟨y0, z0, h1, fun o => hkk _ _ _ (h2 o)⟩
  · exact hk.elim
theorem levels0_ok : MOK Tryd.prog 37 levels0T := by
  refine ⟨?_, levels0_mono⟩
  intro ms n hB K hk
  unfold levels0T at hk
  split at hk
  · rename_i vx0 ve0 va0 en0 vl0
    obtain ⟨hb, l, he0, h, hk2⟩ := cond_false_elim hk
    clear hk
    simp only [Bool.and_eq_true] at hb
    obtain ⟨hc0, hnd⟩ := hb
    have hs0 := Nat.eq_of_beq_eq_true hc0
    subst hs0
    refine SCall.seen ?_ (.cons (.view he0) (.cons (.refl _) (.cons (.refl _) .nil)))
    exact (levels0_spec _ h.1 h.2.1 h.2.2).use (fun _ => 0) rfl rfl trivial (by exact hnd) (fun j hj => absurd hj (Nat.not_lt_zero j)) (fun o => hk2 o)
  · exact hk.elim

theorem rootF_ok : ∀ (f : Nat) (l : List (List Int)), Ok32 l → (rootF prF z32 f l).length = 32 ∧ By (rootF prF z32 f l)
  | 0, [], _ => ⟨rfl, By.rep 32⟩
  | 0, a :: r, h => h a (by simp)
  | f + 1, l, h => by
    unfold rootF
    cases Nat.ble l.length 1 with
    | true =>
      match l, h with
      | [], _ => exact ⟨rfl, By.rep 32⟩
      | a :: r, h => exact h a (by simp)
    | false => exact rootF_ok f _ (next_ok h)
theorem rootL_ok (l : List BTy) : (rootL l).length = 32 ∧ By (rootL l) := rootF_ok _ _ (lev0_ok l)
theorem root_spec (x : Value) {l : List BTy} (h : l.length ≤ 1000) (h2 : ∀ y ∈ l, (bl y).length ≤ 1000000000) (hB : ∀ y ∈ l, By (bl y)) : SFun Tryd.prog 29 [bV x l] (h32 (topF (l.length : Int) (rootL l))) := by
  refine SFun.inm [(36, topT)] (SOK.cons top_ok SOK.nil) [(37, levels0T)] (MSOK.cons levels0_ok MSOK.nil) tok mixed [] IOK.nil true [] [] Tryd.call29 Tryd.func29 rfl (by rfl) ?_
  refine Eq.mp (α := (∃ l_1 : List BTy, (And (List.map (Enc.enc BE) l = List.map eBl l_1) (And (And (List.length l_1 ≤ (1000 : Nat)) (And (∀ y : BTy, (∀ a : y ∈ l_1, (List.length (bl y) ≤ (1000000000 : Nat)))) (∀ y : BTy, (∀ a : y ∈ l_1, (∀ x_1 : Int, (∀ a_1 : x_1 ∈ bl y, (And ((0 : Int) ≤ x_1) (x_1 < (256 : Int))))))))) (∀ o : Unit, (And (And ((0 : Int) ≤ (↑(List.length l) : Int)) (And ((↑(List.length l) : Int) < (9223372036854775808 : Int)) (And (∀ x_1 : Int, (∀ a : x_1 ∈ rootL l_1, (And ((0 : Int) ≤ x_1) (x_1 < (256 : Int))))) (List.length (rootL l_1) = (32 : Nat))))) (And (M.agg [SV.ints IntKind.u8 (32 : Nat) (topF (↑(List.length l) : Int) (rootL l_1))] = M.agg [SV.ints IntKind.u8 (32 : Nat) (topF (↑(List.length l) : Int) (rootL l))]) ((true : Bool) = true)))))))) (by kernel_rfl) ?_
  refine ⟨l, rfl, ⟨h, h2, hB⟩, fun _ => ⟨⟨by omega, by omega, (rootL_ok l).2, (rootL_ok l).1⟩, ?_⟩⟩
  exact ⟨rfl, rfl⟩
def lrootT : List M → (M → Prop) → Prop
  | [.one (.view x0 es0 en0 l0)], K => bif Nat.beq es0 1 then ∃ l : List (BTy), l0.map en0 = l.map eBl ∧ ((l.length ≤ 1000 ∧ (∀ y ∈ l, (bl y).length ≤ 1000000000) ∧ ∀ y ∈ l, By (bl y)) ∧ K (h32 (topF (l.length : Int) (rootL l)))) else False
  | _, _ => False
theorem lroot_ok : POK Tryd.prog 29 lrootT := by
  intro ms K h
  unfold lrootT at h ⊢
  split at h
  · obtain ⟨hb0, l, he0, h0⟩ := cond_false_elim (b := Nat.beq _ _) h
    have hs0 := Nat.eq_of_beq_eq_true hb0
    subst hs0
    exact ⟨_, h0.2, (root_spec _ h0.1.1 h0.1.2.1 h0.1.2.2).seen (.cons (.view he0) .nil), rfl, fun _ hk => by show cond _ _ _; refine (show cond true _ _ from ⟨_, he0, ?_⟩); exact ⟨h0.1, hk⟩⟩
  · exact h.elim


open Go Go.Sx Go.Sha

theorem wbytesO_spec {b : List Int} {len cap cap' : Nat} (h1 : len = b.length) (h2 : cap = cap') (h3 : b.length ≤ cap') (h4 : 0 < b.length ∧ b.length ≤ 65536) :
    SMem Tryd.prog 35 [.one (.ptr 0 0)] 2 [(0, .cells [.nslc 1 1 len cap, .v (.bool true), .v (.int .i64 0)]), (1, .row 1 (encInt .u8) b cap')]
    (fun c : CapT b.length => ⟨3, .one (.slc 2 1 0 b.length c.cap), [(0, .cells [.nslc 1 1 len cap, .v (.bool true), .v (.int .i64 0)]), (1, .row 1 (encInt .u8) b cap'), (2, .row 1 (encInt .u8) b c.cap)]⟩) := by
  subst h1
  subst h2
  refine SMem.inm [] SOK.nil [] MSOK.nil tok mixed [(45, ⟨Tryd.f45, true, [], []⟩), (26, ⟨Tryd.f26, true, [], []⟩)] (IOK.cons Tryd.func45 Tryd.call45 (IOK.cons Tryd.func26 Tryd.call26 IOK.nil)) true [] [] Tryd.call35 Tryd.func35 rfl (by rfl) ?_
  refine Eq.mp (α := (@Bool.rec (fun _ => Prop) (And ((0 : Nat) = (0 : Nat)) (And ((0 : Nat) = (0 : Nat)) (And (List.length b ≤ List.length b) (And (cap = cap) (And (((0 : Nat) + List.length (castL (encInt IntKind.u8) (encInt IntKind.u8) (List.take (List.length b) b))) * (1 : Nat) ≤ (150000000000000 : Nat)) (∀ cap2 : Nat, (∀ a : (0 : Nat) + List.length (castL (encInt IntKind.u8) (encInt IntKind.u8) (List.take (List.length b) b)) ≤ cap2, (∃ o : CapT (List.length b), (And (And (And ((true : Bool) = true) (And ((0 : Nat) = (0 : Nat)) (And (List.length b = List.length ([] ++ castL (encInt IntKind.u8) (encInt IntKind.u8) (List.take (List.length b) b))) (CapT.cap o = cap2)))) True) (And (And (And (And ((true : Bool) = true) (And (List.length b = List.length b) (cap = cap))) (And ((true : Bool) = true) (And ((0 : Int) = (0 : Int)) True))) (And ((true : Bool) = true) (And (And ((true : Bool) = true) (And (cap = cap) (And (List.map (Enc.enc (encInt IntKind.u8)) b = List.map (Enc.enc (encInt IntKind.u8)) b) (∀ x : Int, (∀ a_1 : x ∈ b, (∀ s : SV, (∀ a_2 : s ∈ Enc.enc (encInt IntKind.u8) x, ((SV.isPure s : Bool) = (true))))))))) (And ((true : Bool) = true) (And (And ((true : Bool) = true) (And (CapT.cap o = cap2) (And (List.map (Enc.enc (encInt IntKind.u8)) b = List.map (Enc.enc (encInt IntKind.u8)) ([] ++ castL (encInt IntKind.u8) (encInt IntKind.u8) (List.take (List.length b) b))) (∀ x : Int, (∀ a_1 : x ∈ b, (∀ s : SV, (∀ a_2 : s ∈ Enc.enc (encInt IntKind.u8) x, ((SV.isPure s : Bool) = (true))))))))) (And ((true : Bool) = true) True)))))) ((true : Bool) = true))))))))))) (∃ o : CapT (List.length b), (And (And False True) (And (And (And (And ((true : Bool) = true) (And (List.length b = List.length b) (cap = cap))) (And ((true : Bool) = true) (And ((0 : Int) = (0 : Int)) True))) (And ((true : Bool) = true) (And (And ((true : Bool) = true) (And (cap = cap) (And (List.map (Enc.enc (encInt IntKind.u8)) b = List.map (Enc.enc (encInt IntKind.u8)) b) (∀ x : Int, (∀ a : x ∈ b, (∀ s : SV, (∀ a_1 : s ∈ Enc.enc (encInt IntKind.u8) x, ((SV.isPure s : Bool) = (true))))))))) (And ((true : Bool) = true) (And False (And ((true : Bool) = true) True)))))) ((true : Bool) = true)))) (Nat.beq cap (0 : Nat)))) (by kernel_rfl) ?_
  have ht : List.take b.length b = b := List.take_length
  simp only [ht, castB, List.nil_append, List.drop_zero, Nat.zero_add]
  refine bif_b (fun hc => ?_) (fun hc => ?_)
  · have hc0 : cap = 0 := Nat.eq_of_beq_eq_true hc
    omega
  ·
    repeat (with_reducible refine And.intro (by first | exact trivial | omega | decide) ?_)
    intro cap2 hc2
    refine ⟨⟨cap2, hc2⟩, ?_⟩
    repeat' first | exact encB_pure _ | exact trivial | refine And.intro ?_ ?_ | with_reducible refine bif_dt (by assumption) ?_ | with_reducible refine bif_df (by assumption) ?_ | with_reducible refine bif_dec (fun _ => ?_) (fun _ => ?_) | with_reducible refine bif_not ?_ | with_reducible refine bif_and ?_ | with_reducible refine bif_or ?_ | with_reducible refine bif_t (by assumption) ?_ | with_reducible refine bif_f (by assumption) ?_ | with_reducible refine bif_t (beq_self_eq_true _) ?_ | with_reducible refine bif_b (fun _ => ?_) (fun _ => ?_) | with_reducible refine ⟨_, Eq.refl (List.map _ _), ?_⟩ | (with_reducible refine Exists.intro (by omega) ?_) | rfl | (intro h0; omega) | omega
def wbytesOT : MT := fun ms n h K => match ms with
  | [.one (.ptr P0 0)] => (match get h P0 with
    | some (.cells [.nslc P1 1 len cap, .v (.bool true), .v (.int .i64 0)]) => (match get h P1 with
    | some (.row we1 wn1 wl1 cap2) => bif Nat.beq we1 1 && noDup [P0, P1] then ∃ b : List (Int), wl1.map wn1.enc = b.map ((encInt .u8)).enc ∧ ((len = b.length ∧ cap = cap2 ∧ b.length ≤ cap2 ∧ (0 < b.length ∧ b.length ≤ 65536))) ∧ (∀ c : CapT b.length, K (n + 1) (.one (.slc n 1 0 b.length c.cap)) ([(P0, .cells [.nslc P1 1 len cap, .v (.bool true), .v (.int .i64 0)]), (P1, .row 1 (encInt .u8) b cap2), (n, .row 1 (encInt .u8) b c.cap)] ++ delL [P0, P1] h)) else False
    | _ => False)
    | _ => False)
  | _ => False
theorem wbytesO_mono : MMono wbytesOT := by
  intro ms n h K K' hkk hk
  unfold wbytesOT at hk ⊢
  split at hk
  · rename_i P0
    split at hk
    · rename_i P1 len cap hg0
      try simp only [hg0]
      split at hk
      · rename_i we1 wa1 wn1 wl1 cap2 hg1
        try simp only [hg1]
        obtain ⟨hb, y0, z0, h1, h2⟩ := cond_false_elim hk
        rw [hb]
        exact ⟨y0, z0, h1, fun o => hkk _ _ _ (h2 o)⟩
      · exact hk.elim
    · exact hk.elim
  · exact hk.elim
theorem wbytesO_ok : MOK Tryd.prog 35 wbytesOT := by
  refine ⟨?_, wbytesO_mono⟩
  intro ms n hB K hk
  unfold wbytesOT at hk
  split at hk
  · rename_i P0
    split at hk
    · rename_i P1 len cap hg0
      split at hk
      · rename_i we1 wa1 wn1 wl1 cap2 hg1
        obtain ⟨hb, b, hl1, h, hk2⟩ := cond_false_elim hk
        clear hk
        simp only [Bool.and_eq_true] at hb
        obtain ⟨hc0, hnd⟩ := hb
        have hs0 := Nat.eq_of_beq_eq_true hc0
        subst hs0
        refine SCall.seen ?_ (.cons (.refl _) .nil)
        exact (wbytesO_spec h.1 h.2.1 h.2.2.1 h.2.2.2).use (fun j => match j with | 0 => P0 | 1 => P1 | _ => 0) rfl rfl ⟨by show (match get hB P0 with | some b0 => Blk.imp _ _ _ b0 | none => False); rw [hg0]; exact ⟨rfl, rfl⟩, rfl, ⟨by show (match get hB P1 with | some b0 => Blk.imp _ _ _ b0 | none => False); rw [hg1]; exact ⟨rfl, rfl, hl1.symm, fun y _ => Enc.pures _ y⟩, rfl, trivial⟩⟩ (by exact hnd) (fun j hj => by cases j with
            | zero => exact ⟨_, rfl⟩
            | succ j => cases j with
             | zero => exact ⟨_, rfl⟩
             | succ j => omega) (fun o => hk2 o)
      · exact hk.elim
    · exact hk.elim
  · exact hk.elim

def wbS (v : List Int) : Nat → List Int
  | 0 => List.replicate 32 0
  | i + 1 => (wbS v i).set (31 - i) (IntKind.u8.wrap (shr .u64 (v.getD (i / 8) 0) ((8 * (i % 8) : Nat) : Int)))
theorem wbS_length (v : List Int) : ∀ i, (wbS v i).length = 32
  | 0 => rfl
  | i + 1 => by rw [wbS, List.length_set, wbS_length v i]
theorem wbS_By (v : List Int) : ∀ i, By (wbS v i)
  | 0 => By.rep 32
  | i + 1 => fun x hx => by
    rcases List.mem_or_eq_of_mem_set hx with h | h
    · exact wbS_By v i x h
    · rw [h, wrap_u8]
      omega
structure WbT where
  i : Nat
  h : i ≤ 32
theorem wb_spec {v : List Int} (hv : v.length = 4) : SMem Tryd.prog 44 [.agg [.ints .u64 4 v]] 0 [] (fun _ : Unit => ⟨1, .one (.slc 0 1 0 32 32), [(0, .row 1 (encInt .u8) (wbS v 32) 32)]⟩) := by
  refine SMem.inm [] SOK.nil [] MSOK.nil tok mixed [] IOK.nil true [(3, ⟨WbT, fun p => ⟨2, [(1, .one (.ptr 0 0)), (3, .one (.slc 1 1 0 32 32)), (7, int 32), (8, int p.i)], [(0, .cells [.ints .u64 4 v]), (1, .row 1 (encInt .u8) (wbS v p.i) 32)]⟩, fun p => 32 - p.i, fun _ _ => True⟩)] [] Tryd.call44 Tryd.func44 rfl (by rfl) ?_
  refine Eq.mp (α := (And ((0 : Int) ≤ (32 : Int)) (And ((0 : Int) ≤ (32 : Int)) (And (Int.toNat (32 : Int) ≤ Int.toNat (32 : Int)) (And ((1 : Nat) * Int.toNat (32 : Int) ≤ (281474976710656 : Nat)) (And (Int.toNat (32 : Int) ≤ (9223372036854775807 : Nat)) (∃ i0 : WbT, (And (And True (And (And (And ((true : Bool) = true) ((0 : Nat) = (0 : Nat))) (And (And ((true : Bool) = true) (And ((0 : Nat) = (0 : Nat)) (And ((32 : Nat) = Int.toNat (32 : Int)) ((32 : Nat) = Int.toNat (32 : Int))))) (And ((32 : Int) = (↑(Int.toNat (32 : Int)) : Int)) (And ((↑(WbT.i i0) : Int) = (0 : Int)) True)))) (And (And (And (v = v) True) (And ((true : Bool) = true) (And (And ((true : Bool) = true) (And ((32 : Nat) = Int.toNat (32 : Int)) (And (List.map (Enc.enc (encInt IntKind.u8)) (wbS v (WbT.i i0)) = List.map (Enc.enc (encInt IntKind.u8)) (List.replicate (Int.toNat (32 : Int)) (Enc.of (encInt IntKind.u8) ((0 : Int), ())))) (∀ x : Int, (∀ a : x ∈ wbS v (WbT.i i0), (∀ s : SV, (∀ a_1 : s ∈ Enc.enc (encInt IntKind.u8) x, ((SV.isPure s : Bool) = (true))))))))) (And ((true : Bool) = true) True)))) ((true : Bool) = true)))) (∀ i : WbT, (∀ a : True, (@Bool.rec (fun _ => Prop) (∃ o : Unit, (And (And (And ((true : Bool) = true) (And ((0 : Nat) = (0 : Nat)) (And ((32 : Nat) = (32 : Nat)) ((32 : Nat) = (32 : Nat))))) True) (And (And (And ((true : Bool) = true) (And ((32 : Nat) = (32 : Nat)) (And (List.map (Enc.enc (encInt IntKind.u8)) (wbS v (32 : Nat)) = List.map (Enc.enc (encInt IntKind.u8)) (wbS v (WbT.i i))) (∀ x : Int, (∀ a_1 : x ∈ wbS v (32 : Nat), (∀ s : SV, (∀ a_2 : s ∈ Enc.enc (encInt IntKind.u8) x, ((SV.isPure s : Bool) = (true))))))))) (And ((true : Bool) = true) True)) ((true : Bool) = true)))) (And ((8 : Int) ≠ (0 : Int)) (And ((0 : Int) ≤ IntKind.wrap IntKind.i64 (Int.tdiv (↑(WbT.i i) : Int) (8 : Int))) (And (Int.toNat (IntKind.wrap IntKind.i64 (Int.tdiv (↑(WbT.i i) : Int) (8 : Int))) < (4 : Nat)) (And (Int.toNat (IntKind.wrap IntKind.i64 (Int.tdiv (↑(WbT.i i) : Int) (8 : Int))) < (4 : Nat)) (And ((8 : Int) ≠ (0 : Int)) (And ((0 : Int) ≤ IntKind.wrap IntKind.i64 ((8 : Int) * Int.tmod (↑(WbT.i i) : Int) (8 : Int))) (And ((0 : Int) ≤ IntKind.wrap IntKind.i64 ((31 : Int) - (↑(WbT.i i) : Int))) (And (Int.toNat (IntKind.wrap IntKind.i64 ((31 : Int) - (↑(WbT.i i) : Int))) < (32 : Nat)) (∃ hi : (0 : Nat) + Int.toNat (IntKind.wrap IntKind.i64 ((31 : Int) - (↑(WbT.i i) : Int))) < List.length (wbS v (WbT.i i)), (∃ i' : WbT, (And (And ((32 : Nat) - WbT.i i' < (32 : Nat) - WbT.i i) True) (And (And (And ((true : Bool) = true) ((0 : Nat) = (0 : Nat))) (And (And ((true : Bool) = true) (And ((0 : Nat) = (0 : Nat)) (And ((32 : Nat) = (32 : Nat)) ((32 : Nat) = (32 : Nat))))) (And ((32 : Int) = (32 : Int)) (And ((↑(WbT.i i') : Int) = IntKind.wrap IntKind.i64 ((↑(WbT.i i) : Int) + (1 : Int))) True)))) (And (And (And (v = v) True) (And ((true : Bool) = true) (And (And ((true : Bool) = true) (And ((32 : Nat) = (32 : Nat)) (And (List.map (Enc.enc (encInt IntKind.u8)) (wbS v (WbT.i i')) = List.map (Enc.enc (encInt IntKind.u8)) (List.set (wbS v (WbT.i i)) ((0 : Nat) + Int.toNat (IntKind.wrap IntKind.i64 ((31 : Int) - (↑(WbT.i i) : Int)))) (Enc.of (encInt IntKind.u8) (IntKind.wrap IntKind.u8 (shr IntKind.u64 (List.getD v (Int.toNat (IntKind.wrap IntKind.i64 (Int.tdiv (↑(WbT.i i) : Int) (8 : Int)))) (0 : Int)) (IntKind.wrap IntKind.i64 ((8 : Int) * Int.tmod (↑(WbT.i i) : Int) (8 : Int)))), ())))) (∀ x : Int, (∀ a_1 : x ∈ wbS v (WbT.i i'), (∀ s : SV, (∀ a_2 : s ∈ Enc.enc (encInt IntKind.u8) x, ((SV.isPure s : Bool) = (true))))))))) (And ((true : Bool) = true) True)))) ((true : Bool) = true)))))))))))))) (decide ((↑(WbT.i i) : Int) < (32 : Int)))))))))))))) (by kernel_rfl) ?_
  repeat (with_reducible refine And.intro (by first | exact trivial | omega | decide) ?_)
  refine ⟨⟨0, Nat.zero_le _⟩, ?_, ?_⟩
  ·
    repeat' first | exact encB_pure _ | exact trivial | refine And.intro ?_ ?_ | with_reducible refine bif_dt (by assumption) ?_ | with_reducible refine bif_df (by assumption) ?_ | with_reducible refine bif_dec (fun _ => ?_) (fun _ => ?_) | with_reducible refine bif_not ?_ | with_reducible refine bif_and ?_ | with_reducible refine bif_or ?_ | with_reducible refine bif_t (by assumption) ?_ | with_reducible refine bif_f (by assumption) ?_ | with_reducible refine bif_t (beq_self_eq_true _) ?_ | with_reducible refine bif_b (fun _ => ?_) (fun _ => ?_) | with_reducible refine ⟨_, Eq.refl (List.map _ _), ?_⟩ | (with_reducible refine Exists.intro (by omega) ?_) | rfl | (intro h0; omega) | omega
  rintro ⟨i, hi⟩ -
  dsimp only
  refine bif_dec (fun h => ?_) (fun h => ?_)
  · have hi' : i < 32 := by omega
    have e1 : IntKind.i64.wrap (Int.tdiv (i : Int) 8) = ((i / 8 : Nat) : Int) := by
      have : Int.tdiv (i : Int) 8 = ((i / 8 : Nat) : Int) := rfl
      rw [this, wrap64 (by omega) (by omega)]
    have e2 : IntKind.i64.wrap (8 * Int.tmod (i : Int) 8) = ((8 * (i % 8) : Nat) : Int) := by
      have : Int.tmod (i : Int) 8 = ((i % 8 : Nat) : Int) := rfl
      rw [this, wrap64 (by omega) (by omega)]
      omega
    have e3 : IntKind.i64.wrap (31 - (i : Int)) = ((31 - i : Nat) : Int) := by rw [wrap64 (by omega) (by omega)]; omega
    have hs : wbS v (i + 1) = (wbS v i).set (31 - i) (IntKind.u8.wrap (shr .u64 (v.getD (i / 8) 0) ((8 * (i % 8) : Nat) : Int))) := rfl
    have hl : (wbS v i).length = 32 := wbS_length v i
    simp only [e1, e2, e3, inext (show i < 9223372036854775807 by omega), Int.toNat_natCast, ofB, Nat.zero_add]
    repeat (with_reducible refine And.intro (by first | exact trivial | omega | decide) ?_)
    refine ⟨by omega, ⟨i + 1, hi'⟩, ⟨show 32 - (i + 1) < 32 - i by omega, trivial⟩, ?_⟩
    repeat' first | exact encB_pure _ | exact congrArg _ hs | exact trivial | refine And.intro ?_ ?_ | with_reducible refine bif_dt (by assumption) ?_ | with_reducible refine bif_df (by assumption) ?_ | with_reducible refine bif_dec (fun _ => ?_) (fun _ => ?_) | with_reducible refine bif_not ?_ | with_reducible refine bif_and ?_ | with_reducible refine bif_or ?_ | with_reducible refine bif_t (by assumption) ?_ | with_reducible refine bif_f (by assumption) ?_ | with_reducible refine bif_t (beq_self_eq_true _) ?_ | with_reducible refine bif_b (fun _ => ?_) (fun _ => ?_) | with_reducible refine ⟨_, Eq.refl (List.map _ _), ?_⟩ | (with_reducible refine Exists.intro (by omega) ?_) | rfl | (intro h0; omega) | omega
  · have hi32 : i = 32 := by omega
    subst hi32
    refine ⟨(), ?_⟩
    repeat' first | exact encB_pure _ | exact trivial | refine And.intro ?_ ?_ | with_reducible refine bif_dt (by assumption) ?_ | with_reducible refine bif_df (by assumption) ?_ | with_reducible refine bif_dec (fun _ => ?_) (fun _ => ?_) | with_reducible refine bif_not ?_ | with_reducible refine bif_and ?_ | with_reducible refine bif_or ?_ | with_reducible refine bif_t (by assumption) ?_ | with_reducible refine bif_f (by assumption) ?_ | with_reducible refine bif_t (beq_self_eq_true _) ?_ | with_reducible refine bif_b (fun _ => ?_) (fun _ => ?_) | with_reducible refine ⟨_, Eq.refl (List.map _ _), ?_⟩ | (with_reducible refine Exists.intro (by omega) ?_) | rfl | (intro h0; omega) | omega
def wbT : MT := fun ms n h K => match ms with
  | [.agg [.ints .u64 4 v]] => bif true then (v.length = 4) ∧ (∀ o : Unit, K (n + 1) (.one (.slc n 1 0 32 32)) ([(n, .row 1 (encInt .u8) (wbS v 32) 32)] ++ delL [] h)) else False
  | _ => False
theorem wb_mono : MMono wbT := by
  intro ms n h K K' hkk hk
  unfold wbT at hk ⊢
  split at hk
  · rename_i v
    obtain ⟨hb, h1, h2⟩ := cond_false_elim hk
    rw [hb]
    exact ⟨h1, fun o => hkk _ _ _ (h2 o)⟩
  · exact hk.elim
theorem wb_ok : MOK Tryd.prog 44 wbT := by
  refine ⟨?_, wb_mono⟩
  intro ms n hB K hk
  unfold wbT at hk
  split at hk
  · rename_i v
    obtain ⟨hb, h, hk2⟩ := cond_false_elim hk
    clear hk
    have hnd : noDup [] = true := rfl
    refine SCall.seen ?_ (.cons (.refl _) .nil)
    exact (wb_spec h).use (fun _ => 0) rfl rfl trivial (by exact hnd) (fun j hj => absurd hj (Nat.not_lt_zero j)) (fun o => hk2 o)
  · exact hk.elim

def fWb (v : List Int) : List Int := wbS v 32
theorem t32w (v : List Int) : List.take 32 (List.drop 0 (wbS v 32)) = wbS v 32 := by rw [List.drop_zero, List.take_of_length_le (Nat.le_of_eq (wbS_length v 32))]
abbrev wV (x : Value) (l : List (List Int)) : M := .one (.view x 4 (encInts .u64 4).enc l)
theorem widew_spec (x : Value) {b : List Int} {l : List (List Int)} {len cap cap' : Nat} (h1 : len = b.length) (h2 : cap = cap') (h3 : b.length ≤ 65536) (h4 : b.length ≤ cap') (h5 : l.length * 32 ≤ 140737488351232) (h6 : ∀ a ∈ l, a.length = 4) :
    SMem Tryd.prog 34 [.one (.ptr 0 0), wV x l] 2 [(0, .cells [.nslc 1 1 len cap, .v (.bool true), .v (.int .i64 0)]), (1, .row 1 (encInt .u8) b cap')]
    (fun c : CapT (putL b (l.flatMap fWb)).length => ⟨3, int (putE b (l.flatMap fWb)), [(0, .cells [.nslc 2 1 (putL b (l.flatMap fWb)).length c.cap, .v (.bool true), .v (.int .i64 0)]), (2, .row 1 (encInt .u8) (putL b (l.flatMap fWb)) c.cap)]⟩) := by
  subst h1
  subst h2
  refine SMem.inm [] SOK.nil [(44, wbT), (43, allT)] (MSOK.cons wb_ok (MSOK.cons all_ok MSOK.nil)) tok mixed [] IOK.nil false [(3, ⟨FlT fWb l, fun p => ⟨3, [(0, .one (.ptr 0 0)), (1, wV x l), (4, int 0), (5, .one (.nslc 2 1 ((l.take p.i).flatMap fWb).length p.cap)), (8, wV x l), (9, int l.length), (10, int p.i)], [(0, .cells [.nslc 1 1 b.length cap, .v (.bool true), .v (.int .i64 0)]), (1, .row 1 (encInt .u8) b cap), (2, .row 1 (encInt .u8) ((l.take p.i).flatMap fWb) p.cap)]⟩, fun p => l.length - p.i, fun _ _ => True⟩)] [] Tryd.call34 Tryd.func34 rfl (by rfl) ?_
  refine Eq.mp (α := (∃ i0 : FlT fWb l, (And (And True (And (And (And ((true : Bool) = true) ((0 : Nat) = (0 : Nat))) (And (SV.view x (4 : Nat) (Enc.enc (encInts IntKind.u64 (4 : Nat))) l = SV.view x (4 : Nat) (Enc.enc (encInts IntKind.u64 (4 : Nat))) l) (And ((0 : Int) = (0 : Int)) (And (And ((true : Bool) = true) (And (List.length (List.flatMap fWb (List.take (FlT.i i0) l)) = (0 : Nat)) (FlT.cap i0 = (0 : Nat)))) (And (SV.view x (4 : Nat) (Enc.enc (encInts IntKind.u64 (4 : Nat))) l = SV.view x (4 : Nat) (Enc.enc (encInts IntKind.u64 (4 : Nat))) l) (And ((↑(List.length l) : Int) = (↑(List.length l) : Int)) (And ((↑(FlT.i i0) : Int) = (0 : Int)) True))))))) (And (And (And (And ((true : Bool) = true) (And (List.length b = List.length b) (cap = cap))) (And ((true : Bool) = true) (And ((0 : Int) = (0 : Int)) True))) (And ((true : Bool) = true) (And (And ((true : Bool) = true) (And (cap = cap) (And (List.map (Enc.enc (encInt IntKind.u8)) b = List.map (Enc.enc (encInt IntKind.u8)) b) (∀ x_1 : Int, (∀ a : x_1 ∈ b, (∀ s : SV, (∀ a_1 : s ∈ Enc.enc (encInt IntKind.u8) x_1, ((SV.isPure s : Bool) = (true))))))))) (And ((true : Bool) = true) (And (And ((true : Bool) = true) (And (FlT.cap i0 = (0 : Nat)) (And (List.map (Enc.enc (encInt IntKind.u8)) (List.flatMap fWb (List.take (FlT.i i0) l)) = List.map (Enc.enc (encInt IntKind.u8)) []) (∀ x_1 : Int, (∀ a : x_1 ∈ List.flatMap fWb (List.take (FlT.i i0) l), (∀ s : SV, (∀ a_1 : s ∈ Enc.enc (encInt IntKind.u8) x_1, ((SV.isPure s : Bool) = (true))))))))) (And ((true : Bool) = true) True)))))) ((true : Bool) = true)))) (∀ i : FlT fWb l, (∀ a : True, (@Bool.rec (fun _ => Prop) (And (List.length (List.flatMap fWb (List.take (FlT.i i) l)) ≤ List.length (List.flatMap fWb (List.take (FlT.i i) l))) (And (List.length (List.flatMap fWb (List.take (FlT.i i) l)) ≤ FlT.cap i) (And (FlT.cap i = FlT.cap i) (And (∀ y : Int, ((true : Bool) = true)) (∀ x_1 : Value, (∃ l_1 : List Int, (And (List.map (Enc.enc (encInt IntKind.u8)) (List.take (List.length (List.flatMap fWb (List.take (FlT.i i) l))) (List.flatMap fWb (List.take (FlT.i i) l))) = List.map eB l_1) (∃ b_1 : List Int, (And (List.map (Enc.enc (encInt IntKind.u8)) b = List.map (Enc.enc (encInt IntKind.u8)) b_1) (And (And (List.length b = List.length b_1) (And (cap = cap) (And (List.length b_1 ≤ (65536 : Nat)) (List.length b_1 ≤ cap)))) (∀ c : CapT (List.length (putL b_1 l_1)), (∃ o : CapT (List.length (putL b (List.flatMap fWb l))), (And (And (putE b (List.flatMap fWb l) = putE b_1 l_1) True) (And (And (And (And ((true : Bool) = true) (And (List.length (putL b (List.flatMap fWb l)) = List.length (putL b_1 l_1)) (CapT.cap o = CapT.cap c))) (And ((true : Bool) = true) (And ((0 : Int) = (0 : Int)) True))) (And ((true : Bool) = true) (And (And ((true : Bool) = true) (And (CapT.cap o = CapT.cap c) (And (List.map (Enc.enc (encInt IntKind.u8)) (putL b (List.flatMap fWb l)) = List.map (Enc.enc (encInt IntKind.u8)) (putL b_1 l_1)) (∀ x_2 : Int, (∀ a_1 : x_2 ∈ putL b (List.flatMap fWb l), (∀ s : SV, (∀ a_2 : s ∈ Enc.enc (encInt IntKind.u8) x_2, ((SV.isPure s : Bool) = (true))))))))) (And ((true : Bool) = true) True)))) ((true : Bool) = true))))))))))))))) (And ((0 : Int) ≤ (↑(FlT.i i) : Int)) (∃ hk : Int.toNat (↑(FlT.i i) : Int) < List.length l, (And (List.length l[Int.toNat (↑(FlT.i i) : Int)] = (4 : Nat)) (∀ o : Unit, (And (List.length (List.flatMap fWb (List.take (FlT.i i) l)) = List.length (List.flatMap fWb (List.take (FlT.i i) l))) (And (FlT.cap i = FlT.cap i) (And ((0 : Nat) + (32 : Nat) ≤ (32 : Nat)) (And ((List.length (List.flatMap fWb (List.take (FlT.i i) l)) + (32 : Nat)) * (1 : Nat) ≤ (150000000000000 : Nat)) (∀ cap2 : Nat, (∀ a_1 : List.length (List.flatMap fWb (List.take (FlT.i i) l)) + (32 : Nat) ≤ cap2, (∃ i' : FlT fWb l, (And (And (List.length l - FlT.i i' < List.length l - FlT.i i) True) (And (And (And ((true : Bool) = true) ((0 : Nat) = (0 : Nat))) (And (SV.view x (4 : Nat) (Enc.enc (encInts IntKind.u64 (4 : Nat))) l = SV.view x (4 : Nat) (Enc.enc (encInts IntKind.u64 (4 : Nat))) l) (And ((0 : Int) = (0 : Int)) (And (And ((true : Bool) = true) (And (List.length (List.flatMap fWb (List.take (FlT.i i') l)) = List.length (List.flatMap fWb (List.take (FlT.i i) l) ++ castL (encInt IntKind.u8) (encInt IntKind.u8) (List.take (32 : Nat) (List.drop (0 : Nat) (wbS l[Int.toNat (↑(FlT.i i) : Int)] (32 : Nat)))))) (FlT.cap i' = cap2))) (And (SV.view x (4 : Nat) (Enc.enc (encInts IntKind.u64 (4 : Nat))) l = SV.view x (4 : Nat) (Enc.enc (encInts IntKind.u64 (4 : Nat))) l) (And ((↑(List.length l) : Int) = (↑(List.length l) : Int)) (And ((↑(FlT.i i') : Int) = IntKind.wrap IntKind.i64 ((↑(FlT.i i) : Int) + (1 : Int))) True))))))) (And (And (And (And ((true : Bool) = true) (And (List.length b = List.length b) (cap = cap))) (And ((true : Bool) = true) (And ((0 : Int) = (0 : Int)) True))) (And ((true : Bool) = true) (And (And ((true : Bool) = true) (And (cap = cap) (And (List.map (Enc.enc (encInt IntKind.u8)) b = List.map (Enc.enc (encInt IntKind.u8)) b) (∀ x_1 : Int, (∀ a_2 : x_1 ∈ b, (∀ s : SV, (∀ a_3 : s ∈ Enc.enc (encInt IntKind.u8) x_1, ((SV.isPure s : Bool) = (true))))))))) (And ((true : Bool) = true) (And (And ((true : Bool) = true) (And (FlT.cap i' = cap2) (And (List.map (Enc.enc (encInt IntKind.u8)) (List.flatMap fWb (List.take (FlT.i i') l)) = List.map (Enc.enc (encInt IntKind.u8)) (List.flatMap fWb (List.take (FlT.i i) l) ++ castL (encInt IntKind.u8) (encInt IntKind.u8) (List.take (32 : Nat) (List.drop (0 : Nat) (wbS l[Int.toNat (↑(FlT.i i) : Int)] (32 : Nat)))))) (∀ x_1 : Int, (∀ a_2 : x_1 ∈ List.flatMap fWb (List.take (FlT.i i') l), (∀ s : SV, (∀ a_3 : s ∈ Enc.enc (encInt IntKind.u8) x_1, ((SV.isPure s : Bool) = (true))))))))) (And ((true : Bool) = true) True)))))) ((true : Bool) = true))))))))))))))) (decide ((↑(FlT.i i) : Int) < (↑(List.length l) : Int))))))))) (by kernel_rfl) ?_
  refine ⟨⟨0, 0, Nat.zero_le _, Nat.le_refl _⟩, ?_, ?_⟩
  ·
    repeat' first | exact encB_pure _ | exact trivial | refine And.intro ?_ ?_ | with_reducible refine bif_dt (by assumption) ?_ | with_reducible refine bif_df (by assumption) ?_ | with_reducible refine bif_dec (fun _ => ?_) (fun _ => ?_) | with_reducible refine bif_not ?_ | with_reducible refine bif_and ?_ | with_reducible refine bif_or ?_ | with_reducible refine bif_t (by assumption) ?_ | with_reducible refine bif_f (by assumption) ?_ | with_reducible refine bif_t (beq_self_eq_true _) ?_ | with_reducible refine bif_b (fun _ => ?_) (fun _ => ?_) | with_reducible refine ⟨_, Eq.refl (List.map _ _), ?_⟩ | (with_reducible refine Exists.intro (by omega) ?_) | rfl | (intro h0; omega) | omega
  rintro ⟨i, cap1, hi, hc⟩ -
  dsimp only
  have hl8 : ∀ i, ((l.take i).flatMap fWb).length = 32 * (l.take i).length := fun i => flat_mul fun a _ => wbS_length a 32
  have hm := hl8 i
  rw [List.length_take, Nat.min_eq_left hi] at hm
  refine bif_dec (fun h => ?_) (fun h => ?_)
  · have hi' : i < l.length := by omega
    have hft : (l.take i).flatMap fWb ++ wbS l[i] 32 = (l.take (i + 1)).flatMap fWb := flat_take fWb l hi'
    simp only [Int.toNat_natCast, t32w, castB, inext2 (show i < 9223372036854775807 by omega), hft]
    repeat (with_reducible refine And.intro (by first | exact trivial | omega | decide) ?_)
    refine ⟨hi', h6 _ (List.getElem_mem hi'), fun _ => ?_⟩
    repeat (with_reducible refine And.intro (by first | exact trivial | omega | decide) ?_)
    intro cap2 hc2
    have hm2 : ((l.take (i + 1)).flatMap fWb).length = ((l.take i).flatMap fWb).length + 32 := by rw [← hft, List.length_append, wbS_length]
    refine ⟨⟨i + 1, cap2, hi', by omega⟩, ⟨show l.length - (i + 1) < l.length - i by omega, trivial⟩, ?_⟩
    repeat' first | exact encB_pure _ | exact trivial | refine And.intro ?_ ?_ | with_reducible refine bif_dt (by assumption) ?_ | with_reducible refine bif_df (by assumption) ?_ | with_reducible refine bif_dec (fun _ => ?_) (fun _ => ?_) | with_reducible refine bif_not ?_ | with_reducible refine bif_and ?_ | with_reducible refine bif_or ?_ | with_reducible refine bif_t (by assumption) ?_ | with_reducible refine bif_f (by assumption) ?_ | with_reducible refine bif_t (beq_self_eq_true _) ?_ | with_reducible refine bif_b (fun _ => ?_) (fun _ => ?_) | with_reducible refine ⟨_, Eq.refl (List.map _ _), ?_⟩ | (with_reducible refine Exists.intro (by omega) ?_) | rfl | (intro h0; omega) | omega
  · have hil : i = l.length := by omega
    subst hil
    rw [flat_all fWb l (Nat.le_refl _)] at hc ⊢
    repeat (with_reducible refine And.intro (by first | exact trivial | omega | decide | exact fun _ => rfl) ?_)
    intro x1
    refine ⟨_, List.take_length ▸ rfl, b, rfl, ?_, fun c => ⟨c, ?_⟩⟩
    · exact ⟨rfl, rfl, h3, h4⟩
    repeat' first | exact encB_pure _ | exact trivial | refine And.intro ?_ ?_ | with_reducible refine bif_dt (by assumption) ?_ | with_reducible refine bif_df (by assumption) ?_ | with_reducible refine bif_dec (fun _ => ?_) (fun _ => ?_) | with_reducible refine bif_not ?_ | with_reducible refine bif_and ?_ | with_reducible refine bif_or ?_ | with_reducible refine bif_t (by assumption) ?_ | with_reducible refine bif_f (by assumption) ?_ | with_reducible refine bif_t (beq_self_eq_true _) ?_ | with_reducible refine bif_b (fun _ => ?_) (fun _ => ?_) | with_reducible refine ⟨_, Eq.refl (List.map _ _), ?_⟩ | (with_reducible refine Exists.intro (by omega) ?_) | rfl | (intro h0; omega) | omega
abbrev eW : List Int → List SV := (encInts .u64 4).enc
def widewT : MT := fun ms n h K => match ms with
  | [.one (.ptr P0 0), .one (.view vx0 ve0 en0 vl0)] => (match get h P0 with
    | some (.cells [.nslc P1 1 len cap, .v (.bool true), .v (.int .i64 0)]) => (match get h P1 with
    | some (.row we1 wn1 wl1 cap2) => bif Nat.beq ve0 4 && Nat.beq we1 1 && noDup [P0, P1] then ∃ l : List (List Int), vl0.map en0 = l.map eW ∧ ∃ b : List (Int), wl1.map wn1.enc = b.map ((encInt .u8)).enc ∧ ((len = b.length ∧ cap = cap2 ∧ b.length ≤ 65536 ∧ b.length ≤ cap2 ∧ l.length * 32 ≤ 140737488351232 ∧ ∀ a ∈ l, a.length = 4)) ∧ (∀ c : CapT (putL b (l.flatMap fWb)).length, K (n + 1) (int (putE b (l.flatMap fWb))) ([(P0, .cells [.nslc n 1 (putL b (l.flatMap fWb)).length c.cap, .v (.bool true), .v (.int .i64 0)]), (n, .row 1 (encInt .u8) (putL b (l.flatMap fWb)) c.cap)] ++ delL [P0, P1] h)) else False
    | _ => False)
    | _ => False)
  | _ => False
theorem widew_mono : MMono widewT := by
  intro ms n h K K' hkk hk
  unfold widewT at hk ⊢
  split at hk
  · rename_i P0 vx0 ve0 va0 en0 vl0
    split at hk
    · rename_i P1 len cap hg0
      try simp only [hg0]
      split at hk
      · rename_i we1 wa1 wn1 wl1 cap2 hg1
        try simp only [hg1]
        obtain ⟨hb, y0, z0, y1, z1, h1, h2⟩ := cond_false_elim hk
        rw [hb]
        exact ⟨y0, z0, y1, z1, h1, fun o => hkk _ _ _ (h2 o)⟩
      · exact hk.elim
    · exact hk.elim
  · exact hk.elim
theorem widew_ok : MOK Tryd.prog 34 widewT := by
  refine ⟨?_, widew_mono⟩
  intro ms n hB K hk
  unfold widewT at hk
  split at hk
  · rename_i P0 vx0 ve0 va0 en0 vl0
    split at hk
    · rename_i P1 len cap hg0
      split at hk
      · rename_i we1 wa1 wn1 wl1 cap2 hg1
        obtain ⟨hb, l, he0, b, hl1, h, hk2⟩ := cond_false_elim hk
        clear hk
        simp only [Bool.and_eq_true] at hb
        obtain ⟨⟨hc0, hc1⟩, hnd⟩ := hb
        have hs0 := Nat.eq_of_beq_eq_true hc0
        subst hs0
        have hs1 := Nat.eq_of_beq_eq_true hc1
        subst hs1
        refine SCall.seen ?_ (.cons (.refl _) (.cons (.view he0) .nil))
        exact (widew_spec _ h.1 h.2.1 h.2.2.1 h.2.2.2.1 h.2.2.2.2.1 h.2.2.2.2.2).use (fun j => match j with | 0 => P0 | 1 => P1 | _ => 0) rfl rfl ⟨by show (match get hB P0 with | some b0 => Blk.imp _ _ _ b0 | none => False); rw [hg0]; exact ⟨rfl, rfl⟩, rfl, ⟨by show (match get hB P1 with | some b0 => Blk.imp _ _ _ b0 | none => False); rw [hg1]; exact ⟨rfl, rfl, hl1.symm, fun y _ => Enc.pures _ y⟩, rfl, trivial⟩⟩ (by exact hnd) (fun j hj => by cases j with
            | zero => exact ⟨_, rfl⟩
            | succ j => cases j with
             | zero => exact ⟨_, rfl⟩
             | succ j => omega) (fun o => hk2 o)
      · exact hk.elim
    · exact hk.elim
  · exact hk.elim

def msgF (n s t : Int) (v : List Int) (g : Int) (d : List Int) : List Int := [n, s, t].flatMap be8 ++ [v].flatMap fWb ++ [g, (d.length : Int)].flatMap be8 ++ d
abbrev mA (n s t : Int) (v : List Int) (g : Int) (x : Value) (d : List Int) : List SV := [.v (.int .u64 n), .v (.int .u64 s), .v (.int .u64 t), .ints .u64 4 v, .v (.int .u64 g), .view x 1 eB d]
theorem msgb_spec (n s t : Int) {v : List Int} (g : Int) (x : Value) {d : List Int} (hv : v.length = 4) (hd : d.length ≤ 100000000) : SMem Tryd.prog 28 [.agg (mA n s t v g x d)] 0 [] (fun y : Value => ⟨0, byV y (msgF n s t v g d), []⟩) := by
  refine SMem.inf 1 EB [] SOK.nil [(32, writerT), (33, uintwT), (34, widewT), (35, wbytesOT)] (MSOK.cons writer_ok (MSOK.cons uintw_ok (MSOK.cons widew_ok (MSOK.cons wbytesO_ok MSOK.nil)))) tok mixed [] IOK.nil true [] [] Tryd.call28 Tryd.func28 rfl (by rfl) ?_
  refine Eq.mp (α := (And True (∀ o : Unit, (And ((0 : Nat) + (3 : Nat) ≤ (3 : Nat)) (And ((3 : Nat) ≤ (3 : Nat)) (And (∀ y : Int, ((true : Bool) = true)) (∀ x_1 : Value, (∃ l : List Int, (And (List.map (Enc.enc (encInt IntKind.u64)) (List.take (3 : Nat) (List.drop (0 : Nat) [Enc.of (encInt IntKind.u64) (n, ()), Enc.of (encInt IntKind.u64) (s, ()), Enc.of (encInt IntKind.u64) (t, ())])) = List.map eU l) (∃ b : List Int, (And (List.map (Enc.enc (encInt IntKind.u8)) [] = List.map (Enc.enc (encInt IntKind.u8)) b) (And (And ((0 : Nat) = List.length b) (And ((0 : Nat) = (0 : Nat)) (And (List.length b ≤ (65536 : Nat)) (And (List.length b ≤ (0 : Nat)) (List.length l * (8 : Nat) ≤ (140737488351232 : Nat)))))) (∀ c : CapT (List.length (putL b (List.flatMap be8 l))), (And ((0 : Nat) + (1 : Nat) ≤ (1 : Nat)) (And ((1 : Nat) ≤ (1 : Nat)) (And (∀ y : List Int, ((true : Bool) = true)) (∀ x_2 : Value, (∃ l_1 : List (List Int), (And (List.map (Enc.enc (encInts IntKind.u64 (4 : Nat))) (List.take (1 : Nat) (List.drop (0 : Nat) [Enc.of (encInts IntKind.u64 (4 : Nat)) (v, ())])) = List.map eW l_1) (∃ b_1 : List Int, (And (List.map (Enc.enc (encInt IntKind.u8)) (putL b (List.flatMap be8 l)) = List.map (Enc.enc (encInt IntKind.u8)) b_1) (And (And (List.length (putL b (List.flatMap be8 l)) = List.length b_1) (And (CapT.cap c = CapT.cap c) (And (List.length b_1 ≤ (65536 : Nat)) (And (List.length b_1 ≤ CapT.cap c) (And (List.length l_1 * (32 : Nat) ≤ (140737488351232 : Nat)) (∀ a : List Int, (∀ a_1 : a ∈ l_1, (List.length a = (4 : Nat))))))))) (∀ c_1 : CapT (List.length (putL b_1 (List.flatMap fWb l_1))), (And ((0 : Nat) + (2 : Nat) ≤ (2 : Nat)) (And ((2 : Nat) ≤ (2 : Nat)) (And (∀ y : Int, ((true : Bool) = true)) (∀ x_3 : Value, (∃ l_2 : List Int, (And (List.map (Enc.enc (encInt IntKind.u64)) (List.take (2 : Nat) (List.drop (0 : Nat) [Enc.of (encInt IntKind.u64) (g, ()), Enc.of (encInt IntKind.u64) (IntKind.wrap IntKind.u64 (↑(List.length d) : Int), ())])) = List.map eU l_2) (∃ b_2 : List Int, (And (List.map (Enc.enc (encInt IntKind.u8)) (putL b_1 (List.flatMap fWb l_1)) = List.map (Enc.enc (encInt IntKind.u8)) b_2) (And (And (List.length (putL b_1 (List.flatMap fWb l_1)) = List.length b_2) (And (CapT.cap c_1 = CapT.cap c_1) (And (List.length b_2 ≤ (65536 : Nat)) (And (List.length b_2 ≤ CapT.cap c_1) (List.length l_2 * (8 : Nat) ≤ (140737488351232 : Nat)))))) (∀ c_2 : CapT (List.length (putL b_2 (List.flatMap be8 l_2))), (And (∃ b_3 : List Int, (And (List.map (Enc.enc (encInt IntKind.u8)) (putL b_2 (List.flatMap be8 l_2)) = List.map (Enc.enc (encInt IntKind.u8)) b_3) (And (And (List.length (putL b_2 (List.flatMap be8 l_2)) = List.length b_3) (And (CapT.cap c_2 = CapT.cap c_2) (And (List.length b_3 ≤ CapT.cap c_2) (And ((0 : Nat) < List.length b_3) (List.length b_3 ≤ (65536 : Nat)))))) (∀ c_3 : CapT (List.length b_3), (And (And (List.length b_3 = List.length b_3) (And (CapT.cap c_3 = CapT.cap c_3) (∃ ys : List Int, (And (List.map (Enc.enc (encInt IntKind.u8)) ys = List.map eB d) (And ((List.length b_3 + List.length ys) * (1 : Nat) ≤ (150000000000000 : Nat)) (∀ cap2 : Nat, (∀ a : List.length b_3 + List.length ys ≤ cap2, (And ((0 : Nat) + List.length (b_3 ++ ys) ≤ List.length (b_3 ++ ys)) (And (List.length (b_3 ++ ys) ≤ cap2) (And (∀ y : Int, ((true : Bool) = true)) (∀ x_4 : Value, (∃ o_1 : Value, (And (And (SV.view o_1 (1 : Nat) (Enc.enc (encInt IntKind.u8)) (msgF n s t v g d) = nilV (1 : Nat) EB (SV.view x_4 (1 : Nat) (Enc.enc (encInt IntKind.u8)) (List.take (List.length (b_3 ++ ys)) (List.drop (0 : Nat) (b_3 ++ ys))))) True) (And True ((true : Bool) = true))))))))))))))) True))))) (And (And (∃ b_3 : List Int, (And (List.map (Enc.enc (encInt IntKind.u8)) (putL b_2 (List.flatMap be8 l_2)) = List.map (Enc.enc (encInt IntKind.u8)) b_3) (And (And (List.length (putL b_2 (List.flatMap be8 l_2)) = List.length b_3) (And (CapT.cap c_2 = CapT.cap c_2) (And (List.length b_3 ≤ CapT.cap c_2) (And ((0 : Nat) < List.length b_3) (List.length b_3 ≤ (65536 : Nat)))))) (∀ c_3 : CapT (List.length b_3), (And (And (List.length b_3 = List.length b_3) (And (CapT.cap c_3 = CapT.cap c_3) (∃ ys : List Int, (And (List.map (Enc.enc (encInt IntKind.u8)) ys = List.map eB d) (And ((List.length b_3 + List.length ys) * (1 : Nat) ≤ (150000000000000 : Nat)) (∀ cap2 : Nat, (∀ a : List.length b_3 + List.length ys ≤ cap2, (And ((0 : Nat) + List.length (b_3 ++ ys) ≤ List.length (b_3 ++ ys)) (And (List.length (b_3 ++ ys) ≤ cap2) (And (∀ y : Int, ((true : Bool) = true)) (∀ x_4 : Value, (∃ o_1 : Value, (And (And (SV.view o_1 (1 : Nat) (Enc.enc (encInt IntKind.u8)) (msgF n s t v g d) = nilV (1 : Nat) EB (SV.view x_4 (1 : Nat) (Enc.enc (encInt IntKind.u8)) (List.take (List.length (b_3 ++ ys)) (List.drop (0 : Nat) (b_3 ++ ys))))) True) (And True ((true : Bool) = true))))))))))))))) True))))) True) True))))))))))))))))))))))))))))))))))) (by kernel_rfl) ?_
  have hw : IntKind.u64.wrap (d.length : Int) = (d.length : Int) := by rw [wrapU64]; omega
  rw [hw]
  have a1 : ([n, s, t].flatMap be8).length = 24 := rfl
  have a2 : ([v].flatMap fWb).length = 32 := by
    rw [List.flatMap_cons, List.flatMap_nil, List.append_nil]
    exact wbS_length v 32
  have a3 : ([g, (d.length : Int)].flatMap be8).length = 16 := rfl
  have p1 : putL [] ([n, s, t].flatMap be8) = [n, s, t].flatMap be8 := putL_fit (by rw [a1]; decide)
  have l1 : (putL [] ([n, s, t].flatMap be8)).length = 24 := by rw [p1, a1]
  have p2 : putL (putL [] ([n, s, t].flatMap be8)) ([v].flatMap fWb) = [n, s, t].flatMap be8 ++ [v].flatMap fWb := by rw [putL_fit (by rw [l1, a2]; decide), p1]
  have l2 : (putL (putL [] ([n, s, t].flatMap be8)) ([v].flatMap fWb)).length = 56 := by rw [p2, List.length_append, a1, a2]
  have p3 : putL (putL (putL [] ([n, s, t].flatMap be8)) ([v].flatMap fWb)) ([g, (d.length : Int)].flatMap be8) = [n, s, t].flatMap be8 ++ [v].flatMap fWb ++ [g, (d.length : Int)].flatMap be8 := by rw [putL_fit (by rw [l2, a3]; decide), p2]
  have l3 : (putL (putL (putL [] ([n, s, t].flatMap be8)) ([v].flatMap fWb)) ([g, (d.length : Int)].flatMap be8)).length = 72 := by rw [p3, List.length_append, List.length_append, a1, a2, a3]
  refine ⟨trivial, fun _ => ⟨by omega, by omega, fun _ => rfl, fun x1 => ⟨[n, s, t], rfl, [], rfl, ⟨rfl, rfl, by decide, by decide, (show 3 * 8 ≤ 140737488351232 by decide)⟩, fun c => ⟨by omega, by omega, fun _ => rfl, fun x2 => ⟨[v], rfl, putL [] ([n, s, t].flatMap be8), rfl, ⟨rfl, rfl, by omega, c.h, (show 1 * 32 ≤ 140737488351232 by decide), fun a ha => by rw [List.mem_singleton.1 ha]; exact hv⟩, fun c1 => ⟨by omega, by omega, fun _ => rfl, fun x3 => ⟨[g, (d.length : Int)], rfl, putL (putL [] ([n, s, t].flatMap be8)) ([v].flatMap fWb), rfl, ⟨rfl, rfl, by omega, c1.h, (show 2 * 8 ≤ 140737488351232 by decide)⟩, fun c2 => ?_⟩⟩⟩⟩⟩⟩⟩
  obtain ⟨c2, c2h⟩ := c2
  dsimp only
  have p4 : putL (putL (putL [] ([n, s, t].flatMap be8)) ([v].flatMap fWb)) ([g, (d.length : Int)].flatMap be8) ++ d = msgF n s t v g d := by rw [p3]; rfl
  clear p1 p2 p3 l1 l2 a1 a2 a3 c c1
  generalize putL (putL (putL [] ([n, s, t].flatMap be8)) ([v].flatMap fWb)) ([g, (d.length : Int)].flatMap be8) = B at *
  generalize msgF n s t v g d = X at *
  have one : ∀ z4 : Value, SV.view z4 1 (encInt IntKind.u8).enc X = nilV 1 EB (SV.view z4 1 (encInt IntKind.u8).enc (List.take (B ++ d).length (List.drop 0 (B ++ d)))) := fun z4 => by
    rw [List.drop_zero, List.take_length, p4]
    rfl
  have all : ∀ (c_3 : CapT B.length) (cap2 : Nat), B.length + d.length ≤ cap2 → 0 + (B ++ d).length ≤ (B ++ d).length ∧ (B ++ d).length ≤ cap2 ∧ (∀ (y : Int), true = true) ∧ ∀ (x_4 : Value), ∃ o_1 : Value, (SV.view o_1 1 (encInt IntKind.u8).enc X = nilV 1 EB (SV.view x_4 1 (encInt IntKind.u8).enc (List.take (B ++ d).length (List.drop 0 (B ++ d)))) ∧ True) ∧ True ∧ true = true := fun c3 cap2 k2 =>
    ⟨Nat.le_of_eq (Nat.zero_add _), by rw [List.length_append]; exact k2, fun _ => rfl, fun z => ⟨z, ⟨one z, trivial⟩, trivial, rfl⟩⟩
  have ex : ∀ {Q : CapT B.length → Prop}, (∀ c3, Q c3) → (B.length = B.length ∧ c2 = c2 ∧ B.length ≤ c2 ∧ 0 < B.length ∧ B.length ≤ 65536) ∧ ∀ c3, Q c3 := fun h => ⟨⟨rfl, rfl, c2h, by omega, by omega⟩, h⟩
  exact ⟨⟨B, rfl, ex fun c3 => ⟨⟨rfl, rfl, d, rfl, by omega, all c3⟩, trivial⟩⟩, ⟨⟨B, rfl, ex fun c3 => ⟨⟨rfl, rfl, d, rfl, by omega, all c3⟩, trivial⟩⟩, trivial⟩, trivial⟩
def msgbT : MT := fun ms n h K => match ms with
  | [.agg [.v (.int .u64 n_), .v (.int .u64 s), .v (.int .u64 t), .ints .u64 4 v, .v (.int .u64 g), .view vx0 ve0 en0 vl0]] => bif Nat.beq ve0 1 && noDup [] then ∃ d : List (Int), vl0.map en0 = d.map eB ∧ ((v.length = 4 ∧ d.length ≤ 100000000)) ∧ (∀ y : Value, K (n + 0) (byV y (msgF n_ s t v g d)) ([] ++ delL [] h)) else False
  | _ => False
theorem msgb_mono : MMono msgbT := by
  intro ms n h K K' hkk hk
  unfold msgbT at hk ⊢
  split at hk
  · rename_i n_ s t v g vx0 ve0 va0 en0 vl0
    obtain ⟨hb, y0, z0, h1, h2⟩ := cond_false_elim hk
    rw [hb]
    exact ⟨y0, z0, h1, fun o => hkk _ _ _ (h2 o)⟩
  · exact hk.elim
theorem msgb_ok : MOK Tryd.prog 28 msgbT := by
  refine ⟨?_, msgb_mono⟩
  intro ms n hB K hk
  unfold msgbT at hk
  split at hk
  · rename_i n_ s t v g vx0 ve0 va0 en0 vl0
    obtain ⟨hb, d, he0, h, hk2⟩ := cond_false_elim hk
    clear hk
    simp only [Bool.and_eq_true] at hb
    obtain ⟨hc0, hnd⟩ := hb
    have hs0 := Nat.eq_of_beq_eq_true hc0
    subst hs0
    refine SCall.seen ?_ (.cons (.agg (.refl (.refl (.refl (.refl (.refl (.view he0 .nil))))))) .nil)
    exact (msgb_spec _ _ _ _ _ h.1 h.2).use (fun _ => 0) rfl rfl trivial (by exact hnd) (fun j hj => absurd hj (Nat.not_lt_zero j)) (fun o => hk2 o)
  · exact hk.elim

end Go.Proofs.YtgbikcniediomaaDoor.Dg
