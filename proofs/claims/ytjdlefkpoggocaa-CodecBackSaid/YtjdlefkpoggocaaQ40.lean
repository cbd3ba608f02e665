/- Writers. -/
import Derived.Test.YtjdlefkpoggocaaQ34
import Derived.Test.YtjdlefkpoggocaaWW
import Derived.Test.YtjdlefkpoggocaaSx24
namespace Go.Proofs.Ytjdlefkpoggocaa
open Go Go.Sx Go.Wide
set_option linter.unusedVariables false
set_option linter.unusedSimpArgs false
set_option maxRecDepth 100000
set_option maxHeartbeats 4000000

theorem sh8 (x : Int) (k : Nat) (h : k ≤ 64) : IntKind.u8.wrap (shr .u64 x (k : Int)) = x / 2 ^ k % 256 := by
  have h1 : shr .u64 x (k : Int) = x / 2 ^ k := by
    unfold shr
    rw [Int.toNat_natCast, show min k IntKind.u64.bits = k by simp [IntKind.bits]; omega, Int.fdiv_eq_ediv_of_nonneg _ (Int.le_of_lt (Int.pow_pos (by decide)))]
  rw [h1]
  simp [IntKind.wrap, IntKind.bits, IntKind.signed]

theorem eight_spec (x : Int) : SMem Try.prog 62 [u64 x] 0 [] (fun _ : Unit => ⟨1, .one (.slc 0 1 0 8 8), [(0, .row 1 (encInt .u8) (be8 x) 8)]⟩) := by
  refine SMem.inm [] SOK.nil [] MSOK.nil tok mixed [] IOK.nil true [] [] Try.call62 Try.func62 rfl (by rfl) ?_
  refine Eq.mp (α := (And ((0 : Int) ≤ (8 : Int)) (And ((0 : Int) ≤ (8 : Int)) (And (Int.toNat (8 : Int) ≤ Int.toNat (8 : Int)) (And ((1 : Nat) * Int.toNat (8 : Int) ≤ (281474976710656 : Nat)) (And (Int.toNat (8 : Int) ≤ (9223372036854775807 : Nat)) (And ((0 : Int) ≤ (56 : Int)) (And ((0 : Int) ≤ (0 : Int)) (And (Int.toNat (0 : Int) < Int.toNat (8 : Int)) (∃ hi : (0 : Nat) + Int.toNat (0 : Int) < (8 : Nat), (And ((0 : Int) ≤ (48 : Int)) (And ((0 : Int) ≤ (1 : Int)) (And (Int.toNat (1 : Int) < Int.toNat (8 : Int)) (∃ hi_1 : (0 : Nat) + Int.toNat (1 : Int) < (8 : Nat), (And ((0 : Int) ≤ (40 : Int)) (And ((0 : Int) ≤ (2 : Int)) (And (Int.toNat (2 : Int) < Int.toNat (8 : Int)) (∃ hi_2 : (0 : Nat) + Int.toNat (2 : Int) < (8 : Nat), (And ((0 : Int) ≤ (32 : Int)) (And ((0 : Int) ≤ (3 : Int)) (And (Int.toNat (3 : Int) < Int.toNat (8 : Int)) (∃ hi_3 : (0 : Nat) + Int.toNat (3 : Int) < (8 : Nat), (And ((0 : Int) ≤ (24 : Int)) (And ((0 : Int) ≤ (4 : Int)) (And (Int.toNat (4 : Int) < Int.toNat (8 : Int)) (∃ hi_4 : (0 : Nat) + Int.toNat (4 : Int) < (8 : Nat), (And ((0 : Int) ≤ (16 : Int)) (And ((0 : Int) ≤ (5 : Int)) (And (Int.toNat (5 : Int) < Int.toNat (8 : Int)) (∃ hi_5 : (0 : Nat) + Int.toNat (5 : Int) < (8 : Nat), (And ((0 : Int) ≤ (8 : Int)) (And ((0 : Int) ≤ (6 : Int)) (And (Int.toNat (6 : Int) < Int.toNat (8 : Int)) (∃ hi_6 : (0 : Nat) + Int.toNat (6 : Int) < (8 : Nat), (And ((0 : Int) ≤ (0 : Int)) (And ((0 : Int) ≤ (7 : Int)) (And (Int.toNat (7 : Int) < Int.toNat (8 : Int)) (∃ hi_7 : (0 : Nat) + Int.toNat (7 : Int) < (8 : Nat), (∃ o : Unit, (And (And (And ((true : Bool) = true) (And ((0 : Nat) = (0 : Nat)) (And ((8 : Nat) = Int.toNat (8 : Int)) ((8 : Nat) = Int.toNat (8 : Int))))) True) (And (And (And ((true : Bool) = true) (And ((8 : Nat) = Int.toNat (8 : Int)) (And (List.map (Enc.enc (encInt IntKind.u8)) (be8 x) = List.map (Enc.enc (encInt IntKind.u8)) (List.set (List.set (List.set (List.set (List.set (List.set (List.set (List.set (List.replicate (Int.toNat (8 : Int)) (Enc.of (encInt IntKind.u8) ((0 : Int), ()))) ((0 : Nat) + Int.toNat (0 : Int)) (Enc.of (encInt IntKind.u8) (IntKind.wrap IntKind.u8 (shr IntKind.u64 x (56 : Int)), ()))) ((0 : Nat) + Int.toNat (1 : Int)) (Enc.of (encInt IntKind.u8) (IntKind.wrap IntKind.u8 (shr IntKind.u64 x (48 : Int)), ()))) ((0 : Nat) + Int.toNat (2 : Int)) (Enc.of (encInt IntKind.u8) (IntKind.wrap IntKind.u8 (shr IntKind.u64 x (40 : Int)), ()))) ((0 : Nat) + Int.toNat (3 : Int)) (Enc.of (encInt IntKind.u8) (IntKind.wrap IntKind.u8 (shr IntKind.u64 x (32 : Int)), ()))) ((0 : Nat) + Int.toNat (4 : Int)) (Enc.of (encInt IntKind.u8) (IntKind.wrap IntKind.u8 (shr IntKind.u64 x (24 : Int)), ()))) ((0 : Nat) + Int.toNat (5 : Int)) (Enc.of (encInt IntKind.u8) (IntKind.wrap IntKind.u8 (shr IntKind.u64 x (16 : Int)), ()))) ((0 : Nat) + Int.toNat (6 : Int)) (Enc.of (encInt IntKind.u8) (IntKind.wrap IntKind.u8 (shr IntKind.u64 x (8 : Int)), ()))) ((0 : Nat) + Int.toNat (7 : Int)) (Enc.of (encInt IntKind.u8) (IntKind.wrap IntKind.u8 (shr IntKind.u64 x (0 : Int)), ())))) (∀ x_1 : Int, (∀ a : x_1 ∈ be8 x, (∀ s : SV, (∀ a_1 : s ∈ Enc.enc (encInt IntKind.u8) x_1, ((SV.isPure s : Bool) = true)))))))) (And ((true : Bool) = true) True)) ((true : Bool) = true)))))))))))))))))))))))))))))))))))))))))) (by kernel_rfl) ?_
  have h56 : IntKind.u8.wrap (shr .u64 x 56) = x / 72057594037927936 % 256 := sh8 x 56 (by decide)
  have h48 : IntKind.u8.wrap (shr .u64 x 48) = x / 281474976710656 % 256 := sh8 x 48 (by decide)
  have h40 : IntKind.u8.wrap (shr .u64 x 40) = x / 1099511627776 % 256 := sh8 x 40 (by decide)
  have h32 : IntKind.u8.wrap (shr .u64 x 32) = x / 4294967296 % 256 := sh8 x 32 (by decide)
  have h24 : IntKind.u8.wrap (shr .u64 x 24) = x / 16777216 % 256 := sh8 x 24 (by decide)
  have h16 : IntKind.u8.wrap (shr .u64 x 16) = x / 65536 % 256 := sh8 x 16 (by decide)
  have h08 : IntKind.u8.wrap (shr .u64 x 8) = x / 256 % 256 := sh8 x 8 (by decide)
  have h00 : IntKind.u8.wrap (shr .u64 x 0) = x % 256 := by
    have := sh8 x 0 (by decide)
    rwa [show x / 2 ^ 0 = x by simp] at this
  simp only [h56, h48, h40, h32, h24, h16, h08, h00, ofB]
  repeat' first | exact encB_pure _ | (refine Exists.intro () ?_) | exact trivial | refine And.intro ?_ ?_ | with_reducible refine bif_dt (by assumption) ?_ | with_reducible refine bif_df (by assumption) ?_ | with_reducible refine bif_dec (fun _ => ?_) (fun _ => ?_) | with_reducible refine bif_not ?_ | with_reducible refine bif_and ?_ | with_reducible refine bif_or ?_ | with_reducible refine bif_t (by assumption) ?_ | with_reducible refine bif_f (by assumption) ?_ | with_reducible refine bif_t (beq_self_eq_true _) ?_ | with_reducible refine bif_b (fun _ => ?_) (fun _ => ?_) | with_reducible refine ⟨_, Eq.refl (List.map _ _), ?_⟩ | (with_reducible refine Exists.intro (by omega) ?_) | rfl | (intro h0; omega) | omega
def eightT : MT := fun ms n h K => match ms with
  | [.one (.v (.int .u64 x))] => bif true then True ∧ (∀ o : Unit, K (n + 1) (.one (.slc n 1 0 8 8)) ([(n, .row 1 (encInt .u8) (be8 x) 8)] ++ delL [] h)) else False
  | _ => False
theorem eight_mono : MMono eightT := by
  intro ms n h K K' hkk hk
  unfold eightT at hk ⊢
  split at hk
  · rename_i x
    obtain ⟨hb, h1, h2⟩ := cond_false_elim hk
    rw [hb]
    exact ⟨h1, fun o => hkk _ _ _ (h2 o)⟩
  · exact hk.elim
theorem eight_ok : MOK Try.prog 62 eightT := by
  refine ⟨?_, eight_mono⟩
  intro ms n hB K hk
  unfold eightT at hk
  split at hk
  · rename_i x
    obtain ⟨hb, h, hk2⟩ := cond_false_elim hk
    clear hk
    have hnd : noDup [] = true := rfl
    refine SCall.seen ?_ (.cons (.refl _) .nil)
    exact (eight_spec x).use (fun _ => 0) rfl rfl trivial hnd (fun j hj => absurd hj (Nat.not_lt_zero j)) (fun o => hk2 o)
  · exact hk.elim

theorem writer_spec : SMem Try.prog 38 [] 0 [] (fun _ : Unit => ⟨2, .one (.ptr 0 0), [(0, .cells [.nslc 1 1 0 0, .v (.bool true), .v (.int .i64 0)]), (1, .row 1 (encInt .u8) [] 0)]⟩) := by
  refine SMem.inm [] SOK.nil [] MSOK.nil tok mixed [] IOK.nil true [] [] Try.call38 Try.func38 rfl (by rfl) ?_
  refine Eq.mp (α := (∃ o : Unit, (And (And (And ((true : Bool) = true) ((0 : Nat) = (0 : Nat))) True) (And (And (And (And ((true : Bool) = true) (And ((0 : Nat) = (0 : Nat)) ((0 : Nat) = (0 : Nat)))) (And ((true : Bool) = true) (And ((0 : Int) = (0 : Int)) True))) (And ((true : Bool) = true) (And (And ((true : Bool) = true) (And ((0 : Nat) = (0 : Nat)) (And (List.map (Enc.enc (encInt IntKind.u8)) [] = List.map (Enc.enc (encInt IntKind.u8)) []) (∀ x : Int, (∀ a : x ∈ [], (∀ s : SV, (∀ a_1 : s ∈ Enc.enc (encInt IntKind.u8) x, ((SV.isPure s : Bool) = true)))))))) (And ((true : Bool) = true) True)))) ((true : Bool) = true))))) (by kernel_rfl) ?_
  repeat' first | exact encB_pure _ | (refine Exists.intro () ?_) | exact trivial | refine And.intro ?_ ?_ | with_reducible refine bif_dt (by assumption) ?_ | with_reducible refine bif_df (by assumption) ?_ | with_reducible refine bif_dec (fun _ => ?_) (fun _ => ?_) | with_reducible refine bif_not ?_ | with_reducible refine bif_and ?_ | with_reducible refine bif_or ?_ | with_reducible refine bif_t (by assumption) ?_ | with_reducible refine bif_f (by assumption) ?_ | with_reducible refine bif_t (beq_self_eq_true _) ?_ | with_reducible refine bif_b (fun _ => ?_) (fun _ => ?_) | with_reducible refine ⟨_, Eq.refl (List.map _ _), ?_⟩ | (with_reducible refine Exists.intro (by omega) ?_) | rfl | (intro h0; omega) | omega
def writerT : MT := fun ms n h K => match ms with
  | [] => bif true then True ∧ (∀ o : Unit, K (n + 2) (.one (.ptr n 0)) ([(n, .cells [.nslc (n + 1) 1 0 0, .v (.bool true), .v (.int .i64 0)]), (n + 1, .row 1 (encInt .u8) [] 0)] ++ delL [] h)) else False
  | _ => False
theorem writer_mono : MMono writerT := by
  intro ms n h K K' hkk hk
  unfold writerT at hk ⊢
  split at hk
  · obtain ⟨hb, h1, h2⟩ := cond_false_elim hk
    rw [hb]
    exact ⟨h1, fun o => hkk _ _ _ (h2 o)⟩
  · exact hk.elim
theorem writer_ok : MOK Try.prog 38 writerT := by
  refine ⟨?_, writer_mono⟩
  intro ms n hB K hk
  unfold writerT at hk
  split at hk
  · obtain ⟨hb, h, hk2⟩ := cond_false_elim hk
    clear hk
    have hnd : noDup [] = true := rfl
    refine SCall.seen ?_ .nil
    exact (writer_spec).use (fun _ => 0) rfl rfl trivial hnd (fun j hj => absurd hj (Nat.not_lt_zero j)) (fun o => hk2 o)
  · exact hk.elim

theorem wfits {b l : List Int} (h : b.length ≤ 65536) : decide (IntKind.wrap IntKind.i64 ((65536 : Int) - (b.length : Int)) < (l.length : Int)) = !(fits b l) := by
  rw [wrap64 (by omega) (by omega)]
  unfold fits
  by_cases h1 : l.length ≤ 65536 - b.length
  · rw [decide_eq_true h1, decide_eq_false (by omega)]; rfl
  · rw [decide_eq_false h1, decide_eq_true (by omega)]; rfl
theorem all_spec (x : Value) {b l : List Int} {len cap cap' : Nat} (h1 : len = b.length) (h2 : cap = cap') (h3 : b.length ≤ 65536) (h4 : b.length ≤ cap') : SMem Try.prog 63 [.one (.ptr 0 0), byV x l] 2 [(0, .cells [.nslc 1 1 len cap, .v (.bool true), .v (.int .i64 0)]), (1, .row 1 (encInt .u8) b cap')]
    (fun c : CapT (putL b l).length => ⟨3, int (putE b l), [(0, .cells [.nslc 2 1 (putL b l).length c.cap, .v (.bool true), .v (.int .i64 0)]), (2, .row 1 (encInt .u8) (putL b l) c.cap)]⟩) := by
  subst h1
  subst h2
  refine SMem.inm [] SOK.nil [] MSOK.nil tok mixed [] IOK.nil true [] [] Try.call63 Try.func63 rfl (by rfl) ?_
  refine Eq.mp (α := (@Bool.rec (fun _ => Prop) (And (List.length b = List.length b) (And (cap = cap) (∃ ys : List Int, (And (List.map (Enc.enc (encInt IntKind.u8)) ys = List.map (Enc.enc (encInt IntKind.u8)) l) (And ((List.length b + List.length ys) * (1 : Nat) ≤ (150000000000000 : Nat)) (∀ cap2 : Nat, (∀ a : List.length b + List.length ys ≤ cap2, (∃ o : CapT (List.length (putL b l)), (And (And (putE b l = (0 : Int)) True) (And (And (And (And ((true : Bool) = true) (And (List.length (putL b l) = List.length (b ++ ys)) (CapT.cap o = cap2))) (And ((true : Bool) = true) (And ((0 : Int) = (0 : Int)) True))) (And ((true : Bool) = true) (And (And ((true : Bool) = true) (And (CapT.cap o = cap2) (And (List.map (Enc.enc (encInt IntKind.u8)) (putL b l) = List.map (Enc.enc (encInt IntKind.u8)) (b ++ ys)) (∀ x_1 : Int, (∀ a_1 : x_1 ∈ putL b l, (∀ s : SV, (∀ a_2 : s ∈ Enc.enc (encInt IntKind.u8) x_1, ((SV.isPure s : Bool) = true)))))))) (And ((true : Bool) = true) True)))) ((true : Bool) = true))))))))))) (∃ o : CapT (List.length (putL b l)), (And (And (putE b l = (6 : Int)) True) (And (And (And (And ((true : Bool) = true) (And (List.length (putL b l) = List.length b) (CapT.cap o = cap))) (And ((true : Bool) = true) (And ((0 : Int) = (0 : Int)) True))) (And ((true : Bool) = true) (And (And ((true : Bool) = true) (And (CapT.cap o = cap) (And (List.map (Enc.enc (encInt IntKind.u8)) (putL b l) = List.map (Enc.enc (encInt IntKind.u8)) b) (∀ x_1 : Int, (∀ a : x_1 ∈ putL b l, (∀ s : SV, (∀ a_1 : s ∈ Enc.enc (encInt IntKind.u8) x_1, ((SV.isPure s : Bool) = true)))))))) (And ((true : Bool) = true) True)))) ((true : Bool) = true)))) (decide (IntKind.wrap IntKind.i64 ((65536 : Int) - (↑(List.length b) : Int)) < (↑(List.length l) : Int))))) (by kernel_rfl) ?_
  rw [wfits h3]
  refine bif_not ?_
  unfold putL putE
  have hf : fits b l = decide (l.length ≤ 65536 - b.length) := rfl
  cases h : fits b l with
  | true =>
    have h5 := of_decide_eq_true (hf.symm.trans h)
    simp only [cond_true]
    repeat (with_reducible refine And.intro (by first | exact trivial | omega | decide) ?_)
    refine ⟨l, rfl, by omega, fun cap2 hc => ⟨⟨cap2, by rw [List.length_append]; exact hc⟩, ?_⟩⟩
    repeat' first | exact encB_pure _ | exact trivial | refine And.intro ?_ ?_ | with_reducible refine bif_dt (by assumption) ?_ | with_reducible refine bif_df (by assumption) ?_ | with_reducible refine bif_dec (fun _ => ?_) (fun _ => ?_) | with_reducible refine bif_not ?_ | with_reducible refine bif_and ?_ | with_reducible refine bif_or ?_ | with_reducible refine bif_t (by assumption) ?_ | with_reducible refine bif_f (by assumption) ?_ | with_reducible refine bif_t (beq_self_eq_true _) ?_ | with_reducible refine bif_b (fun _ => ?_) (fun _ => ?_) | with_reducible refine ⟨_, Eq.refl (List.map _ _), ?_⟩ | (with_reducible refine Exists.intro (by omega) ?_) | rfl | (intro h0; omega) | omega
  | false =>
    simp only [cond_false]
    refine ⟨⟨cap, h4⟩, ?_⟩
    repeat' first | exact encB_pure _ | exact trivial | refine And.intro ?_ ?_ | with_reducible refine bif_dt (by assumption) ?_ | with_reducible refine bif_df (by assumption) ?_ | with_reducible refine bif_dec (fun _ => ?_) (fun _ => ?_) | with_reducible refine bif_not ?_ | with_reducible refine bif_and ?_ | with_reducible refine bif_or ?_ | with_reducible refine bif_t (by assumption) ?_ | with_reducible refine bif_f (by assumption) ?_ | with_reducible refine bif_t (beq_self_eq_true _) ?_ | with_reducible refine bif_b (fun _ => ?_) (fun _ => ?_) | with_reducible refine ⟨_, Eq.refl (List.map _ _), ?_⟩ | (with_reducible refine Exists.intro (by omega) ?_) | rfl | (intro h0; omega) | omega
def allT : MT := fun ms n h K => match ms with
  | [.one (.ptr P0 0), .one (.view vx1 ve1 en1 vl1)] => (match get h P0 with
    | some (.cells [.nslc P1 1 len cap, .v (.bool true), .v (.int .i64 0)]) => (match get h P1 with
    | some (.row we1 wn1 wl1 cap2) => bif Nat.beq ve1 1 && Nat.beq we1 1 && noDup [P0, P1] then ∃ l : List (Int), vl1.map en1 = l.map eB ∧ ∃ b : List (Int), wl1.map wn1.enc = b.map ((encInt .u8)).enc ∧ ((len = b.length ∧ cap = cap2 ∧ b.length ≤ 65536 ∧ b.length ≤ cap2)) ∧ (∀ c : CapT (putL b l).length, K (n + 1) (int (putE b l)) ([(P0, .cells [.nslc n 1 (putL b l).length c.cap, .v (.bool true), .v (.int .i64 0)]), (n, .row 1 (encInt .u8) (putL b l) c.cap)] ++ delL [P0, P1] h)) else False
    | _ => False)
    | _ => False)
  | _ => False
theorem all_mono : MMono allT := by
  intro ms n h K K' hkk hk
  unfold allT at hk ⊢
  split at hk
  · rename_i P0 vx1 ve1 va1 en1 vl1
    split at hk
    · rename_i P1 len cap hg0
      try simp only [hg0]
      split at hk
      · rename_i we1 wa1 wn1 wl1 cap2 hg1
        try simp only [hg1]
        obtain ⟨hb, y0, z0, y1, z1, h1, h2⟩ := cond_false_elim hk
        rw [hb]
        exact ⟨y0, z0, y1, z1, h1, fun o => hkk _ _ _ (h2 o)⟩
      · exact hk.elim
    · exact hk.elim
  · exact hk.elim
theorem all_ok : MOK Try.prog 63 allT := by
  refine ⟨?_, all_mono⟩
  intro ms n hB K hk
  unfold allT at hk
  split at hk
  · rename_i P0 vx1 ve1 va1 en1 vl1
    split at hk
    · rename_i P1 len cap hg0
      split at hk
      · rename_i we1 wa1 wn1 wl1 cap2 hg1
        obtain ⟨hb, l, he1, b, hl1, h, hk2⟩ := cond_false_elim hk
        clear hk
        simp only [Bool.and_eq_true] at hb
        obtain ⟨⟨hc0, hc1⟩, hnd⟩ := hb
        have hs0 := Nat.eq_of_beq_eq_true hc0
        subst hs0
        have hs1 := Nat.eq_of_beq_eq_true hc1
        subst hs1
        refine SCall.seen ?_ (.cons (.refl _) (.cons (.view he1) .nil))
        exact (all_spec _ h.1 h.2.1 h.2.2.1 h.2.2.2).use (fun j => match j with | 0 => P0 | 1 => P1 | _ => 0) rfl rfl ⟨by show (match get hB P0 with | some b0 => Blk.imp _ _ _ b0 | none => False); rw [hg0]; exact ⟨rfl, rfl⟩, rfl, ⟨by show (match get hB P1 with | some b0 => Blk.imp _ _ _ b0 | none => False); rw [hg1]; exact ⟨rfl, rfl, hl1.symm, fun y _ => Enc.pures _ y⟩, rfl, trivial⟩⟩ hnd (fun j hj => by cases j with
            | zero => exact ⟨_, rfl⟩
            | succ j => cases j with
             | zero => exact ⟨_, rfl⟩
             | succ j => omega) (fun o => hk2 o)
      · exact hk.elim
    · exact hk.elim
  · exact hk.elim


theorem t8 (x : Int) : List.take 8 (List.drop 0 (be8 x)) = be8 x := rfl
theorem inext2 {i : Nat} (h : i < 9223372036854775807) : IntKind.i64.wrap ((i : Int) + 1) = ((i + 1 : Nat) : Int) := by rw [wrap64 (by omega) (by omega)]; omega
structure FlT {α : Type} (f : α → List Int) (l : List α) where
  i : Nat
  cap : Nat
  hi : i ≤ l.length
  hc : ((l.take i).flatMap f).length ≤ cap
abbrev uV (x : Value) (l : List Int) : M := .one (.view x 1 (encInt .u64).enc l)
theorem uint_spec (x : Value) {b l : List Int} {len cap cap' : Nat} (h1 : len = b.length) (h2 : cap = cap') (h3 : b.length ≤ 65536) (h4 : b.length ≤ cap') (h5 : l.length * 8 ≤ 140737488351232) :
    SMem Try.prog 67 [.one (.ptr 0 0), uV x l] 2 [(0, .cells [.nslc 1 1 len cap, .v (.bool true), .v (.int .i64 0)]), (1, .row 1 (encInt .u8) b cap')]
    (fun c : CapT (putL b (l.flatMap be8)).length => ⟨3, int (putE b (l.flatMap be8)), [(0, .cells [.nslc 2 1 (putL b (l.flatMap be8)).length c.cap, .v (.bool true), .v (.int .i64 0)]), (2, .row 1 (encInt .u8) (putL b (l.flatMap be8)) c.cap)]⟩) := by
  subst h1
  subst h2
  refine SMem.inm [] SOK.nil [(62, eightT), (63, allT)] (MSOK.cons eight_ok (MSOK.cons all_ok MSOK.nil)) tok mixed [] IOK.nil false [(3, ⟨FlT be8 l, fun p => ⟨3, [(0, .one (.ptr 0 0)), (1, uV x l), (4, int 0), (5, .one (.nslc 2 1 ((l.take p.i).flatMap be8).length p.cap)), (8, uV x l), (9, int l.length), (10, int p.i)], [(0, .cells [.nslc 1 1 b.length cap, .v (.bool true), .v (.int .i64 0)]), (1, .row 1 (encInt .u8) b cap), (2, .row 1 (encInt .u8) ((l.take p.i).flatMap be8) p.cap)]⟩, fun p => l.length - p.i, fun _ _ => True⟩)] [] Try.call67 Try.func67 rfl (by rfl) ?_
  refine Eq.mp (α := (∃ i0 : FlT be8 l, (And (And True (And (And (And ((true : Bool) = true) ((0 : Nat) = (0 : Nat))) (And (SV.view x (1 : Nat) (Enc.enc (encInt IntKind.u64)) l = SV.view x (1 : Nat) (Enc.enc (encInt IntKind.u64)) l) (And ((0 : Int) = (0 : Int)) (And (And ((true : Bool) = true) (And (List.length (List.flatMap be8 (List.take (FlT.i i0) l)) = (0 : Nat)) (FlT.cap i0 = (0 : Nat)))) (And (SV.view x (1 : Nat) (Enc.enc (encInt IntKind.u64)) l = SV.view x (1 : Nat) (Enc.enc (encInt IntKind.u64)) l) (And ((↑(List.length l) : Int) = (↑(List.length l) : Int)) (And ((↑(FlT.i i0) : Int) = (0 : Int)) True))))))) (And (And (And (And ((true : Bool) = true) (And (List.length b = List.length b) (cap = cap))) (And ((true : Bool) = true) (And ((0 : Int) = (0 : Int)) True))) (And ((true : Bool) = true) (And (And ((true : Bool) = true) (And (cap = cap) (And (List.map (Enc.enc (encInt IntKind.u8)) b = List.map (Enc.enc (encInt IntKind.u8)) b) (∀ x_1 : Int, (∀ a : x_1 ∈ b, (∀ s : SV, (∀ a_1 : s ∈ Enc.enc (encInt IntKind.u8) x_1, ((SV.isPure s : Bool) = true)))))))) (And ((true : Bool) = true) (And (And ((true : Bool) = true) (And (FlT.cap i0 = (0 : Nat)) (And (List.map (Enc.enc (encInt IntKind.u8)) (List.flatMap be8 (List.take (FlT.i i0) l)) = List.map (Enc.enc (encInt IntKind.u8)) []) (∀ x_1 : Int, (∀ a : x_1 ∈ List.flatMap be8 (List.take (FlT.i i0) l), (∀ s : SV, (∀ a_1 : s ∈ Enc.enc (encInt IntKind.u8) x_1, ((SV.isPure s : Bool) = true)))))))) (And ((true : Bool) = true) True)))))) ((true : Bool) = true)))) (∀ i : FlT be8 l, (∀ a : True, (@Bool.rec (fun _ => Prop) (And (List.length (List.flatMap be8 (List.take (FlT.i i) l)) ≤ List.length (List.flatMap be8 (List.take (FlT.i i) l))) (And (List.length (List.flatMap be8 (List.take (FlT.i i) l)) ≤ FlT.cap i) (And (FlT.cap i = FlT.cap i) (And (∀ y : Int, ((true : Bool) = true)) (∀ x_1 : Value, (∃ l_1 : List Int, (And (List.map (Enc.enc (encInt IntKind.u8)) (List.take (List.length (List.flatMap be8 (List.take (FlT.i i) l))) (List.flatMap be8 (List.take (FlT.i i) l))) = List.map eB l_1) (∃ b_1 : List Int, (And (List.map (Enc.enc (encInt IntKind.u8)) b = List.map (Enc.enc (encInt IntKind.u8)) b_1) (And (And (List.length b = List.length b_1) (And (cap = cap) (And (List.length b_1 ≤ (65536 : Nat)) (List.length b_1 ≤ cap)))) (∀ c : CapT (List.length (putL b_1 l_1)), (∃ o : CapT (List.length (putL b (List.flatMap be8 l))), (And (And (putE b (List.flatMap be8 l) = putE b_1 l_1) True) (And (And (And (And ((true : Bool) = true) (And (List.length (putL b (List.flatMap be8 l)) = List.length (putL b_1 l_1)) (CapT.cap o = CapT.cap c))) (And ((true : Bool) = true) (And ((0 : Int) = (0 : Int)) True))) (And ((true : Bool) = true) (And (And ((true : Bool) = true) (And (CapT.cap o = CapT.cap c) (And (List.map (Enc.enc (encInt IntKind.u8)) (putL b (List.flatMap be8 l)) = List.map (Enc.enc (encInt IntKind.u8)) (putL b_1 l_1)) (∀ x_2 : Int, (∀ a_1 : x_2 ∈ putL b (List.flatMap be8 l), (∀ s : SV, (∀ a_2 : s ∈ Enc.enc (encInt IntKind.u8) x_2, ((SV.isPure s : Bool) = true)))))))) (And ((true : Bool) = true) True)))) ((true : Bool) = true))))))))))))))) (And ((0 : Int) ≤ (↑(FlT.i i) : Int)) (∃ hk : Int.toNat (↑(FlT.i i) : Int) < List.length l, (And True (∀ o : Unit, (And (List.length (List.flatMap be8 (List.take (FlT.i i) l)) = List.length (List.flatMap be8 (List.take (FlT.i i) l))) (And (FlT.cap i = FlT.cap i) (And ((0 : Nat) + (8 : Nat) ≤ (8 : Nat)) (And ((List.length (List.flatMap be8 (List.take (FlT.i i) l)) + (8 : Nat)) * (1 : Nat) ≤ (150000000000000 : Nat)) (∀ cap2 : Nat, (∀ a_1 : List.length (List.flatMap be8 (List.take (FlT.i i) l)) + (8 : Nat) ≤ cap2, (∃ i' : FlT be8 l, (And (And (List.length l - FlT.i i' < List.length l - FlT.i i) True) (And (And (And ((true : Bool) = true) ((0 : Nat) = (0 : Nat))) (And (SV.view x (1 : Nat) (Enc.enc (encInt IntKind.u64)) l = SV.view x (1 : Nat) (Enc.enc (encInt IntKind.u64)) l) (And ((0 : Int) = (0 : Int)) (And (And ((true : Bool) = true) (And (List.length (List.flatMap be8 (List.take (FlT.i i') l)) = List.length (List.flatMap be8 (List.take (FlT.i i) l) ++ castL (encInt IntKind.u8) (encInt IntKind.u8) (List.take (8 : Nat) (List.drop (0 : Nat) (be8 l[Int.toNat (↑(FlT.i i) : Int)]))))) (FlT.cap i' = cap2))) (And (SV.view x (1 : Nat) (Enc.enc (encInt IntKind.u64)) l = SV.view x (1 : Nat) (Enc.enc (encInt IntKind.u64)) l) (And ((↑(List.length l) : Int) = (↑(List.length l) : Int)) (And ((↑(FlT.i i') : Int) = IntKind.wrap IntKind.i64 ((↑(FlT.i i) : Int) + (1 : Int))) True))))))) (And (And (And (And ((true : Bool) = true) (And (List.length b = List.length b) (cap = cap))) (And ((true : Bool) = true) (And ((0 : Int) = (0 : Int)) True))) (And ((true : Bool) = true) (And (And ((true : Bool) = true) (And (cap = cap) (And (List.map (Enc.enc (encInt IntKind.u8)) b = List.map (Enc.enc (encInt IntKind.u8)) b) (∀ x_1 : Int, (∀ a_2 : x_1 ∈ b, (∀ s : SV, (∀ a_3 : s ∈ Enc.enc (encInt IntKind.u8) x_1, ((SV.isPure s : Bool) = true)))))))) (And ((true : Bool) = true) (And (And ((true : Bool) = true) (And (FlT.cap i' = cap2) (And (List.map (Enc.enc (encInt IntKind.u8)) (List.flatMap be8 (List.take (FlT.i i') l)) = List.map (Enc.enc (encInt IntKind.u8)) (List.flatMap be8 (List.take (FlT.i i) l) ++ castL (encInt IntKind.u8) (encInt IntKind.u8) (List.take (8 : Nat) (List.drop (0 : Nat) (be8 l[Int.toNat (↑(FlT.i i) : Int)]))))) (∀ x_1 : Int, (∀ a_2 : x_1 ∈ List.flatMap be8 (List.take (FlT.i i') l), (∀ s : SV, (∀ a_3 : s ∈ Enc.enc (encInt IntKind.u8) x_1, ((SV.isPure s : Bool) = true)))))))) (And ((true : Bool) = true) True)))))) ((true : Bool) = true))))))))))))))) (decide ((↑(FlT.i i) : Int) < (↑(List.length l) : Int))))))))) (by kernel_rfl) ?_
  refine ⟨⟨0, 0, Nat.zero_le _, Nat.le_refl _⟩, ?_, ?_⟩
  ·
    repeat' first | exact encB_pure _ | exact trivial | refine And.intro ?_ ?_ | with_reducible refine bif_dt (by assumption) ?_ | with_reducible refine bif_df (by assumption) ?_ | with_reducible refine bif_dec (fun _ => ?_) (fun _ => ?_) | with_reducible refine bif_not ?_ | with_reducible refine bif_and ?_ | with_reducible refine bif_or ?_ | with_reducible refine bif_t (by assumption) ?_ | with_reducible refine bif_f (by assumption) ?_ | with_reducible refine bif_t (beq_self_eq_true _) ?_ | with_reducible refine bif_b (fun _ => ?_) (fun _ => ?_) | with_reducible refine ⟨_, Eq.refl (List.map _ _), ?_⟩ | (with_reducible refine Exists.intro (by omega) ?_) | rfl | (intro h0; omega) | omega
  rintro ⟨i, cap1, hi, hc⟩ -
  dsimp only
  have hl8 : ∀ i, ((l.take i).flatMap be8).length = 8 * (l.take i).length := fun i => flat_mul fun _ _ => rfl
  have hm := hl8 i
  rw [List.length_take, Nat.min_eq_left hi] at hm
  refine bif_dec (fun h => ?_) (fun h => ?_)
  · have hi' : i < l.length := by omega
    simp only [Int.toNat_natCast, t8, castB, inext2 (show i < 9223372036854775807 by omega), flat_take be8 l hi']
    repeat (with_reducible refine And.intro (by first | exact trivial | omega | decide) ?_)
    refine ⟨hi', trivial, fun _ => ?_⟩
    repeat (with_reducible refine And.intro (by first | exact trivial | omega | decide) ?_)
    intro cap2 hc2
    have hm2 : ((l.take (i + 1)).flatMap be8).length = ((l.take i).flatMap be8).length + 8 := by rw [← flat_take be8 l hi', List.length_append]; rfl
    refine ⟨⟨i + 1, cap2, hi', by omega⟩, ⟨show l.length - (i + 1) < l.length - i by omega, trivial⟩, ?_⟩
    repeat' first | exact encB_pure _ | exact trivial | refine And.intro ?_ ?_ | with_reducible refine bif_dt (by assumption) ?_ | with_reducible refine bif_df (by assumption) ?_ | with_reducible refine bif_dec (fun _ => ?_) (fun _ => ?_) | with_reducible refine bif_not ?_ | with_reducible refine bif_and ?_ | with_reducible refine bif_or ?_ | with_reducible refine bif_t (by assumption) ?_ | with_reducible refine bif_f (by assumption) ?_ | with_reducible refine bif_t (beq_self_eq_true _) ?_ | with_reducible refine bif_b (fun _ => ?_) (fun _ => ?_) | with_reducible refine ⟨_, Eq.refl (List.map _ _), ?_⟩ | (with_reducible refine Exists.intro (by omega) ?_) | rfl | (intro h0; omega) | omega
  · have hil : i = l.length := by omega
    subst hil
    rw [flat_all be8 l (Nat.le_refl _)] at hc ⊢
    repeat (with_reducible refine And.intro (by first | exact trivial | omega | decide | exact fun _ => rfl) ?_)
    intro x1
    refine ⟨_, List.take_length ▸ rfl, b, rfl, ?_, fun c => ⟨c, ?_⟩⟩
    · exact ⟨rfl, rfl, h3, h4⟩
    repeat' first | exact encB_pure _ | exact trivial | refine And.intro ?_ ?_ | with_reducible refine bif_dt (by assumption) ?_ | with_reducible refine bif_df (by assumption) ?_ | with_reducible refine bif_dec (fun _ => ?_) (fun _ => ?_) | with_reducible refine bif_not ?_ | with_reducible refine bif_and ?_ | with_reducible refine bif_or ?_ | with_reducible refine bif_t (by assumption) ?_ | with_reducible refine bif_f (by assumption) ?_ | with_reducible refine bif_t (beq_self_eq_true _) ?_ | with_reducible refine bif_b (fun _ => ?_) (fun _ => ?_) | with_reducible refine ⟨_, Eq.refl (List.map _ _), ?_⟩ | (with_reducible refine Exists.intro (by omega) ?_) | rfl | (intro h0; omega) | omega
end Go.Proofs.Ytjdlefkpoggocaa
