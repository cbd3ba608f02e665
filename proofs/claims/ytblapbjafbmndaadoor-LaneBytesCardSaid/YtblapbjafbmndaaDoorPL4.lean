/- The codec's reader. -/
import Derived.Test.YtblapbjafbmndaaDoorPL3
import Derived.Test.YtblapbjafbmndaaDoorDD
import Derived.Test.YtblapbjafbmndaaDoorSx24
namespace Go.Proofs.YtblapbjafbmndaaDoor
open Go Go.Sx Go.Sha
set_option linter.unusedVariables false
set_option linter.unusedSimpArgs false
set_option maxRecDepth 100000
set_option maxHeartbeats 4000000

/-- A reader's cells. -/
abbrev rdC (y : Value) (s : RS) : List SV := [.view y 1 EB.enc s.l, .v (.bool true), .v (.int .i64 s.e)]
theorem clone_spec (x : Value) {b : List Int} (h : b.length ≤ 140737488351232) : SMem Tryd.prog 111 [byV x b] 0 [] (fun y : Value => ⟨0, byV y b, []⟩) := by
  refine SMem.inf 1 EB [] SOK.nil [] MSOK.nil tok mixed [] IOK.nil true [] [] Tryd.call111 Tryd.func111 rfl (by rfl) ?_
  refine Eq.mp (α := (@Bool.rec (fun _ => Prop) (And ((0 : Nat) = (0 : Nat)) (And ((0 : Nat) = (0 : Nat)) (∃ ys : List Int, (And (List.map (Enc.enc (encInt IntKind.u8)) ys = List.map (Enc.enc (encInt IntKind.u8)) b) (And (((0 : Nat) + List.length ys) * (1 : Nat) ≤ (150000000000000 : Nat)) (∀ cap2 : Nat, (∀ a : (0 : Nat) + List.length ys ≤ cap2, (And ((0 : Nat) + List.length ([] ++ ys) ≤ List.length ([] ++ ys)) (And (List.length ([] ++ ys) ≤ cap2) (And (∀ y : Int, ((true : Bool) = true)) (∀ x_1 : Value, (∃ o : Value, (And (And (SV.view o (1 : Nat) (Enc.enc (encInt IntKind.u8)) b = nilV (1 : Nat) EB (SV.view x_1 (1 : Nat) (Enc.enc (encInt IntKind.u8)) (List.take (List.length ([] ++ ys)) (List.drop (0 : Nat) ([] ++ ys))))) True) (And True ((true : Bool) = true))))))))))))))) (∃ o : Value, (And (And (SV.view o (1 : Nat) (Enc.enc (encInt IntKind.u8)) b = nilV (1 : Nat) EB (SV.v (Value.slice none (0 : Nat) (0 : Nat)))) True) (And True ((true : Bool) = true)))) (isNilV x && List.isEmpty b))) (by kernel_rfl) ?_
  refine bif_b (fun h1 => ?_) (fun h1 => ?_)
  · have hb : b = [] := by
      rw [Bool.and_eq_true] at h1
      exact List.isEmpty_iff.1 h1.2
    subst hb
    refine ⟨.slice none 0 0, ?_⟩
    repeat' first | exact trivial | refine And.intro ?_ ?_ | with_reducible refine bif_dt (by assumption) ?_ | with_reducible refine bif_df (by assumption) ?_ | with_reducible refine bif_dec (fun _ => ?_) (fun _ => ?_) | with_reducible refine bif_not ?_ | with_reducible refine bif_and ?_ | with_reducible refine bif_or ?_ | with_reducible refine bif_t (by assumption) ?_ | with_reducible refine bif_f (by assumption) ?_ | with_reducible refine bif_t (beq_self_eq_true _) ?_ | with_reducible refine bif_b (fun _ => ?_) (fun _ => ?_) | with_reducible refine ⟨_, Eq.refl (List.map _ _), ?_⟩ | (with_reducible refine Exists.intro (by omega) ?_) | rfl | (intro h0; omega) | omega
  · refine ⟨rfl, rfl, b, rfl, by omega, fun cap2 k2 => ⟨by omega, by simpa using k2, fun _ => rfl, fun x1 => ⟨x1, ?_⟩⟩⟩
    rw [List.nil_append, List.drop_zero, List.take_length]
    repeat' first | exact trivial | refine And.intro ?_ ?_ | with_reducible refine bif_dt (by assumption) ?_ | with_reducible refine bif_df (by assumption) ?_ | with_reducible refine bif_dec (fun _ => ?_) (fun _ => ?_) | with_reducible refine bif_not ?_ | with_reducible refine bif_and ?_ | with_reducible refine bif_or ?_ | with_reducible refine bif_t (by assumption) ?_ | with_reducible refine bif_f (by assumption) ?_ | with_reducible refine bif_t (beq_self_eq_true _) ?_ | with_reducible refine bif_b (fun _ => ?_) (fun _ => ?_) | with_reducible refine ⟨_, Eq.refl (List.map _ _), ?_⟩ | (with_reducible refine Exists.intro (by omega) ?_) | rfl | (intro h0; omega) | omega
theorem cloneS_spec {b : List Int} {len cap : Nat} (h : b.length ≤ 150000000000000) (h2 : len ≤ b.length) (h3 : len ≤ cap) (h4 : 0 < cap) : SMem Tryd.prog 111 [.one (.slc 0 1 0 len cap)] 1 [(0, .row 1 EB b cap)] (fun y : Value => ⟨1, byV y (b.take len), [(0, .row 1 EB b cap)]⟩) := by
  refine SMem.inf 1 EB [] SOK.nil [] MSOK.nil tok mixed [] IOK.nil true [] [] Tryd.call111 Tryd.func111 rfl (by rfl) ?_
  refine Eq.mp (α := (And ((0 : Nat) = (0 : Nat)) (And ((0 : Nat) = (0 : Nat)) (And ((0 : Nat) + len ≤ List.length b) (And (((0 : Nat) + List.length (castL EB (encInt IntKind.u8) (List.take len (List.drop (0 : Nat) b)))) * (1 : Nat) ≤ (150000000000000 : Nat)) (∀ cap2 : Nat, (∀ a : (0 : Nat) + List.length (castL EB (encInt IntKind.u8) (List.take len (List.drop (0 : Nat) b))) ≤ cap2, (And ((0 : Nat) + List.length ([] ++ castL EB (encInt IntKind.u8) (List.take len (List.drop (0 : Nat) b))) ≤ List.length ([] ++ castL EB (encInt IntKind.u8) (List.take len (List.drop (0 : Nat) b)))) (And (List.length ([] ++ castL EB (encInt IntKind.u8) (List.take len (List.drop (0 : Nat) b))) ≤ cap2) (And (∀ y : Int, ((true : Bool) = true)) (∀ x : Value, (∃ o : Value, (And (And (SV.view o (1 : Nat) (Enc.enc (encInt IntKind.u8)) (List.take len b) = nilV (1 : Nat) EB (SV.view x (1 : Nat) (Enc.enc (encInt IntKind.u8)) (List.take (List.length ([] ++ castL EB (encInt IntKind.u8) (List.take len (List.drop (0 : Nat) b)))) (List.drop (0 : Nat) ([] ++ castL EB (encInt IntKind.u8) (List.take len (List.drop (0 : Nat) b))))))) True) (And (And (And ((true : Bool) = true) (And (cap = cap) (And (List.map (Enc.enc EB) b = List.map (Enc.enc EB) b) (∀ x_1 : Int, (∀ a_1 : x_1 ∈ b, (∀ s : SV, (∀ a_2 : s ∈ Enc.enc EB x_1, ((SV.isPure s : Bool) = (true))))))))) (And ((true : Bool) = true) True)) ((true : Bool) = true))))))))))))))) (by kernel_rfl) ?_
  have hc : castL EB (encInt .u8) (List.take len b) = b.take len := castB _
  have hl : (b.take len).length = len := by rw [List.length_take]; omega
  have ht : List.take len (b.take len) = b.take len := by rw [List.take_take, Nat.min_self]
  simp only [List.nil_append, List.drop_zero]
  simp only [hc, hl, ht]
  repeat (with_reducible refine And.intro (by first | exact trivial | omega | decide) ?_)
  intro cap2 k2
  refine ⟨by omega, by omega, fun _ => trivial, fun x1 => ⟨x1, ?_⟩⟩
  repeat' first | exact encB_pure _ | exact trivial | refine And.intro ?_ ?_ | with_reducible refine bif_dt (by assumption) ?_ | with_reducible refine bif_df (by assumption) ?_ | with_reducible refine bif_dec (fun _ => ?_) (fun _ => ?_) | with_reducible refine bif_not ?_ | with_reducible refine bif_and ?_ | with_reducible refine bif_or ?_ | with_reducible refine bif_t (by assumption) ?_ | with_reducible refine bif_f (by assumption) ?_ | with_reducible refine bif_t (beq_self_eq_true _) ?_ | with_reducible refine bif_b (fun _ => ?_) (fun _ => ?_) | with_reducible refine ⟨_, Eq.refl (List.map _ _), ?_⟩ | (with_reducible refine Exists.intro (by omega) ?_) | rfl | (intro h0; omega) | omega
def cloneVT : MT := fun ms n h K => match ms with
  | [.one (.view vx0 ve0 en0 vl0)] => bif Nat.beq ve0 1 && noDup [] then ∃ b : List (Int), vl0.map en0 = b.map eB ∧ (b.length ≤ 140737488351232) ∧ (∀ y : Value, K (n + 0) (byV y b) ([] ++ delL [] h)) else False
  | _ => False
theorem cloneV_mono : MMono cloneVT := by
  intro ms n h K K' hkk hk
  unfold cloneVT at hk ⊢
  split at hk
  · rename_i vx0 ve0 va0 en0 vl0
    obtain ⟨hb, y0, z0, h1, h2⟩ := cond_false_elim hk
    rw [hb]
    exact ⟨y0, z0, h1, fun o => hkk _ _ _ (h2 o)⟩
  · exact hk.elim
theorem cloneV_ok : MOK Tryd.prog 111 cloneVT := by
  refine ⟨?_, cloneV_mono⟩
  intro ms n hB K hk
  unfold cloneVT at hk
  split at hk
  · rename_i vx0 ve0 va0 en0 vl0
    obtain ⟨hb, b, he0, h, hk2⟩ := cond_false_elim hk
    clear hk
    simp only [Bool.and_eq_true] at hb
    obtain ⟨hc0, hnd⟩ := hb
    have hs0 := Nat.eq_of_beq_eq_true hc0
    subst hs0
    refine SCall.seen ?_ (.cons (.view he0) .nil)
    exact (clone_spec _ h).use (fun _ => 0) rfl rfl trivial hnd (fun j hj => absurd hj (Nat.not_lt_zero j)) (fun o => hk2 o)
  · exact hk.elim

theorem cloneS_row {b : List Int} {len cap cp : Nat} (h : cap = cp ∧ b.length ≤ 150000000000000 ∧ len ≤ b.length ∧ len ≤ cap ∧ 0 < cap) : SMem Tryd.prog 111 [.one (.slc 0 1 0 len cap)] 1 [(0, .row 1 EB b cp)] (fun y : Value => ⟨1, byV y (b.take len), [(0, .row 1 EB b cp)]⟩) := by
  obtain ⟨rfl, h1, h2, h3, h4⟩ := h
  exact cloneS_spec h1 h2 h3 h4
def cloneST : MT := fun ms n h K => match ms with
  | [.one (.slc P0 1 0 len cap)] => (match get h P0 with
    | some (.row we0 wn0 wl0 cp) => bif Nat.beq we0 1 && noDup [P0] then ∃ b : List (Int), wl0.map wn0.enc = b.map (EB).enc ∧ ((cap = cp ∧ b.length ≤ 150000000000000 ∧ len ≤ b.length ∧ len ≤ cap ∧ 0 < cap)) ∧ (∀ y : Value, K (n + 0) (byV y (b.take len)) ([(P0, .row 1 EB b cp)] ++ delL [P0] h)) else False
    | _ => False)
  | _ => False
theorem cloneS_mono : MMono cloneST := by
  intro ms n h K K' hkk hk
  unfold cloneST at hk ⊢
  split at hk
  · rename_i P0 len cap
    split at hk
    · rename_i we0 wa0 wn0 wl0 cp hg0
      try simp only [hg0]
      obtain ⟨hb, y0, z0, h1, h2⟩ := cond_false_elim hk
      rw [hb]
      exact ⟨y0, z0, h1, fun o => hkk _ _ _ (h2 o)⟩
    · exact hk.elim
  · exact hk.elim
theorem cloneS_ok : MOK Tryd.prog 111 cloneST := by
  refine ⟨?_, cloneS_mono⟩
  intro ms n hB K hk
  unfold cloneST at hk
  split at hk
  · rename_i P0 len cap
    split at hk
    · rename_i we0 wa0 wn0 wl0 cp hg0
      obtain ⟨hb, b, hl0, h, hk2⟩ := cond_false_elim hk
      clear hk
      simp only [Bool.and_eq_true] at hb
      obtain ⟨hc0, hnd⟩ := hb
      have hs0 := Nat.eq_of_beq_eq_true hc0
      subst hs0
      refine SCall.seen ?_ (.cons (.refl _) .nil)
      exact (cloneS_row h).use (fun j => match j with | 0 => P0 | _ => 0) rfl rfl ⟨by show (match get hB P0 with | some b0 => Blk.imp _ _ _ b0 | none => False); rw [hg0]; exact ⟨rfl, rfl, hl0.symm, fun y _ => Enc.pures _ y⟩, rfl, trivial⟩ hnd (fun j hj => by cases j with
          | zero => exact ⟨_, rfl⟩
          | succ j => omega) (fun o => hk2 o)
    · exact hk.elim
  · exact hk.elim

def cloneT : MT := fun ms n h K => match ms with
  | [.one (.view x es en l)] => cloneVT [.one (.view x es en l)] n h K
  | ms => cloneST ms n h K
theorem clone_ok : MOK Tryd.prog 111 cloneT := by
  refine ⟨fun args n h K hk => ?_, fun args n h K K' hkk hk => ?_⟩
  · unfold cloneT at hk
    split at hk
    · exact cloneV_ok.ok _ _ _ _ hk
    · exact cloneS_ok.ok _ _ _ _ hk
  · unfold cloneT at hk ⊢
    split at hk
    · exact cloneV_ok.mono _ _ _ _ _ hkk hk
    · exact cloneS_ok.mono _ _ _ _ _ hkk hk
theorem take_spec (y0 : Value) (s : RS) (n : Nat) (hn : n ≤ 1000000) (hs : s.l.length ≤ 140737488351232) : SMem Tryd.prog 113 [.one (.ptr 0 0), int n] 1 [(0, .cells (rdC y0 s))] (fun o : Value × Value => ⟨1, byV o.1 (takeF n s).1, [(0, .cells (rdC o.2 (takeF n s).2))]⟩) := by
  refine SMem.inf 1 EB [] SOK.nil [] MSOK.nil tok mixed [] IOK.nil true [] [] Tryd.call113 Tryd.func113 rfl (by rfl) ?_
  refine Eq.mp (α := (@Bool.rec (fun _ => Prop) (@Bool.rec (fun _ => Prop) (And ((0 : Int) ≤ (↑n : Int)) (And ((0 : Int) ≤ (↑n : Int)) (And ((0 : Nat) ≤ Int.toNat (↑n : Int)) (And (Int.toNat (↑n : Int) ≤ List.length (RS.l s)) (And (Int.toNat (↑n : Int) ≤ Int.toNat (↑n : Int)) (And (Int.toNat (↑n : Int) ≤ List.length (RS.l s)) (And ((0 : Int) ≤ (↑n : Int)) (And (Int.toNat (↑n : Int) ≤ List.length (RS.l s)) (And (List.length (RS.l s) ≤ List.length (RS.l s)) (∃ o : Value × Value, (And (And (SV.view (Prod.fst o) (1 : Nat) (Enc.enc (encInt IntKind.u8)) (Prod.fst (takeF n s)) = nilV (1 : Nat) EB (SV.view (vslice y0 (1 : Nat) (0 : Nat) (Int.toNat (↑n : Int)) (Int.toNat (↑n : Int))) (1 : Nat) (Enc.enc EB) (List.take (Int.toNat (↑n : Int) - (0 : Nat)) (List.drop (0 : Nat) (RS.l s))))) True) (And (And (And (SV.view (Prod.snd o) (1 : Nat) (Enc.enc EB) (RS.l (Prod.snd (takeF n s))) = SV.view (vslice y0 (1 : Nat) (Int.toNat (↑n : Int)) (List.length (RS.l s)) (vcap y0)) (1 : Nat) (Enc.enc EB) (List.take (List.length (RS.l s) - Int.toNat (↑n : Int)) (List.drop (Int.toNat (↑n : Int)) (RS.l s)))) (And ((true : Bool) = true) (And (RS.e (Prod.snd (takeF n s)) = RS.e s) True))) (And ((true : Bool) = true) True)) ((true : Bool) = true))))))))))))) (And ((0 : Int) ≤ (↑n : Int)) (And ((0 : Int) ≤ (↑n : Int)) (And (Int.toNat (↑n : Int) ≤ Int.toNat (↑n : Int)) (And ((1 : Nat) * Int.toNat (↑n : Int) ≤ (281474976710656 : Nat)) (And (Int.toNat (↑n : Int) ≤ (9223372036854775807 : Nat)) (And ((0 : Nat) + Int.toNat (↑n : Int) ≤ List.length (List.replicate (Int.toNat (↑n : Int)) (Enc.of (encInt IntKind.u8) ((0 : Int), ())))) (And (Int.toNat (↑n : Int) ≤ Int.toNat (↑n : Int)) (And (∀ y : Int, ((true : Bool) = true)) (∀ x : Value, (∃ o : Value × Value, (And (And (SV.view (Prod.fst o) (1 : Nat) (Enc.enc (encInt IntKind.u8)) (Prod.fst (takeF n s)) = nilV (1 : Nat) EB (SV.view x (1 : Nat) (Enc.enc (encInt IntKind.u8)) (List.take (Int.toNat (↑n : Int)) (List.drop (0 : Nat) (List.replicate (Int.toNat (↑n : Int)) (Enc.of (encInt IntKind.u8) ((0 : Int), ()))))))) True) (And (And (And (SV.view (Prod.snd o) (1 : Nat) (Enc.enc EB) (RS.l (Prod.snd (takeF n s))) = SV.view y0 (1 : Nat) (Enc.enc EB) (RS.l s)) (And ((true : Bool) = true) (And (RS.e (Prod.snd (takeF n s)) = (20 : Int)) True))) (And ((true : Bool) = true) True)) ((true : Bool) = true))))))))))))) (decide ((↑(List.length (RS.l s)) : Int) < (↑n : Int)))) (And ((0 : Int) ≤ (↑n : Int)) (And ((0 : Int) ≤ (↑n : Int)) (And (Int.toNat (↑n : Int) ≤ Int.toNat (↑n : Int)) (And ((1 : Nat) * Int.toNat (↑n : Int) ≤ (281474976710656 : Nat)) (And (Int.toNat (↑n : Int) ≤ (9223372036854775807 : Nat)) (And ((0 : Nat) + Int.toNat (↑n : Int) ≤ List.length (List.replicate (Int.toNat (↑n : Int)) (Enc.of (encInt IntKind.u8) ((0 : Int), ())))) (And (Int.toNat (↑n : Int) ≤ Int.toNat (↑n : Int)) (And (∀ y : Int, ((true : Bool) = true)) (∀ x : Value, (∃ o : Value × Value, (And (And (SV.view (Prod.fst o) (1 : Nat) (Enc.enc (encInt IntKind.u8)) (Prod.fst (takeF n s)) = nilV (1 : Nat) EB (SV.view x (1 : Nat) (Enc.enc (encInt IntKind.u8)) (List.take (Int.toNat (↑n : Int)) (List.drop (0 : Nat) (List.replicate (Int.toNat (↑n : Int)) (Enc.of (encInt IntKind.u8) ((0 : Int), ()))))))) True) (And (And (And (SV.view (Prod.snd o) (1 : Nat) (Enc.enc EB) (RS.l (Prod.snd (takeF n s))) = SV.view y0 (1 : Nat) (Enc.enc EB) (RS.l s)) (And ((true : Bool) = true) (And (RS.e (Prod.snd (takeF n s)) = RS.e s) True))) (And ((true : Bool) = true) True)) ((true : Bool) = true))))))))))))) (RS.e s != (0 : Int)))) (by kernel_rfl) ?_
  have hv : ∀ x1 : Value, SV.view x1 1 (encInt .u8).enc (zsF n) = nilV 1 EB (SV.view x1 1 (encInt .u8).enc (List.take n (List.drop 0 (zsF n)))) := fun x1 => by
    have e : List.take n (zsF n) = zsF n := List.take_of_length_le (Nat.le_of_eq (List.length_replicate ..))
    rw [List.drop_zero, e]
    rfl
  simp only [Int.toNat_natCast]
  refine bif_b (fun h1 => ?_) (fun h1 => ?_)
  · have h1 : s.e ≠ 0 := by simpa using h1
    have e : takeF n s = (zsF n, s) := by unfold takeF; rw [if_pos h1]
    rw [e]
    repeat (with_reducible refine And.intro (by first | exact trivial | omega | decide | exact fun _ => rfl | exact fun _ => trivial | (rw [List.length_replicate]; omega)) ?_)
    intro x1
    refine ⟨(x1, y0), ?_⟩
    repeat' first | exact hv _ | exact trivial | refine And.intro ?_ ?_ | with_reducible refine bif_dt (by assumption) ?_ | with_reducible refine bif_df (by assumption) ?_ | with_reducible refine bif_dec (fun _ => ?_) (fun _ => ?_) | with_reducible refine bif_not ?_ | with_reducible refine bif_and ?_ | with_reducible refine bif_or ?_ | with_reducible refine bif_t (by assumption) ?_ | with_reducible refine bif_f (by assumption) ?_ | with_reducible refine bif_t (beq_self_eq_true _) ?_ | with_reducible refine bif_b (fun _ => ?_) (fun _ => ?_) | with_reducible refine ⟨_, Eq.refl (List.map _ _), ?_⟩ | (with_reducible refine Exists.intro (by omega) ?_) | rfl | (intro h0; omega) | omega
  have h1 : s.e = 0 := by simpa using h1
  refine bif_dec (fun h2 => ?_) (fun h2 => ?_)
  · have e : takeF n s = (zsF n, ⟨s.l, 20⟩) := by unfold takeF; rw [if_neg (by omega), if_pos (by omega)]
    rw [e]
    repeat (with_reducible refine And.intro (by first | exact trivial | omega | decide | exact fun _ => rfl | exact fun _ => trivial | (rw [List.length_replicate]; omega)) ?_)
    intro x1
    refine ⟨(x1, y0), ?_⟩
    repeat' first | exact hv _ | exact trivial | refine And.intro ?_ ?_ | with_reducible refine bif_dt (by assumption) ?_ | with_reducible refine bif_df (by assumption) ?_ | with_reducible refine bif_dec (fun _ => ?_) (fun _ => ?_) | with_reducible refine bif_not ?_ | with_reducible refine bif_and ?_ | with_reducible refine bif_or ?_ | with_reducible refine bif_t (by assumption) ?_ | with_reducible refine bif_f (by assumption) ?_ | with_reducible refine bif_t (beq_self_eq_true _) ?_ | with_reducible refine bif_b (fun _ => ?_) (fun _ => ?_) | with_reducible refine ⟨_, Eq.refl (List.map _ _), ?_⟩ | (with_reducible refine Exists.intro (by omega) ?_) | rfl | (intro h0; omega) | omega
  · have e : takeF n s = (s.l.take n, ⟨s.l.drop n, 0⟩) := by unfold takeF; rw [if_neg (by omega), if_neg (by omega)]
    have e2 : List.take (s.l.length - n) (s.l.drop n) = s.l.drop n := List.take_of_length_le (by rw [List.length_drop]; exact Nat.le_refl _)
    rw [e, e2, h1, Nat.sub_zero, List.drop_zero]
    repeat (with_reducible refine And.intro (by first | exact trivial | omega | decide) ?_)
    refine ⟨(vslice y0 1 0 n n, vslice y0 1 n s.l.length (vcap y0)), ?_⟩
    repeat' first | exact trivial | refine And.intro ?_ ?_ | with_reducible refine bif_dt (by assumption) ?_ | with_reducible refine bif_df (by assumption) ?_ | with_reducible refine bif_dec (fun _ => ?_) (fun _ => ?_) | with_reducible refine bif_not ?_ | with_reducible refine bif_and ?_ | with_reducible refine bif_or ?_ | with_reducible refine bif_t (by assumption) ?_ | with_reducible refine bif_f (by assumption) ?_ | with_reducible refine bif_t (beq_self_eq_true _) ?_ | with_reducible refine bif_b (fun _ => ?_) (fun _ => ?_) | with_reducible refine ⟨_, Eq.refl (List.map _ _), ?_⟩ | (with_reducible refine Exists.intro (by omega) ?_) | rfl | (intro h0; omega) | omega
theorem take_row {y0 : Value} {s0 : SV} {l : List Int} {e n_ : Int} (h : s0 = .view y0 1 EB.enc l ∧ 0 ≤ n_ ∧ n_ ≤ 1000000 ∧ l.length ≤ 140737488351232) : SMem Tryd.prog 113 [.one (.ptr 0 0), int n_] 1 [(0, .cells [s0, .v (.bool true), .v (.int .i64 e)])] (fun o : Value × Value => ⟨1, byV o.1 (takeF n_.toNat ⟨l, e⟩).1, [(0, .cells (rdC o.2 (takeF n_.toNat ⟨l, e⟩).2))]⟩) := by
  obtain ⟨rfl, h1, h2, h3⟩ := h
  have := take_spec y0 ⟨l, e⟩ n_.toNat (by omega) h3
  rwa [show ((n_.toNat : Nat) : Int) = n_ by omega] at this
def takeT : MT := fun ms n h K => match ms with
  | [.one (.ptr P0 0), .one (.v (.int .i64 n_))] => (match get h P0 with
    | some (.cells [s0, .v (.bool true), .v (.int .i64 e)]) => bif noDup [P0] then ∃ (y0 : Value) (l : List Int), ((s0 = .view y0 1 EB.enc l ∧ 0 ≤ n_ ∧ n_ ≤ 1000000 ∧ l.length ≤ 140737488351232)) ∧ (∀ o : Value × Value, K (n + 0) (byV o.1 (takeF n_.toNat ⟨l, e⟩).1) ([(P0, .cells (rdC o.2 (takeF n_.toNat ⟨l, e⟩).2))] ++ delL [P0] h)) else False
    | _ => False)
  | _ => False
theorem take_mono : MMono takeT := by
  intro ms n h K K' hkk hk
  unfold takeT at hk ⊢
  split at hk
  · rename_i P0 n_
    split at hk
    · rename_i s0 e hg0
      try simp only [hg0]
      obtain ⟨hb, q0, q1, h1, h2⟩ := cond_false_elim hk
      rw [hb]
      exact ⟨q0, q1, h1, fun o => hkk _ _ _ (h2 o)⟩
    · exact hk.elim
  · exact hk.elim
theorem take_ok : MOK Tryd.prog 113 takeT := by
  refine ⟨?_, take_mono⟩
  intro ms n hB K hk
  unfold takeT at hk
  split at hk
  · rename_i P0 n_
    split at hk
    · rename_i s0 e hg0
      obtain ⟨hb, y0, l, h, hk2⟩ := cond_false_elim hk
      clear hk
      obtain ⟨rfl, h⟩ := h
      have hnd := hb
      refine SCall.seen ?_ (.cons (.refl _) (.cons (.refl _) .nil))
      exact (take_row (y0 := y0) (e := e) ⟨rfl, h⟩).use (fun j => match j with | 0 => P0 | _ => 0) rfl rfl ⟨by show (match get hB P0 with | some b0 => Blk.imp _ _ _ b0 | none => False); rw [hg0]; exact ⟨rfl, rfl⟩, rfl, trivial⟩ hnd (fun j hj => by cases j with
          | zero => exact ⟨_, rfl⟩
          | succ j => omega) (fun o => hk2 o)
    · exact hk.elim
  · exact hk.elim

end Go.Proofs.YtblapbjafbmndaaDoor

namespace Go.Proofs.YtblapbjafbmndaaDoor
open Go Go.Sx Go.Sha
set_option linter.unusedVariables false
set_option linter.unusedSimpArgs false
set_option maxRecDepth 100000
set_option maxHeartbeats 4000000

structure UiT where
  i : Nat
  y1 : Value
  y2 : Value
  hi : i ≤ 8
abbrev uiS (s : RS) (p : UiT) : St := ⟨1, [(2, u64 (valF ((takeF 8 s).1.take p.i))), (6, byV p.y1 (takeF 8 s).1), (7, int (takeF 8 s).1.length), (8, int p.i)], [(0, .cells (rdC p.y2 (takeF 8 s).2))]⟩
theorem ruint_spec (y0 : Value) (s : RS) (hs : s.l.length ≤ 140737488351232) (hB : By s.l) : SMem Tryd.prog 121 [.one (.ptr 0 0)] 1 [(0, .cells (rdC y0 s))] (fun o : Value => ⟨1, u64 (uF s).1, [(0, .cells (rdC o (uF s).2))]⟩) := by
  refine SMem.inm [] SOK.nil [(113, takeT)] (MSOK.cons take_ok MSOK.nil) tok mixed [] IOK.nil false [(2, ⟨UiT, uiS s, fun p => 8 - p.i, fun _ _ => True⟩)] [] Tryd.call121 Tryd.func121 rfl (by rfl) ?_
  refine Eq.mp (α := (∃ y0_1 : Value, (∃ l : List Int, (And (And (SV.view y0 (1 : Nat) (Enc.enc EB) (RS.l s) = SV.view y0_1 (1 : Nat) (Enc.enc EB) l) (And ((0 : Int) ≤ (8 : Int)) (And ((8 : Int) ≤ (1000000 : Int)) (List.length l ≤ (140737488351232 : Nat))))) (∀ o : Value × Value, (∃ i0 : UiT, (And (And True (And (And (valF (List.take (UiT.i i0) (Prod.fst (takeF (8 : Nat) s))) = (0 : Int)) (And (SV.view (UiT.y1 i0) (1 : Nat) (Enc.enc (encInt IntKind.u8)) (Prod.fst (takeF (8 : Nat) s)) = SV.view (Prod.fst o) (1 : Nat) (Enc.enc (encInt IntKind.u8)) (Prod.fst (takeF (Int.toNat (8 : Int)) { l := l, e := RS.e s }))) (And ((↑(List.length (Prod.fst (takeF (8 : Nat) s))) : Int) = (↑(List.length (Prod.fst (takeF (Int.toNat (8 : Int)) { l := l, e := RS.e s }))) : Int)) (And ((↑(UiT.i i0) : Int) = (0 : Int)) True)))) (And (And (And (SV.view (UiT.y2 i0) (1 : Nat) (Enc.enc EB) (RS.l (Prod.snd (takeF (8 : Nat) s))) = SV.view (Prod.snd o) (1 : Nat) (Enc.enc EB) (RS.l (Prod.snd (takeF (Int.toNat (8 : Int)) { l := l, e := RS.e s })))) (And ((true : Bool) = true) (And (RS.e (Prod.snd (takeF (8 : Nat) s)) = RS.e (Prod.snd (takeF (Int.toNat (8 : Int)) { l := l, e := RS.e s }))) True))) (And ((true : Bool) = true) True)) ((true : Bool) = true)))) (∀ i : UiT, (∀ a : True, (@Bool.rec (fun _ => Prop) (∃ o_1 : Value, (And (And (valF (Prod.fst (takeF (8 : Nat) s)) = valF (List.take (UiT.i i) (Prod.fst (takeF (8 : Nat) s)))) True) (And (And (And (SV.view o_1 (1 : Nat) (Enc.enc EB) (RS.l (Prod.snd (takeF (8 : Nat) s))) = SV.view (UiT.y2 i) (1 : Nat) (Enc.enc EB) (RS.l (Prod.snd (takeF (8 : Nat) s)))) (And ((true : Bool) = true) (And (RS.e (Prod.snd (takeF (8 : Nat) s)) = RS.e (Prod.snd (takeF (8 : Nat) s))) True))) (And ((true : Bool) = true) True)) ((true : Bool) = true)))) (And ((0 : Int) ≤ (↑(UiT.i i) : Int)) (∃ hk : Int.toNat (↑(UiT.i i) : Int) < List.length (Prod.fst (takeF (8 : Nat) s)), (And ((0 : Int) ≤ (8 : Int)) (∃ i' : UiT, (And (And ((8 : Nat) - UiT.i i' < (8 : Nat) - UiT.i i) True) (And (And (valF (List.take (UiT.i i') (Prod.fst (takeF (8 : Nat) s))) = Sx.bits BinOp.or IntKind.u64 (shl IntKind.u64 (valF (List.take (UiT.i i) (Prod.fst (takeF (8 : Nat) s)))) (8 : Int)) (IntKind.wrap IntKind.u64 (Prod.fst (takeF (8 : Nat) s))[Int.toNat (↑(UiT.i i) : Int)])) (And (SV.view (UiT.y1 i') (1 : Nat) (Enc.enc (encInt IntKind.u8)) (Prod.fst (takeF (8 : Nat) s)) = SV.view (UiT.y1 i) (1 : Nat) (Enc.enc (encInt IntKind.u8)) (Prod.fst (takeF (8 : Nat) s))) (And ((↑(List.length (Prod.fst (takeF (8 : Nat) s))) : Int) = (↑(List.length (Prod.fst (takeF (8 : Nat) s))) : Int)) (And ((↑(UiT.i i') : Int) = IntKind.wrap IntKind.i64 ((↑(UiT.i i) : Int) + (1 : Int))) True)))) (And (And (And (SV.view (UiT.y2 i') (1 : Nat) (Enc.enc EB) (RS.l (Prod.snd (takeF (8 : Nat) s))) = SV.view (UiT.y2 i) (1 : Nat) (Enc.enc EB) (RS.l (Prod.snd (takeF (8 : Nat) s)))) (And ((true : Bool) = true) (And (RS.e (Prod.snd (takeF (8 : Nat) s)) = RS.e (Prod.snd (takeF (8 : Nat) s))) True))) (And ((true : Bool) = true) True)) ((true : Bool) = true)))))))) (decide ((↑(UiT.i i) : Int) < (↑(List.length (Prod.fst (takeF (8 : Nat) s))) : Int))))))))))))) (by kernel_rfl) ?_
  have hl := takeF_length 8 s
  obtain ⟨hb, hb2⟩ := takeF_By hB 8
  refine ⟨y0, s.l, ⟨rfl, by decide, by decide, hs⟩, fun o => ?_⟩
  show ∃ i0 : UiT, _
  have e0 : takeF (Int.toNat 8) ⟨s.l, s.e⟩ = takeF 8 s := rfl
  rw [e0]
  refine ⟨⟨0, o.1, o.2, by decide⟩, ?_, ?_⟩
  ·
    repeat' first | exact trivial | refine And.intro ?_ ?_ | with_reducible refine bif_dt (by assumption) ?_ | with_reducible refine bif_df (by assumption) ?_ | with_reducible refine bif_dec (fun _ => ?_) (fun _ => ?_) | with_reducible refine bif_not ?_ | with_reducible refine bif_and ?_ | with_reducible refine bif_or ?_ | with_reducible refine bif_t (by assumption) ?_ | with_reducible refine bif_f (by assumption) ?_ | with_reducible refine bif_t (beq_self_eq_true _) ?_ | with_reducible refine bif_b (fun _ => ?_) (fun _ => ?_) | with_reducible refine ⟨_, Eq.refl (List.map _ _), ?_⟩ | (with_reducible refine Exists.intro (by omega) ?_) | rfl | (intro h0; omega) | omega
  rintro ⟨i, y1, y2, hi⟩ -
  dsimp only
  refine bif_dec (fun h1 => ?_) (fun h1 => ?_)
  rotate_left
  · have hi8 : i = 8 := by omega
    subst hi8
    have e : List.take 8 (takeF 8 s).1 = (takeF 8 s).1 := List.take_of_length_le (by omega)
    rw [e]
    refine ⟨y2, ?_⟩
    repeat' first | exact trivial | refine And.intro ?_ ?_ | with_reducible refine bif_dt (by assumption) ?_ | with_reducible refine bif_df (by assumption) ?_ | with_reducible refine bif_dec (fun _ => ?_) (fun _ => ?_) | with_reducible refine bif_not ?_ | with_reducible refine bif_and ?_ | with_reducible refine bif_or ?_ | with_reducible refine bif_t (by assumption) ?_ | with_reducible refine bif_f (by assumption) ?_ | with_reducible refine bif_t (beq_self_eq_true _) ?_ | with_reducible refine bif_b (fun _ => ?_) (fun _ => ?_) | with_reducible refine ⟨_, Eq.refl (List.map _ _), ?_⟩ | (with_reducible refine Exists.intro (by omega) ?_) | rfl | (intro h0; omega) | omega
  have hi' : i < (takeF 8 s).1.length := by omega
  have hv := val_bound (hb.take i)
  have hvl : ((takeF 8 s).1.take i).length = i := by rw [List.length_take]; omega
  rw [hvl] at hv
  have hbi := hb _ (List.getElem_mem hi')
  have hp : (256 : Int) ^ i ≤ 256 ^ 7 := by
    have : ∀ k : Nat, k ≤ 7 → (256 : Int) ^ k ≤ 256 ^ 7 := by decide
    exact this i (by omega)
  have hu : IntKind.u64.wrap (takeF 8 s).1[i] = (takeF 8 s).1[i] := by rw [wrapU64]; omega
  have hw : IntKind.i64.wrap ((i : Int) + 1) = ((i + 1 : Nat) : Int) := inext (by omega)
  have hn : valF (List.take (i + 1) (takeF 8 s).1) = Sx.bits .or .u64 (shl .u64 (valF (List.take i (takeF 8 s).1)) 8) (IntKind.u64.wrap (takeF 8 s).1[i]) := by
    rw [hu, shl_or hv.1 (by
      have : (256 : Int) ^ 7 = 72057594037927936 := by decide
      omega) hbi, List.take_add_one, List.getElem?_eq_getElem hi']
    exact val_snoc _ _
  refine ⟨by omega, hi', by decide, ⟨i + 1, y1, y2, by omega⟩, ⟨show 8 - (i + 1) < 8 - i by omega, trivial⟩, ?_⟩
  rw [hw]
  repeat' first | exact hn | exact trivial | refine And.intro ?_ ?_ | with_reducible refine bif_dt (by assumption) ?_ | with_reducible refine bif_df (by assumption) ?_ | with_reducible refine bif_dec (fun _ => ?_) (fun _ => ?_) | with_reducible refine bif_not ?_ | with_reducible refine bif_and ?_ | with_reducible refine bif_or ?_ | with_reducible refine bif_t (by assumption) ?_ | with_reducible refine bif_f (by assumption) ?_ | with_reducible refine bif_t (beq_self_eq_true _) ?_ | with_reducible refine bif_b (fun _ => ?_) (fun _ => ?_) | with_reducible refine ⟨_, Eq.refl (List.map _ _), ?_⟩ | (with_reducible refine Exists.intro (by omega) ?_) | rfl | (intro h0; omega) | omega
def ruintRT : MT := fun ms n h K => match ms with
  | [.one (.ptr P0 0)] => (match get h P0 with
    | some (.cells [s0, .v (.bool true), .v (.int .i64 e)]) => bif noDup [P0] then ∃ (y0 : Value) (l : List Int), ((s0 = .view y0 1 EB.enc l ∧ l.length ≤ 140737488351232 ∧ By l)) ∧ (∀ o : Value, K (n + 0) (u64 (uF ⟨l, e⟩).1) ([(P0, .cells (rdC o (uF ⟨l, e⟩).2))] ++ delL [P0] h)) else False
    | _ => False)
  | _ => False
theorem ruintR_mono : MMono ruintRT := by
  intro ms n h K K' hkk hk
  unfold ruintRT at hk ⊢
  split at hk
  · rename_i P0
    split at hk
    · rename_i s0 e hg0
      try simp only [hg0]
      obtain ⟨hb, q0, q1, h1, h2⟩ := cond_false_elim hk
      rw [hb]
      exact ⟨q0, q1, h1, fun o => hkk _ _ _ (h2 o)⟩
    · exact hk.elim
  · exact hk.elim
theorem ruintR_ok : MOK Tryd.prog 121 ruintRT := by
  refine ⟨?_, ruintR_mono⟩
  intro ms n hB K hk
  unfold ruintRT at hk
  split at hk
  · rename_i P0
    split at hk
    · rename_i s0 e hg0
      obtain ⟨hb, y0, l, h, hk2⟩ := cond_false_elim hk
      clear hk
      obtain ⟨rfl, h⟩ := h
      have hnd := hb
      refine SCall.seen ?_ (.cons (.refl _) .nil)
      exact (ruint_spec y0 ⟨l, e⟩ h.1 h.2).use (fun j => match j with | 0 => P0 | _ => 0) rfl rfl ⟨by show (match get hB P0 with | some b0 => Blk.imp _ _ _ b0 | none => False); rw [hg0]; exact ⟨rfl, rfl⟩, rfl, trivial⟩ hnd (fun j hj => by cases j with
          | zero => exact ⟨_, rfl⟩
          | succ j => omega) (fun o => hk2 o)
    · exact hk.elim
  · exact hk.elim

theorem rhash_spec (y0 : Value) (s : RS) (hs : s.l.length ≤ 140737488351232) (hB : By s.l) : SMem Tryd.prog 77 [.one (.ptr 0 0)] 1 [(0, .cells (rdC y0 s))] (fun o : Value => ⟨1, h32 (hF s).1, [(0, .cells (rdC o (hF s).2))]⟩) := by
  refine SMem.inm [] SOK.nil [(113, takeT)] (MSOK.cons take_ok MSOK.nil) tok mixed [] IOK.nil false [] [] Tryd.call77 Tryd.func77 rfl (by rfl) ?_
  refine Eq.mp (α := (∃ y0_1 : Value, (∃ l : List Int, (And (And (SV.view y0 (1 : Nat) (Enc.enc EB) (RS.l s) = SV.view y0_1 (1 : Nat) (Enc.enc EB) l) (And ((0 : Int) ≤ (32 : Int)) (And ((32 : Int) ≤ (1000000 : Int)) (List.length l ≤ (140737488351232 : Nat))))) (∀ o : Value × Value, (And ((32 : Nat) ≤ List.length (Prod.fst (takeF (Int.toNat (32 : Int)) { l := l, e := RS.e s }))) (And (∀ x : Int, (∀ a : x ∈ Prod.fst (takeF (Int.toNat (32 : Int)) { l := l, e := RS.e s }), (∃ b : Int, (Enc.enc (encInt IntKind.u8) x = [SV.v (Value.int IntKind.u8 b)])))) (∃ o_1 : Value, (And (And (And (Prod.fst (hF s) = bytesOf (Enc.enc (encInt IntKind.u8)) (List.take (32 : Nat) (Prod.fst (takeF (Int.toNat (32 : Int)) { l := l, e := RS.e s })))) True) True) (And (And (And (SV.view o_1 (1 : Nat) (Enc.enc EB) (RS.l (Prod.snd (hF s))) = SV.view (Prod.snd o) (1 : Nat) (Enc.enc EB) (RS.l (Prod.snd (takeF (Int.toNat (32 : Int)) { l := l, e := RS.e s })))) (And ((true : Bool) = true) (And (RS.e (Prod.snd (hF s)) = RS.e (Prod.snd (takeF (Int.toNat (32 : Int)) { l := l, e := RS.e s }))) True))) (And ((true : Bool) = true) True)) ((true : Bool) = true))))))))))) (by kernel_rfl) ?_
  have hl := takeF_length 32 s
  refine ⟨y0, s.l, ⟨rfl, by decide, by decide, hs⟩, fun o => ?_⟩
  have e0 : takeF (Int.toNat 32) ⟨s.l, s.e⟩ = takeF 32 s := rfl
  have e1 : bytesOf (encInt .u8).enc (List.take 32 (takeF 32 s).1) = (takeF 32 s).1 := by
    rw [bytesB, List.take_of_length_le (by omega)]
  rw [e0, e1]
  refine ⟨by omega, isB _, o.2, ?_⟩
  repeat' first | exact trivial | refine And.intro ?_ ?_ | with_reducible refine bif_dt (by assumption) ?_ | with_reducible refine bif_df (by assumption) ?_ | with_reducible refine bif_dec (fun _ => ?_) (fun _ => ?_) | with_reducible refine bif_not ?_ | with_reducible refine bif_and ?_ | with_reducible refine bif_or ?_ | with_reducible refine bif_t (by assumption) ?_ | with_reducible refine bif_f (by assumption) ?_ | with_reducible refine bif_t (beq_self_eq_true _) ?_ | with_reducible refine bif_b (fun _ => ?_) (fun _ => ?_) | with_reducible refine ⟨_, Eq.refl (List.map _ _), ?_⟩ | (with_reducible refine Exists.intro (by omega) ?_) | rfl | (intro h0; omega) | omega
def rhashRT : MT := fun ms n h K => match ms with
  | [.one (.ptr P0 0)] => (match get h P0 with
    | some (.cells [s0, .v (.bool true), .v (.int .i64 e)]) => bif noDup [P0] then ∃ (y0 : Value) (l : List Int), ((s0 = .view y0 1 EB.enc l ∧ l.length ≤ 140737488351232 ∧ By l)) ∧ (∀ o : Value, K (n + 0) (h32 (hF ⟨l, e⟩).1) ([(P0, .cells (rdC o (hF ⟨l, e⟩).2))] ++ delL [P0] h)) else False
    | _ => False)
  | _ => False
theorem rhashR_mono : MMono rhashRT := by
  intro ms n h K K' hkk hk
  unfold rhashRT at hk ⊢
  split at hk
  · rename_i P0
    split at hk
    · rename_i s0 e hg0
      try simp only [hg0]
      obtain ⟨hb, q0, q1, h1, h2⟩ := cond_false_elim hk
      rw [hb]
      exact ⟨q0, q1, h1, fun o => hkk _ _ _ (h2 o)⟩
    · exact hk.elim
  · exact hk.elim
theorem rhashR_ok : MOK Tryd.prog 77 rhashRT := by
  refine ⟨?_, rhashR_mono⟩
  intro ms n hB K hk
  unfold rhashRT at hk
  split at hk
  · rename_i P0
    split at hk
    · rename_i s0 e hg0
      obtain ⟨hb, y0, l, h, hk2⟩ := cond_false_elim hk
      clear hk
      obtain ⟨rfl, h⟩ := h
      have hnd := hb
      refine SCall.seen ?_ (.cons (.refl _) .nil)
      exact (rhash_spec y0 ⟨l, e⟩ h.1 h.2).use (fun j => match j with | 0 => P0 | _ => 0) rfl rfl ⟨by show (match get hB P0 with | some b0 => Blk.imp _ _ _ b0 | none => False); rw [hg0]; exact ⟨rfl, rfl⟩, rfl, trivial⟩ hnd (fun j hj => by cases j with
          | zero => exact ⟨_, rfl⟩
          | succ j => omega) (fun o => hk2 o)
    · exact hk.elim
  · exact hk.elim

theorem rdone_spec (y0 : Value) (s : RS) : SMem Tryd.prog 78 [.one (.ptr 0 0)] 1 [(0, .cells (rdC y0 s))] (fun o : Unit => ⟨1, int (dF s), [(0, .cells (rdC y0 s))]⟩) := by
  refine SMem.inm [] SOK.nil [] MSOK.nil tok mixed [] IOK.nil false [] [] Tryd.call78 Tryd.func78 rfl (by rfl) ?_
  refine Eq.mp (α := (@Bool.rec (fun _ => Prop) (∃ o : Unit, (And (And (dF s = RS.e s) True) (And (And (And (SV.view y0 (1 : Nat) (Enc.enc EB) (RS.l s) = SV.view y0 (1 : Nat) (Enc.enc EB) (RS.l s)) (And ((true : Bool) = true) (And (RS.e s = RS.e s) True))) (And ((true : Bool) = true) True)) ((true : Bool) = true)))) (@Bool.rec (fun _ => Prop) (∃ o : Unit, (And (And (dF s = RS.e s) True) (And (And (And (SV.view y0 (1 : Nat) (Enc.enc EB) (RS.l s) = SV.view y0 (1 : Nat) (Enc.enc EB) (RS.l s)) (And ((true : Bool) = true) (And (RS.e s = RS.e s) True))) (And ((true : Bool) = true) True)) ((true : Bool) = true)))) (∃ o : Unit, (And (And (dF s = (21 : Int)) True) (And (And (And (SV.view y0 (1 : Nat) (Enc.enc EB) (RS.l s) = SV.view y0 (1 : Nat) (Enc.enc EB) (RS.l s)) (And ((true : Bool) = true) (And (RS.e s = RS.e s) True))) (And ((true : Bool) = true) True)) ((true : Bool) = true)))) (decide ((0 : Int) < (↑(List.length (RS.l s)) : Int)))) (RS.e s == (0 : Int)))) (by kernel_rfl) ?_
  unfold dF
  cases he : (s.e == 0) with
  | false =>
    have he : s.e ≠ 0 := fun e => by rw [e] at he; cases he
    rw [if_neg (fun h => he h.1)]
    refine ⟨(), ?_⟩
    repeat' first | exact trivial | refine And.intro ?_ ?_ | with_reducible refine bif_dt (by assumption) ?_ | with_reducible refine bif_df (by assumption) ?_ | with_reducible refine bif_dec (fun _ => ?_) (fun _ => ?_) | with_reducible refine bif_not ?_ | with_reducible refine bif_and ?_ | with_reducible refine bif_or ?_ | with_reducible refine bif_t (by assumption) ?_ | with_reducible refine bif_f (by assumption) ?_ | with_reducible refine bif_t (beq_self_eq_true _) ?_ | with_reducible refine bif_b (fun _ => ?_) (fun _ => ?_) | with_reducible refine ⟨_, Eq.refl (List.map _ _), ?_⟩ | (with_reducible refine Exists.intro (by omega) ?_) | rfl | (intro h0; omega) | omega
  | true =>
    have he : s.e = 0 := eq_of_beq he
    refine bif_dec (fun h1 => ?_) (fun h1 => ?_)
    · rw [if_pos ⟨he, by omega⟩]
      refine ⟨(), ?_⟩
      repeat' first | exact trivial | refine And.intro ?_ ?_ | with_reducible refine bif_dt (by assumption) ?_ | with_reducible refine bif_df (by assumption) ?_ | with_reducible refine bif_dec (fun _ => ?_) (fun _ => ?_) | with_reducible refine bif_not ?_ | with_reducible refine bif_and ?_ | with_reducible refine bif_or ?_ | with_reducible refine bif_t (by assumption) ?_ | with_reducible refine bif_f (by assumption) ?_ | with_reducible refine bif_t (beq_self_eq_true _) ?_ | with_reducible refine bif_b (fun _ => ?_) (fun _ => ?_) | with_reducible refine ⟨_, Eq.refl (List.map _ _), ?_⟩ | (with_reducible refine Exists.intro (by omega) ?_) | rfl | (intro h0; omega) | omega
    · rw [if_neg (fun h => h1 (by have := h.2; omega))]
      refine ⟨(), ?_⟩
      repeat' first | exact trivial | refine And.intro ?_ ?_ | with_reducible refine bif_dt (by assumption) ?_ | with_reducible refine bif_df (by assumption) ?_ | with_reducible refine bif_dec (fun _ => ?_) (fun _ => ?_) | with_reducible refine bif_not ?_ | with_reducible refine bif_and ?_ | with_reducible refine bif_or ?_ | with_reducible refine bif_t (by assumption) ?_ | with_reducible refine bif_f (by assumption) ?_ | with_reducible refine bif_t (beq_self_eq_true _) ?_ | with_reducible refine bif_b (fun _ => ?_) (fun _ => ?_) | with_reducible refine ⟨_, Eq.refl (List.map _ _), ?_⟩ | (with_reducible refine Exists.intro (by omega) ?_) | rfl | (intro h0; omega) | omega
def rdoneRT : MT := fun ms n h K => match ms with
  | [.one (.ptr P0 0)] => (match get h P0 with
    | some (.cells [s0, .v (.bool true), .v (.int .i64 e)]) => bif noDup [P0] then ∃ (y0 : Value) (l : List Int), ((s0 = .view y0 1 EB.enc l ∧ True)) ∧ (∀ o : Unit, K (n + 0) (int (dF ⟨l, e⟩)) ([(P0, .cells (rdC y0 ⟨l, e⟩))] ++ delL [P0] h)) else False
    | _ => False)
  | _ => False
theorem rdoneR_mono : MMono rdoneRT := by
  intro ms n h K K' hkk hk
  unfold rdoneRT at hk ⊢
  split at hk
  · rename_i P0
    split at hk
    · rename_i s0 e hg0
      try simp only [hg0]
      obtain ⟨hb, q0, q1, h1, h2⟩ := cond_false_elim hk
      rw [hb]
      exact ⟨q0, q1, h1, fun o => hkk _ _ _ (h2 o)⟩
    · exact hk.elim
  · exact hk.elim
theorem rdoneR_ok : MOK Tryd.prog 78 rdoneRT := by
  refine ⟨?_, rdoneR_mono⟩
  intro ms n hB K hk
  unfold rdoneRT at hk
  split at hk
  · rename_i P0
    split at hk
    · rename_i s0 e hg0
      obtain ⟨hb, y0, l, h, hk2⟩ := cond_false_elim hk
      clear hk
      obtain ⟨rfl, h⟩ := h
      have hnd := hb
      refine SCall.seen ?_ (.cons (.refl _) .nil)
      exact (rdone_spec y0 ⟨l, e⟩).use (fun j => match j with | 0 => P0 | _ => 0) rfl rfl ⟨by show (match get hB P0 with | some b0 => Blk.imp _ _ _ b0 | none => False); rw [hg0]; exact ⟨rfl, rfl⟩, rfl, trivial⟩ hnd (fun j hj => by cases j with
          | zero => exact ⟨_, rfl⟩
          | succ j => omega) (fun o => hk2 o)
    · exact hk.elim
  · exact hk.elim

theorem rcount_spec (y0 : Value) (s : RS) (most : Int) (hm : 0 ≤ most ∧ most ≤ 1000000) (hs : s.l.length ≤ 140737488351232) (hB : By s.l) : SMem Tryd.prog 76 [.one (.ptr 0 0), int most] 1 [(0, .cells (rdC y0 s))] (fun o : Value => ⟨1, int (cF most s).1, [(0, .cells (rdC o (cF most s).2))]⟩) := by
  refine SMem.inm [] SOK.nil [(121, ruintRT)] (MSOK.cons ruintR_ok MSOK.nil) tok mixed [(112, ⟨Tryd.f112, true, [], []⟩)] (IOK.cons Tryd.func112 Tryd.call112 IOK.nil) true [] [] Tryd.call76 Tryd.func76 rfl (by rfl) ?_
  refine Eq.mp (α := (∃ y0_1 : Value, (∃ l : List Int, (And (And (SV.view y0 (1 : Nat) (Enc.enc EB) (RS.l s) = SV.view y0_1 (1 : Nat) (Enc.enc EB) l) (And (List.length l ≤ (140737488351232 : Nat)) (∀ x : Int, (∀ a : x ∈ l, (And ((0 : Int) ≤ x) (x < (256 : Int))))))) (∀ o : Value, (@Bool.rec (fun _ => Prop) (@Bool.rec (fun _ => Prop) (∃ o_1 : Value, (And (And (Prod.fst (cF most s) = IntKind.wrap IntKind.i64 (valF (Prod.fst (takeF (8 : Nat) { l := l, e := RS.e s })))) True) (And (And (And (SV.view o_1 (1 : Nat) (Enc.enc EB) (RS.l (Prod.snd (cF most s))) = SV.view o (1 : Nat) (Enc.enc EB) (RS.l (Prod.snd (takeF (8 : Nat) { l := l, e := RS.e s })))) (And ((true : Bool) = true) (And (RS.e (Prod.snd (cF most s)) = RS.e (Prod.snd (takeF (8 : Nat) { l := l, e := RS.e s }))) True))) (And ((true : Bool) = true) True)) ((true : Bool) = true)))) (∃ o_1 : Value, (And (And (Prod.fst (cF most s) = (0 : Int)) True) (And (And (And (SV.view o_1 (1 : Nat) (Enc.enc EB) (RS.l (Prod.snd (cF most s))) = SV.view y0 (1 : Nat) (Enc.enc EB) (RS.l s)) (And ((true : Bool) = true) (And (RS.e (Prod.snd (cF most s)) = RS.e (Prod.snd (takeF (8 : Nat) { l := l, e := RS.e s }))) True))) (And ((true : Bool) = true) True)) ((true : Bool) = true)))) (RS.e (Prod.snd (takeF (8 : Nat) { l := l, e := RS.e s })) != (0 : Int))) (@Bool.rec (fun _ => Prop) (@Bool.rec (fun _ => Prop) (@Bool.rec (fun _ => Prop) (∃ o_1 : Value, (And (And (Prod.fst (cF most s) = IntKind.wrap IntKind.i64 (valF (Prod.fst (takeF (8 : Nat) { l := l, e := RS.e s })))) True) (And (And (And (SV.view o_1 (1 : Nat) (Enc.enc EB) (RS.l (Prod.snd (cF most s))) = SV.view o (1 : Nat) (Enc.enc EB) (RS.l (Prod.snd (takeF (8 : Nat) { l := l, e := RS.e s })))) (And ((true : Bool) = true) (And (RS.e (Prod.snd (cF most s)) = RS.e (Prod.snd (takeF (8 : Nat) { l := l, e := RS.e s }))) True))) (And ((true : Bool) = true) True)) ((true : Bool) = true)))) (∃ o_1 : Value, (And (And (Prod.fst (cF most s) = (0 : Int)) True) (And (And (And (SV.view o_1 (1 : Nat) (Enc.enc EB) (RS.l (Prod.snd (cF most s))) = SV.view y0 (1 : Nat) (Enc.enc EB) (RS.l s)) (And ((true : Bool) = true) (And (RS.e (Prod.snd (cF most s)) = RS.e (Prod.snd (takeF (8 : Nat) { l := l, e := RS.e s }))) True))) (And ((true : Bool) = true) True)) ((true : Bool) = true)))) (RS.e (Prod.snd (takeF (8 : Nat) { l := l, e := RS.e s })) != (0 : Int))) (∃ o_1 : Value, (And (And (Prod.fst (cF most s) = (0 : Int)) True) (And (And (And (SV.view o_1 (1 : Nat) (Enc.enc EB) (RS.l (Prod.snd (cF most s))) = SV.view y0 (1 : Nat) (Enc.enc EB) (RS.l s)) (And ((true : Bool) = true) (And (RS.e (Prod.snd (cF most s)) = (21 : Int)) True))) (And ((true : Bool) = true) True)) ((true : Bool) = true)))) (decide (IntKind.wrap IntKind.u64 most < valF (Prod.fst (takeF (8 : Nat) { l := l, e := RS.e s }))))) (∃ o_1 : Value, (And (And (Prod.fst (cF most s) = (0 : Int)) True) (And (And (And (SV.view o_1 (1 : Nat) (Enc.enc EB) (RS.l (Prod.snd (cF most s))) = SV.view y0 (1 : Nat) (Enc.enc EB) (RS.l s)) (And ((true : Bool) = true) (And (RS.e (Prod.snd (cF most s)) = (21 : Int)) True))) (And ((true : Bool) = true) True)) ((true : Bool) = true)))) (decide (most < (0 : Int)))) (RS.e (Prod.snd (takeF (8 : Nat) { l := l, e := RS.e s })) == (0 : Int)))))))) (by kernel_rfl) ?_
  refine ⟨y0, s.l, ⟨rfl, hs, hB⟩, fun o => ?_⟩
  have e0 : takeF 8 ⟨s.l, s.e⟩ = takeF 8 s := rfl
  rw [e0]
  have hl := takeF_length 8 s
  have hv := val_bound (takeF_By hB 8).1
  rw [hl] at hv
  have hp : (256 : Int) ^ 8 = 18446744073709551616 := by decide
  rw [hp] at hv
  have hmu : IntKind.u64.wrap most = most := wrapU hm.1 (by omega)
  rw [hmu]
  have c0 : (takeF 8 s).2.e ≠ 0 → cF most s = (0, ⟨s.l, (takeF 8 s).2.e⟩) := fun h => by
    unfold cF
    rw [if_pos (show (uF s).2.e ≠ 0 from h)]
    rfl
  have c1 : (takeF 8 s).2.e = 0 → most < valF (takeF 8 s).1 → cF most s = (0, ⟨s.l, 21⟩) := fun h h2 => by
    unfold cF
    rw [if_neg (show ¬ (uF s).2.e ≠ 0 from fun h3 => h3 h), if_pos (show most < (uF s).1 from h2)]
  have c2 : (takeF 8 s).2.e = 0 → ¬ most < valF (takeF 8 s).1 → cF most s = (valF (takeF 8 s).1, (takeF 8 s).2) := fun h h2 => by
    unfold cF
    rw [if_neg (show ¬ (uF s).2.e ≠ 0 from fun h3 => h3 h), if_neg (show ¬ most < (uF s).1 from h2)]
    rfl
  have bneq : ∀ {x : Int}, (x == 0) = false → x ≠ 0 := fun {x} h e => by rw [e] at h; cases h
  refine bif_b (fun h1 => ?_) (fun h1 => ?_)
  · have h1 : (takeF 8 s).2.e = 0 := eq_of_beq h1
    refine bif_dec (fun h2 => absurd h2 (by omega)) (fun _ => ?_)
    refine bif_dec (fun h3 => ?_) (fun h3 => ?_)
    · rw [c1 h1 h3]
      refine ⟨y0, ?_⟩
      repeat' first | exact trivial | refine And.intro ?_ ?_ | with_reducible refine bif_dt (by assumption) ?_ | with_reducible refine bif_df (by assumption) ?_ | with_reducible refine bif_dec (fun _ => ?_) (fun _ => ?_) | with_reducible refine bif_not ?_ | with_reducible refine bif_and ?_ | with_reducible refine bif_or ?_ | with_reducible refine bif_t (by assumption) ?_ | with_reducible refine bif_f (by assumption) ?_ | with_reducible refine bif_t (beq_self_eq_true _) ?_ | with_reducible refine bif_b (fun _ => ?_) (fun _ => ?_) | with_reducible refine ⟨_, Eq.refl (List.map _ _), ?_⟩ | (with_reducible refine Exists.intro (by omega) ?_) | rfl | (intro h0; omega) | omega
    · rw [c2 h1 h3, h1]
      refine ⟨o, ?_⟩
      have hw : IntKind.i64.wrap (valF (takeF 8 s).1) = valF (takeF 8 s).1 := wrap64 (by omega) (by omega)
      rw [hw]
      repeat' first | exact h1 | exact trivial | refine And.intro ?_ ?_ | with_reducible refine bif_dt (by assumption) ?_ | with_reducible refine bif_df (by assumption) ?_ | with_reducible refine bif_dec (fun _ => ?_) (fun _ => ?_) | with_reducible refine bif_not ?_ | with_reducible refine bif_and ?_ | with_reducible refine bif_or ?_ | with_reducible refine bif_t (by assumption) ?_ | with_reducible refine bif_f (by assumption) ?_ | with_reducible refine bif_t (beq_self_eq_true _) ?_ | with_reducible refine bif_b (fun _ => ?_) (fun _ => ?_) | with_reducible refine ⟨_, Eq.refl (List.map _ _), ?_⟩ | (with_reducible refine Exists.intro (by omega) ?_) | rfl | (intro h0; omega) | omega
  · have h1 := bneq h1
    rw [c0 h1]
    refine bif_b (fun h2 => ?_) (fun h2 => ?_)
    · refine ⟨y0, ?_⟩
      repeat' first | exact trivial | refine And.intro ?_ ?_ | with_reducible refine bif_dt (by assumption) ?_ | with_reducible refine bif_df (by assumption) ?_ | with_reducible refine bif_dec (fun _ => ?_) (fun _ => ?_) | with_reducible refine bif_not ?_ | with_reducible refine bif_and ?_ | with_reducible refine bif_or ?_ | with_reducible refine bif_t (by assumption) ?_ | with_reducible refine bif_f (by assumption) ?_ | with_reducible refine bif_t (beq_self_eq_true _) ?_ | with_reducible refine bif_b (fun _ => ?_) (fun _ => ?_) | with_reducible refine ⟨_, Eq.refl (List.map _ _), ?_⟩ | (with_reducible refine Exists.intro (by omega) ?_) | rfl | (intro h0; omega) | omega
    · exact absurd (show (takeF 8 s).2.e = 0 by simpa using h2) h1
def rcountRT : MT := fun ms n h K => match ms with
  | [.one (.ptr P0 0), .one (.v (.int .i64 most))] => (match get h P0 with
    | some (.cells [s0, .v (.bool true), .v (.int .i64 e)]) => bif noDup [P0] then ∃ (y0 : Value) (l : List Int), ((s0 = .view y0 1 EB.enc l ∧ (0 ≤ most ∧ most ≤ 1000000) ∧ l.length ≤ 140737488351232 ∧ By l)) ∧ (∀ o : Value, K (n + 0) (int (cF most ⟨l, e⟩).1) ([(P0, .cells (rdC o (cF most ⟨l, e⟩).2))] ++ delL [P0] h)) else False
    | _ => False)
  | _ => False
theorem rcountR_mono : MMono rcountRT := by
  intro ms n h K K' hkk hk
  unfold rcountRT at hk ⊢
  split at hk
  · rename_i P0 most
    split at hk
    · rename_i s0 e hg0
      try simp only [hg0]
      obtain ⟨hb, q0, q1, h1, h2⟩ := cond_false_elim hk
      rw [hb]
      exact ⟨q0, q1, h1, fun o => hkk _ _ _ (h2 o)⟩
    · exact hk.elim
  · exact hk.elim
theorem rcountR_ok : MOK Tryd.prog 76 rcountRT := by
  refine ⟨?_, rcountR_mono⟩
  intro ms n hB K hk
  unfold rcountRT at hk
  split at hk
  · rename_i P0 most
    split at hk
    · rename_i s0 e hg0
      obtain ⟨hb, y0, l, h, hk2⟩ := cond_false_elim hk
      clear hk
      obtain ⟨rfl, h⟩ := h
      have hnd := hb
      refine SCall.seen ?_ (.cons (.refl _) (.cons (.refl _) .nil))
      exact (rcount_spec y0 ⟨l, e⟩ most h.1 h.2.1 h.2.2).use (fun j => match j with | 0 => P0 | _ => 0) rfl rfl ⟨by show (match get hB P0 with | some b0 => Blk.imp _ _ _ b0 | none => False); rw [hg0]; exact ⟨rfl, rfl⟩, rfl, trivial⟩ hnd (fun j hj => by cases j with
          | zero => exact ⟨_, rfl⟩
          | succ j => omega) (fun o => hk2 o)
    · exact hk.elim
  · exact hk.elim

theorem newR_spec (x : Value) {b : List Int} (h : b.length ≤ 140737488351232) : SMem Tryd.prog 75 [byV x b] 0 [] (fun y : Value => ⟨1, .one (.ptr 0 0), [(0, .cells (rdC y ⟨b, 0⟩))]⟩) := by
  refine SMem.inm [] SOK.nil [(2000111, noT), (111, cloneT)] (MSOK.cons noT_ok (MSOK.cons clone_ok MSOK.nil)) tok mixed [] IOK.nil true [] [] Tryd.call75 Tryd.func75 rfl (by rfl) ?_
  refine Eq.mp (α := (∃ b_1 : List Int, (And (List.map (Enc.enc (encInt IntKind.u8)) b = List.map eB b_1) (And (List.length b_1 ≤ (140737488351232 : Nat)) (∀ y : Value, (∃ o : Value, (And (And (And ((true : Bool) = true) ((0 : Nat) = (0 : Nat))) True) (And (And (And (SV.view o (1 : Nat) (Enc.enc EB) b = SV.view y (1 : Nat) (Enc.enc (encInt IntKind.u8)) b_1) (And ((true : Bool) = true) (And ((0 : Int) = (0 : Int)) True))) (And ((true : Bool) = true) True)) ((true : Bool) = true))))))))) (by kernel_rfl) ?_
  refine ⟨b, rfl, h, fun y => ⟨y, ?_⟩⟩
  repeat' first | exact trivial | refine And.intro ?_ ?_ | with_reducible refine bif_dt (by assumption) ?_ | with_reducible refine bif_df (by assumption) ?_ | with_reducible refine bif_dec (fun _ => ?_) (fun _ => ?_) | with_reducible refine bif_not ?_ | with_reducible refine bif_and ?_ | with_reducible refine bif_or ?_ | with_reducible refine bif_t (by assumption) ?_ | with_reducible refine bif_f (by assumption) ?_ | with_reducible refine bif_t (beq_self_eq_true _) ?_ | with_reducible refine bif_b (fun _ => ?_) (fun _ => ?_) | with_reducible refine ⟨_, Eq.refl (List.map _ _), ?_⟩ | (with_reducible refine Exists.intro (by omega) ?_) | rfl | (intro h0; omega) | omega
def newVT : MT := fun ms n h K => match ms with
  | [.one (.view vx0 ve0 en0 vl0)] => bif Nat.beq ve0 1 && noDup [] then ∃ b : List (Int), vl0.map en0 = b.map eB ∧ (b.length ≤ 140737488351232) ∧ (∀ y : Value, K (n + 1) (.one (.ptr n 0)) ([(n, .cells (rdC y ⟨b, 0⟩))] ++ delL [] h)) else False
  | _ => False
theorem newV_mono : MMono newVT := by
  intro ms n h K K' hkk hk
  unfold newVT at hk ⊢
  split at hk
  · rename_i vx0 ve0 va0 en0 vl0
    obtain ⟨hb, y0, z0, h1, h2⟩ := cond_false_elim hk
    rw [hb]
    exact ⟨y0, z0, h1, fun o => hkk _ _ _ (h2 o)⟩
  · exact hk.elim
theorem newV_ok : MOK Tryd.prog 75 newVT := by
  refine ⟨?_, newV_mono⟩
  intro ms n hB K hk
  unfold newVT at hk
  split at hk
  · rename_i vx0 ve0 va0 en0 vl0
    obtain ⟨hb, b, he0, h, hk2⟩ := cond_false_elim hk
    clear hk
    simp only [Bool.and_eq_true] at hb
    obtain ⟨hc0, hnd⟩ := hb
    have hs0 := Nat.eq_of_beq_eq_true hc0
    subst hs0
    refine SCall.seen ?_ (.cons (.view he0) .nil)
    exact (newR_spec _ h).use (fun _ => 0) rfl rfl trivial hnd (fun j hj => absurd hj (Nat.not_lt_zero j)) (fun o => hk2 o)
  · exact hk.elim

theorem newRS_spec {b : List Int} {len cap : Nat} (h : b.length ≤ 150000000000000) (h2 : len ≤ b.length) (h3 : len ≤ cap) (h4 : 0 < cap) : SMem Tryd.prog 75 [.one (.slc 0 1 0 len cap)] 1 [(0, .row 1 EB b cap)] (fun y : Value => ⟨2, .one (.ptr 1 0), [(0, .row 1 EB b cap), (1, .cells (rdC y ⟨b.take len, 0⟩))]⟩) := by
  refine SMem.inm [] SOK.nil [(2000111, noT), (111, cloneT)] (MSOK.cons noT_ok (MSOK.cons clone_ok MSOK.nil)) tok mixed [] IOK.nil true [] [] Tryd.call75 Tryd.func75 rfl (by rfl) ?_
  refine Eq.mp (α := (∃ b_1 : List Int, (And (List.map (Enc.enc EB) b = List.map (Enc.enc EB) b_1) (And (And (cap = cap) (And (List.length b_1 ≤ (150000000000000 : Nat)) (And (len ≤ List.length b_1) (And (len ≤ cap) ((0 : Nat) < cap))))) (∀ y : Value, (∃ o : Value, (And (And (And ((true : Bool) = true) ((0 : Nat) = (0 : Nat))) True) (And (And (And ((true : Bool) = true) (And (cap = cap) (And (List.map (Enc.enc EB) b = List.map (Enc.enc EB) b_1) (∀ x : Int, (∀ a : x ∈ b, (∀ s : SV, (∀ a_1 : s ∈ Enc.enc EB x, ((SV.isPure s : Bool) = (true))))))))) (And ((true : Bool) = true) (And (And (SV.view o (1 : Nat) (Enc.enc EB) (List.take len b) = SV.view y (1 : Nat) (Enc.enc (encInt IntKind.u8)) (List.take len b_1)) (And ((true : Bool) = true) (And ((0 : Int) = (0 : Int)) True))) (And ((true : Bool) = true) True)))) ((true : Bool) = true))))))))) (by kernel_rfl) ?_
  refine ⟨b, rfl, ⟨rfl, h, h2, h3, h4⟩, fun y => ⟨y, ?_⟩⟩
  repeat' first | exact encB_pure _ | exact trivial | refine And.intro ?_ ?_ | with_reducible refine bif_dt (by assumption) ?_ | with_reducible refine bif_df (by assumption) ?_ | with_reducible refine bif_dec (fun _ => ?_) (fun _ => ?_) | with_reducible refine bif_not ?_ | with_reducible refine bif_and ?_ | with_reducible refine bif_or ?_ | with_reducible refine bif_t (by assumption) ?_ | with_reducible refine bif_f (by assumption) ?_ | with_reducible refine bif_t (beq_self_eq_true _) ?_ | with_reducible refine bif_b (fun _ => ?_) (fun _ => ?_) | with_reducible refine ⟨_, Eq.refl (List.map _ _), ?_⟩ | (with_reducible refine Exists.intro (by omega) ?_) | rfl | (intro h0; omega) | omega
theorem newS_row {b : List Int} {len cap cp : Nat} (h : cap = cp ∧ b.length ≤ 150000000000000 ∧ len ≤ b.length ∧ len ≤ cap ∧ 0 < cap) : SMem Tryd.prog 75 [.one (.slc 0 1 0 len cap)] 1 [(0, .row 1 EB b cp)] (fun y : Value => ⟨2, .one (.ptr 1 0), [(0, .row 1 EB b cp), (1, .cells (rdC y ⟨b.take len, 0⟩))]⟩) := by
  obtain ⟨rfl, h1, h2, h3, h4⟩ := h
  exact newRS_spec h1 h2 h3 h4
def newST : MT := fun ms n h K => match ms with
  | [.one (.slc P0 1 0 len cap)] => (match get h P0 with
    | some (.row we0 wn0 wl0 cp) => bif Nat.beq we0 1 && noDup [P0] then ∃ b : List (Int), wl0.map wn0.enc = b.map (EB).enc ∧ ((cap = cp ∧ b.length ≤ 150000000000000 ∧ len ≤ b.length ∧ len ≤ cap ∧ 0 < cap)) ∧ (∀ y : Value, K (n + 1) (.one (.ptr n 0)) ([(P0, .row 1 EB b cp), (n, .cells (rdC y ⟨b.take len, 0⟩))] ++ delL [P0] h)) else False
    | _ => False)
  | _ => False
theorem newS_mono : MMono newST := by
  intro ms n h K K' hkk hk
  unfold newST at hk ⊢
  split at hk
  · rename_i P0 len cap
    split at hk
    · rename_i we0 wa0 wn0 wl0 cp hg0
      try simp only [hg0]
      obtain ⟨hb, y0, z0, h1, h2⟩ := cond_false_elim hk
      rw [hb]
      exact ⟨y0, z0, h1, fun o => hkk _ _ _ (h2 o)⟩
    · exact hk.elim
  · exact hk.elim
theorem newS_ok : MOK Tryd.prog 75 newST := by
  refine ⟨?_, newS_mono⟩
  intro ms n hB K hk
  unfold newST at hk
  split at hk
  · rename_i P0 len cap
    split at hk
    · rename_i we0 wa0 wn0 wl0 cp hg0
      obtain ⟨hb, b, hl0, h, hk2⟩ := cond_false_elim hk
      clear hk
      simp only [Bool.and_eq_true] at hb
      obtain ⟨hc0, hnd⟩ := hb
      have hs0 := Nat.eq_of_beq_eq_true hc0
      subst hs0
      refine SCall.seen ?_ (.cons (.refl _) .nil)
      exact (newS_row h).use (fun j => match j with | 0 => P0 | _ => 0) rfl rfl ⟨by show (match get hB P0 with | some b0 => Blk.imp _ _ _ b0 | none => False); rw [hg0]; exact ⟨rfl, rfl, hl0.symm, fun y _ => Enc.pures _ y⟩, rfl, trivial⟩ hnd (fun j hj => by cases j with
          | zero => exact ⟨_, rfl⟩
          | succ j => omega) (fun o => hk2 o)
    · exact hk.elim
  · exact hk.elim

def newRT : MT := fun ms n h K => match ms with
  | [.one (.view x es en l)] => newVT [.one (.view x es en l)] n h K
  | ms => newST ms n h K
theorem newR_ok : MOK Tryd.prog 75 newRT := by
  refine ⟨fun args n h K hk => ?_, fun args n h K K' hkk hk => ?_⟩
  · unfold newRT at hk
    split at hk
    · exact newV_ok.ok _ _ _ _ hk
    · exact newS_ok.ok _ _ _ _ hk
  · unfold newRT at hk ⊢
    split at hk
    · exact newV_ok.mono _ _ _ _ _ hkk hk
    · exact newS_ok.mono _ _ _ _ _ hkk hk
end Go.Proofs.YtblapbjafbmndaaDoor
