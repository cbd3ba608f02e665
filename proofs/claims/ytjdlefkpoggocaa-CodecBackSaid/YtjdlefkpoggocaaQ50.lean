/- The codec's reader, as long as there is enough. -/
import Derived.Test.YtjdlefkpoggocaaQ46
import Derived.Test.YtjdlefkpoggocaaWW
import Derived.Test.YtjdlefkpoggocaaSx24
namespace Go.Proofs.Ytjdlefkpoggocaa
open Go Go.Sx Go.Wide
set_option linter.unusedVariables false
set_option linter.unusedSimpArgs false
set_option maxRecDepth 100000
set_option maxHeartbeats 4000000

/-- A reader's cells. -/
abbrev rdC (y : Value) (l : List Int) : List SV := [.view y 1 EB.enc l, .v (.bool true), .v (.int .i64 0)]
theorem cclone_spec (x : Value) {b : List Int} (h : b.length ≤ 140737488351232) : SMem Try.prog 71 [byV x b] 0 [] (fun y : Value => ⟨0, byV y b, []⟩) := by
  refine SMem.inf 1 EB [] SOK.nil [] MSOK.nil tok mixed [] IOK.nil true [] [] Try.call71 Try.func71 rfl (by rfl) ?_
  refine Eq.mp (α := (@Bool.rec (fun _ => Prop) (And ((0 : Nat) = (0 : Nat)) (And ((0 : Nat) = (0 : Nat)) (∃ ys : List Int, (And (List.map (Enc.enc (encInt IntKind.u8)) ys = List.map (Enc.enc (encInt IntKind.u8)) b) (And (((0 : Nat) + List.length ys) * (1 : Nat) ≤ (150000000000000 : Nat)) (∀ cap2 : Nat, (∀ a : (0 : Nat) + List.length ys ≤ cap2, (And ((0 : Nat) + List.length ([] ++ ys) ≤ List.length ([] ++ ys)) (And (List.length ([] ++ ys) ≤ cap2) (And (∀ y : Int, ((true : Bool) = true)) (∀ x_1 : Value, (∃ o : Value, (And (And (SV.view o (1 : Nat) (Enc.enc (encInt IntKind.u8)) b = nilV (1 : Nat) EB (SV.view x_1 (1 : Nat) (Enc.enc (encInt IntKind.u8)) (List.take (List.length ([] ++ ys)) (List.drop (0 : Nat) ([] ++ ys))))) True) (And True ((true : Bool) = true))))))))))))))) (∃ o : Value, (And (And (SV.view o (1 : Nat) (Enc.enc (encInt IntKind.u8)) b = nilV (1 : Nat) EB (SV.v (Value.slice none (0 : Nat) (0 : Nat)))) True) (And True ((true : Bool) = true)))) (isNilV x && List.isEmpty b))) (by kernel_rfl) ?_
  refine bif_b (fun h1 => ?_) (fun h1 => ?_)
  · have hb : b = [] := by
      rw [Bool.and_eq_true] at h1
      exact List.isEmpty_iff.1 h1.2
    subst hb
    refine ⟨.slice none 0 0, ?_⟩
    repeat' first | exact trivial | refine And.intro ?_ ?_ | with_reducible refine bif_dt (by assumption) ?_ | with_reducible refine bif_df (by assumption) ?_ | with_reducible refine bif_dec (fun _ => ?_) (fun _ => ?_) | with_reducible refine bif_not ?_ | with_reducible refine bif_and ?_ | with_reducible refine bif_or ?_ | with_reducible refine bif_t (by assumption) ?_ | with_reducible refine bif_f (by assumption) ?_ | with_reducible refine bif_t (beq_self_eq_true _) ?_ | with_reducible refine bif_b (fun _ => ?_) (fun _ => ?_) | with_reducible refine ⟨_, Eq.refl (List.map _ _), ?_⟩ | (with_reducible refine Exists.intro (by omega) ?_) | rfl | (intro h0; omega) | omega
  · refine ⟨rfl, rfl, b, rfl, by omega, fun cap2 k2 => ⟨by omega, by simpa using k2, fun _ => rfl, fun x1 => ⟨x1, ?_⟩⟩⟩
    rw [List.nil_append, List.drop_zero, List.take_length]
    repeat' first | exact trivial | refine And.intro ?_ ?_ | with_reducible refine bif_dt (by assumption) ?_ | with_reducible refine bif_df (by assumption) ?_ | with_reducible refine bif_dec (fun _ => ?_) (fun _ => ?_) | with_reducible refine bif_not ?_ | with_reducible refine bif_and ?_ | with_reducible refine bif_or ?_ | with_reducible refine bif_t (by assumption) ?_ | with_reducible refine bif_f (by assumption) ?_ | with_reducible refine bif_t (beq_self_eq_true _) ?_ | with_reducible refine bif_b (fun _ => ?_) (fun _ => ?_) | with_reducible refine ⟨_, Eq.refl (List.map _ _), ?_⟩ | (with_reducible refine Exists.intro (by omega) ?_) | rfl | (intro h0; omega) | omega
def ccloneT : MT := fun ms n h K => match ms with
  | [.one (.view vx0 ve0 en0 vl0)] => bif Nat.beq ve0 1 && noDup [] then ∃ b : List (Int), vl0.map en0 = b.map eB ∧ (b.length ≤ 140737488351232) ∧ (∀ y : Value, K (n + 0) (byV y b) ([] ++ delL [] h)) else False
  | _ => False
theorem cclone_mono : MMono ccloneT := by
  intro ms n h K K' hkk hk
  unfold ccloneT at hk ⊢
  split at hk
  · rename_i vx0 ve0 va0 en0 vl0
    obtain ⟨hb, y0, z0, h1, h2⟩ := cond_false_elim hk
    rw [hb]
    exact ⟨y0, z0, h1, fun o => hkk _ _ _ (h2 o)⟩
  · exact hk.elim
theorem cclone_ok : MOK Try.prog 71 ccloneT := by
  refine ⟨?_, cclone_mono⟩
  intro ms n hB K hk
  unfold ccloneT at hk
  split at hk
  · rename_i vx0 ve0 va0 en0 vl0
    obtain ⟨hb, b, he0, h, hk2⟩ := cond_false_elim hk
    clear hk
    simp only [Bool.and_eq_true] at hb
    obtain ⟨hc0, hnd⟩ := hb
    have hs0 := Nat.eq_of_beq_eq_true hc0
    subst hs0
    refine SCall.seen ?_ (.cons (.view he0) .nil)
    exact (cclone_spec _ h).use (fun _ => 0) rfl rfl trivial hnd (fun j hj => absurd hj (Nat.not_lt_zero j)) (fun o => hk2 o)
  · exact hk.elim

theorem newR_spec (x : Value) {b : List Int} (h : b.length ≤ 140737488351232) : SMem Try.prog 45 [byV x b] 0 [] (fun y : Value => ⟨1, .one (.ptr 0 0), [(0, .cells (rdC y b))]⟩) := by
  refine SMem.inm [] SOK.nil [(71, ccloneT)] (MSOK.cons cclone_ok MSOK.nil) tok mixed [] IOK.nil true [] [] Try.call45 Try.func45 rfl (by rfl) ?_
  refine Eq.mp (α := (∃ b_1 : List Int, (And (List.map (Enc.enc (encInt IntKind.u8)) b = List.map eB b_1) (And (List.length b_1 ≤ (140737488351232 : Nat)) (∀ y : Value, (∃ o : Value, (And (And (And ((true : Bool) = true) ((0 : Nat) = (0 : Nat))) True) (And (And (And (SV.view o (1 : Nat) (Enc.enc EB) b = SV.view y (1 : Nat) (Enc.enc (encInt IntKind.u8)) b_1) (And ((true : Bool) = true) (And ((0 : Int) = (0 : Int)) True))) (And ((true : Bool) = true) True)) ((true : Bool) = true))))))))) (by kernel_rfl) ?_
  refine ⟨b, rfl, h, fun y => ⟨y, ?_⟩⟩
  repeat' first | exact trivial | refine And.intro ?_ ?_ | with_reducible refine bif_dt (by assumption) ?_ | with_reducible refine bif_df (by assumption) ?_ | with_reducible refine bif_dec (fun _ => ?_) (fun _ => ?_) | with_reducible refine bif_not ?_ | with_reducible refine bif_and ?_ | with_reducible refine bif_or ?_ | with_reducible refine bif_t (by assumption) ?_ | with_reducible refine bif_f (by assumption) ?_ | with_reducible refine bif_t (beq_self_eq_true _) ?_ | with_reducible refine bif_b (fun _ => ?_) (fun _ => ?_) | with_reducible refine ⟨_, Eq.refl (List.map _ _), ?_⟩ | (with_reducible refine Exists.intro (by omega) ?_) | rfl | (intro h0; omega) | omega
def newRT : MT := fun ms n h K => match ms with
  | [.one (.view vx0 ve0 en0 vl0)] => bif Nat.beq ve0 1 && noDup [] then ∃ b : List (Int), vl0.map en0 = b.map eB ∧ (b.length ≤ 140737488351232) ∧ (∀ y : Value, K (n + 1) (.one (.ptr n 0)) ([(n, .cells (rdC y b))] ++ delL [] h)) else False
  | _ => False
theorem newR_mono : MMono newRT := by
  intro ms n h K K' hkk hk
  unfold newRT at hk ⊢
  split at hk
  · rename_i vx0 ve0 va0 en0 vl0
    obtain ⟨hb, y0, z0, h1, h2⟩ := cond_false_elim hk
    rw [hb]
    exact ⟨y0, z0, h1, fun o => hkk _ _ _ (h2 o)⟩
  · exact hk.elim
theorem newR_ok : MOK Try.prog 45 newRT := by
  refine ⟨?_, newR_mono⟩
  intro ms n hB K hk
  unfold newRT at hk
  split at hk
  · rename_i vx0 ve0 va0 en0 vl0
    obtain ⟨hb, b, he0, h, hk2⟩ := cond_false_elim hk
    clear hk
    simp only [Bool.and_eq_true] at hb
    obtain ⟨hc0, hnd⟩ := hb
    have hs0 := Nat.eq_of_beq_eq_true hc0
    subst hs0
    refine SCall.seen ?_ (.cons (.view he0) .nil)
    exact (newR_spec _ h).use (fun _ => 0) rfl rfl trivial hnd (fun j hj => absurd hj (Nat.not_lt_zero j)) (fun o => hk2 o)
  · exact hk.elim

theorem take_spec (y0 : Value) (l : List Int) (n : Nat) (hn : n ≤ 1000000) (hl : n ≤ l.length) (hs : l.length ≤ 140737488351232) : SMem Try.prog 72 [.one (.ptr 0 0), int n] 1 [(0, .cells (rdC y0 l))] (fun o : Value × Value => ⟨1, byV o.1 (l.take n), [(0, .cells (rdC o.2 (l.drop n)))]⟩) := by
  refine SMem.inf 1 EB [] SOK.nil [] MSOK.nil tok mixed [] IOK.nil true [] [] Try.call72 Try.func72 rfl (by rfl) ?_
  refine Eq.mp (α := (@Bool.rec (fun _ => Prop) (And ((0 : Int) ≤ (↑n : Int)) (And ((0 : Int) ≤ (↑n : Int)) (And ((0 : Nat) ≤ Int.toNat (↑n : Int)) (And (Int.toNat (↑n : Int) ≤ List.length l) (And (Int.toNat (↑n : Int) ≤ Int.toNat (↑n : Int)) (And (Int.toNat (↑n : Int) ≤ List.length l) (And ((0 : Int) ≤ (↑n : Int)) (And (Int.toNat (↑n : Int) ≤ List.length l) (And (List.length l ≤ List.length l) (∃ o : Value × Value, (And (And (SV.view (Prod.fst o) (1 : Nat) (Enc.enc (encInt IntKind.u8)) (List.take n l) = nilV (1 : Nat) EB (SV.view (vslice y0 (1 : Nat) (0 : Nat) (Int.toNat (↑n : Int)) (Int.toNat (↑n : Int))) (1 : Nat) (Enc.enc EB) (List.take (Int.toNat (↑n : Int) - (0 : Nat)) (List.drop (0 : Nat) l)))) True) (And (And (And (SV.view (Prod.snd o) (1 : Nat) (Enc.enc EB) (List.drop n l) = SV.view (vslice y0 (1 : Nat) (Int.toNat (↑n : Int)) (List.length l) (vcap y0)) (1 : Nat) (Enc.enc EB) (List.take (List.length l - Int.toNat (↑n : Int)) (List.drop (Int.toNat (↑n : Int)) l))) (And ((true : Bool) = true) (And ((0 : Int) = (0 : Int)) True))) (And ((true : Bool) = true) True)) ((true : Bool) = true))))))))))))) (And ((0 : Int) ≤ (↑n : Int)) (And ((0 : Int) ≤ (↑n : Int)) (And (Int.toNat (↑n : Int) ≤ Int.toNat (↑n : Int)) (And ((1 : Nat) * Int.toNat (↑n : Int) ≤ (281474976710656 : Nat)) (And (Int.toNat (↑n : Int) ≤ (9223372036854775807 : Nat)) (And ((0 : Nat) + Int.toNat (↑n : Int) ≤ List.length (List.replicate (Int.toNat (↑n : Int)) (Enc.of (encInt IntKind.u8) ((0 : Int), ())))) (And (Int.toNat (↑n : Int) ≤ Int.toNat (↑n : Int)) (And (∀ y : Int, ((true : Bool) = true)) (∀ x : Value, (∃ o : Value × Value, (And (And (SV.view (Prod.fst o) (1 : Nat) (Enc.enc (encInt IntKind.u8)) (List.take n l) = nilV (1 : Nat) EB (SV.view x (1 : Nat) (Enc.enc (encInt IntKind.u8)) (List.take (Int.toNat (↑n : Int)) (List.drop (0 : Nat) (List.replicate (Int.toNat (↑n : Int)) (Enc.of (encInt IntKind.u8) ((0 : Int), ()))))))) True) (And (And (And (SV.view (Prod.snd o) (1 : Nat) (Enc.enc EB) (List.drop n l) = SV.view y0 (1 : Nat) (Enc.enc EB) l) (And ((true : Bool) = true) (And ((0 : Int) = (20 : Int)) True))) (And ((true : Bool) = true) True)) ((true : Bool) = true))))))))))))) (decide ((↑(List.length l) : Int) < (↑n : Int))))) (by kernel_rfl) ?_
  simp only [Int.toNat_natCast]
  refine bif_dec (fun h2 => absurd h2 (by omega)) (fun h2 => ?_)
  have e2 : List.take (l.length - n) (l.drop n) = l.drop n := List.take_of_length_le (by rw [List.length_drop]; exact Nat.le_refl _)
  rw [e2, Nat.sub_zero, List.drop_zero]
  repeat (with_reducible refine And.intro (by first | exact trivial | omega | decide) ?_)
  refine ⟨(vslice y0 1 0 n n, vslice y0 1 n l.length (vcap y0)), ?_⟩
  repeat' first | exact trivial | refine And.intro ?_ ?_ | with_reducible refine bif_dt (by assumption) ?_ | with_reducible refine bif_df (by assumption) ?_ | with_reducible refine bif_dec (fun _ => ?_) (fun _ => ?_) | with_reducible refine bif_not ?_ | with_reducible refine bif_and ?_ | with_reducible refine bif_or ?_ | with_reducible refine bif_t (by assumption) ?_ | with_reducible refine bif_f (by assumption) ?_ | with_reducible refine bif_t (beq_self_eq_true _) ?_ | with_reducible refine bif_b (fun _ => ?_) (fun _ => ?_) | with_reducible refine ⟨_, Eq.refl (List.map _ _), ?_⟩ | (with_reducible refine Exists.intro (by omega) ?_) | rfl | (intro h0; omega) | omega
theorem take_row {y0 : Value} {s0 : SV} {l : List Int} {n_ : Int} (h : s0 = .view y0 1 EB.enc l ∧ 0 ≤ n_ ∧ n_ ≤ 1000000 ∧ n_ ≤ l.length ∧ l.length ≤ 140737488351232) : SMem Try.prog 72 [.one (.ptr 0 0), int n_] 1 [(0, .cells [s0, .v (.bool true), .v (.int .i64 0)])] (fun o : Value × Value => ⟨1, byV o.1 (l.take n_.toNat), [(0, .cells (rdC o.2 (l.drop n_.toNat)))]⟩) := by
  obtain ⟨rfl, h1, h2, h3, h4⟩ := h
  have := take_spec y0 l n_.toNat (by omega) (by omega) h4
  rwa [show ((n_.toNat : Nat) : Int) = n_ by omega] at this
def takeT : MT := fun ms n h K => match ms with
  | [.one (.ptr P0 0), .one (.v (.int .i64 n_))] => (match get h P0 with
    | some (.cells [s0, .v (.bool true), .v (.int .i64 0)]) => bif noDup [P0] then ∃ (y0 : Value) (l : List Int), ((s0 = .view y0 1 EB.enc l ∧ 0 ≤ n_ ∧ n_ ≤ 1000000 ∧ n_ ≤ l.length ∧ l.length ≤ 140737488351232)) ∧ (∀ o : Value × Value, K (n + 0) (byV o.1 (l.take n_.toNat)) ([(P0, .cells (rdC o.2 (l.drop n_.toNat)))] ++ delL [P0] h)) else False
    | _ => False)
  | _ => False
theorem take_mono : MMono takeT := by
  intro ms n h K K' hkk hk
  unfold takeT at hk ⊢
  split at hk
  · rename_i P0 n_
    split at hk
    · rename_i s0 hg0
      try simp only [hg0]
      obtain ⟨hb, q0, q1, h1, h2⟩ := cond_false_elim hk
      rw [hb]
      exact ⟨q0, q1, h1, fun o => hkk _ _ _ (h2 o)⟩
    · exact hk.elim
  · exact hk.elim
theorem take_ok : MOK Try.prog 72 takeT := by
  refine ⟨?_, take_mono⟩
  intro ms n hB K hk
  unfold takeT at hk
  split at hk
  · rename_i P0 n_
    split at hk
    · rename_i s0 hg0
      obtain ⟨hb, y0, l, h, hk2⟩ := cond_false_elim hk
      clear hk
      obtain ⟨rfl, h⟩ := h
      have hnd := hb
      refine SCall.seen ?_ (.cons (.refl _) (.cons (.refl _) .nil))
      exact (take_row (y0 := y0) ⟨rfl, h⟩).use (fun j => match j with | 0 => P0 | _ => 0) rfl rfl ⟨by show (match get hB P0 with | some b0 => Blk.imp _ _ _ b0 | none => False); rw [hg0]; exact ⟨rfl, rfl⟩, rfl, trivial⟩ hnd (fun j hj => by cases j with
          | zero => exact ⟨_, rfl⟩
          | succ j => omega) (fun o => hk2 o)
    · exact hk.elim
  · exact hk.elim

structure UiT where
  i : Nat
  y1 : Value
  y2 : Value
  hi : i ≤ 8
theorem uintR_spec (y0 : Value) (l : List Int) (hl : 8 ≤ l.length) (hs : l.length ≤ 140737488351232) (hB : Dig 256 l) : SMem Try.prog 46 [.one (.ptr 0 0)] 1 [(0, .cells (rdC y0 l))] (fun o : Value => ⟨1, u64 (valF (l.take 8)), [(0, .cells (rdC o (l.drop 8)))]⟩) := by
  refine SMem.inm [] SOK.nil [(72, takeT)] (MSOK.cons take_ok MSOK.nil) tok mixed [] IOK.nil false [(2, ⟨UiT, fun p => ⟨1, [(2, u64 (valF ((l.take 8).take p.i))), (6, byV p.y1 (l.take 8)), (7, int (l.take 8).length), (8, int p.i)], [(0, .cells (rdC p.y2 (l.drop 8)))]⟩, fun p => 8 - p.i, fun _ _ => True⟩)] [] Try.call46 Try.func46 rfl (by rfl) ?_
  refine Eq.mp (α := (∃ y0_1 : Value, (∃ l_1 : List Int, (And (And (SV.view y0 (1 : Nat) (Enc.enc EB) l = SV.view y0_1 (1 : Nat) (Enc.enc EB) l_1) (And ((0 : Int) ≤ (8 : Int)) (And ((8 : Int) ≤ (1000000 : Int)) (And ((8 : Int) ≤ (↑(List.length l_1) : Int)) (List.length l_1 ≤ (140737488351232 : Nat)))))) (∀ o : Value × Value, (∃ i0 : UiT, (And (And True (And (And (valF (List.take (UiT.i i0) (List.take (8 : Nat) l)) = (0 : Int)) (And (SV.view (UiT.y1 i0) (1 : Nat) (Enc.enc (encInt IntKind.u8)) (List.take (8 : Nat) l) = SV.view (Prod.fst o) (1 : Nat) (Enc.enc (encInt IntKind.u8)) (List.take (Int.toNat (8 : Int)) l_1)) (And ((↑(List.length (List.take (8 : Nat) l)) : Int) = (↑(List.length (List.take (Int.toNat (8 : Int)) l_1)) : Int)) (And ((↑(UiT.i i0) : Int) = (0 : Int)) True)))) (And (And (And (SV.view (UiT.y2 i0) (1 : Nat) (Enc.enc EB) (List.drop (8 : Nat) l) = SV.view (Prod.snd o) (1 : Nat) (Enc.enc EB) (List.drop (Int.toNat (8 : Int)) l_1)) (And ((true : Bool) = true) (And ((0 : Int) = (0 : Int)) True))) (And ((true : Bool) = true) True)) ((true : Bool) = true)))) (∀ i : UiT, (∀ a : True, (@Bool.rec (fun _ => Prop) (∃ o_1 : Value, (And (And (valF (List.take (8 : Nat) l) = valF (List.take (UiT.i i) (List.take (8 : Nat) l))) True) (And (And (And (SV.view o_1 (1 : Nat) (Enc.enc EB) (List.drop (8 : Nat) l) = SV.view (UiT.y2 i) (1 : Nat) (Enc.enc EB) (List.drop (8 : Nat) l)) (And ((true : Bool) = true) (And ((0 : Int) = (0 : Int)) True))) (And ((true : Bool) = true) True)) ((true : Bool) = true)))) (And ((0 : Int) ≤ (↑(UiT.i i) : Int)) (∃ hk : Int.toNat (↑(UiT.i i) : Int) < List.length (List.take (8 : Nat) l), (And ((0 : Int) ≤ (8 : Int)) (∃ i' : UiT, (And (And ((8 : Nat) - UiT.i i' < (8 : Nat) - UiT.i i) True) (And (And (valF (List.take (UiT.i i') (List.take (8 : Nat) l)) = Sx.bits BinOp.or IntKind.u64 (shl IntKind.u64 (valF (List.take (UiT.i i) (List.take (8 : Nat) l))) (8 : Int)) (IntKind.wrap IntKind.u64 (List.take (8 : Nat) l)[Int.toNat (↑(UiT.i i) : Int)])) (And (SV.view (UiT.y1 i') (1 : Nat) (Enc.enc (encInt IntKind.u8)) (List.take (8 : Nat) l) = SV.view (UiT.y1 i) (1 : Nat) (Enc.enc (encInt IntKind.u8)) (List.take (8 : Nat) l)) (And ((↑(List.length (List.take (8 : Nat) l)) : Int) = (↑(List.length (List.take (8 : Nat) l)) : Int)) (And ((↑(UiT.i i') : Int) = IntKind.wrap IntKind.i64 ((↑(UiT.i i) : Int) + (1 : Int))) True)))) (And (And (And (SV.view (UiT.y2 i') (1 : Nat) (Enc.enc EB) (List.drop (8 : Nat) l) = SV.view (UiT.y2 i) (1 : Nat) (Enc.enc EB) (List.drop (8 : Nat) l)) (And ((true : Bool) = true) (And ((0 : Int) = (0 : Int)) True))) (And ((true : Bool) = true) True)) ((true : Bool) = true)))))))) (decide ((↑(UiT.i i) : Int) < (↑(List.length (List.take (8 : Nat) l)) : Int))))))))))))) (by kernel_rfl) ?_
  have hl8 : (l.take 8).length = 8 := by rw [List.length_take]; omega
  have hb := dig_take hB 8
  refine ⟨y0, l, ⟨rfl, by decide, by decide, by omega, hs⟩, fun o => ?_⟩
  refine ⟨⟨0, o.1, o.2, by decide⟩, ?_, ?_⟩
  ·
    repeat' first | exact trivial | refine And.intro ?_ ?_ | with_reducible refine bif_dt (by assumption) ?_ | with_reducible refine bif_df (by assumption) ?_ | with_reducible refine bif_dec (fun _ => ?_) (fun _ => ?_) | with_reducible refine bif_not ?_ | with_reducible refine bif_and ?_ | with_reducible refine bif_or ?_ | with_reducible refine bif_t (by assumption) ?_ | with_reducible refine bif_f (by assumption) ?_ | with_reducible refine bif_t (beq_self_eq_true _) ?_ | with_reducible refine bif_b (fun _ => ?_) (fun _ => ?_) | with_reducible refine ⟨_, Eq.refl (List.map _ _), ?_⟩ | (with_reducible refine Exists.intro (by omega) ?_) | rfl | (intro h0; omega) | omega
  rintro ⟨i, y1, y2, hi⟩ -
  dsimp only
  refine bif_dec (fun h1 => ?_) (fun h1 => ?_)
  rotate_left
  · have hi8 : i = 8 := by omega
    subst hi8
    have e : List.take 8 (l.take 8) = l.take 8 := List.take_of_length_le (by omega)
    rw [e]
    refine ⟨y2, ?_⟩
    repeat' first | exact trivial | refine And.intro ?_ ?_ | with_reducible refine bif_dt (by assumption) ?_ | with_reducible refine bif_df (by assumption) ?_ | with_reducible refine bif_dec (fun _ => ?_) (fun _ => ?_) | with_reducible refine bif_not ?_ | with_reducible refine bif_and ?_ | with_reducible refine bif_or ?_ | with_reducible refine bif_t (by assumption) ?_ | with_reducible refine bif_f (by assumption) ?_ | with_reducible refine bif_t (beq_self_eq_true _) ?_ | with_reducible refine bif_b (fun _ => ?_) (fun _ => ?_) | with_reducible refine ⟨_, Eq.refl (List.map _ _), ?_⟩ | (with_reducible refine Exists.intro (by omega) ?_) | rfl | (intro h0; omega) | omega
  have hi' : i < (l.take 8).length := by omega
  have hv := val_bound (dig_take hb i)
  have hvl : ((l.take 8).take i).length = i := by rw [List.length_take]; omega
  rw [hvl] at hv
  have hbi := hb _ (List.getElem_mem hi')
  have hp : (256 : Int) ^ i ≤ 256 ^ 7 := by
    have : ∀ k : Nat, k ≤ 7 → (256 : Int) ^ k ≤ 256 ^ 7 := by decide
    exact this i (by omega)
  have hu0 : ∀ v : Int, 0 ≤ v ∧ v < 256 → IntKind.u64.wrap v = v := fun v hv => by
    simp [IntKind.wrap, IntKind.bits, IntKind.signed]
    omega
  have hu : IntKind.u64.wrap (l.take 8)[i] = (l.take 8)[i] := hu0 _ hbi
  have hw : IntKind.i64.wrap ((i : Int) + 1) = ((i + 1 : Nat) : Int) := inext (by omega)
  have hn : valF (List.take (i + 1) (l.take 8)) = Sx.bits .or .u64 (shl .u64 (valF (List.take i (l.take 8))) 8) (IntKind.u64.wrap (l.take 8)[i]) := by
    rw [hu, shl_or hv.1 (by
      have : (256 : Int) ^ 7 = 72057594037927936 := by decide
      omega) hbi, List.take_add_one, List.getElem?_eq_getElem hi']
    exact val_snoc _ _
  refine ⟨by omega, hi', by decide, ⟨i + 1, y1, y2, by omega⟩, ⟨show 8 - (i + 1) < 8 - i by omega, trivial⟩, ?_⟩
  rw [hw]
  repeat' first | exact hn | exact trivial | refine And.intro ?_ ?_ | with_reducible refine bif_dt (by assumption) ?_ | with_reducible refine bif_df (by assumption) ?_ | with_reducible refine bif_dec (fun _ => ?_) (fun _ => ?_) | with_reducible refine bif_not ?_ | with_reducible refine bif_and ?_ | with_reducible refine bif_or ?_ | with_reducible refine bif_t (by assumption) ?_ | with_reducible refine bif_f (by assumption) ?_ | with_reducible refine bif_t (beq_self_eq_true _) ?_ | with_reducible refine bif_b (fun _ => ?_) (fun _ => ?_) | with_reducible refine ⟨_, Eq.refl (List.map _ _), ?_⟩ | (with_reducible refine Exists.intro (by omega) ?_) | rfl | (intro h0; omega) | omega
def uintRT : MT := fun ms n h K => match ms with
  | [.one (.ptr P0 0)] => (match get h P0 with
    | some (.cells [s0, .v (.bool true), .v (.int .i64 0)]) => bif noDup [P0] then ∃ (y0 : Value) (l : List Int), ((s0 = .view y0 1 EB.enc l ∧ 8 ≤ l.length ∧ l.length ≤ 140737488351232 ∧ Dig 256 l)) ∧ (∀ o : Value, K (n + 0) (u64 (valF (l.take 8))) ([(P0, .cells (rdC o (l.drop 8)))] ++ delL [P0] h)) else False
    | _ => False)
  | _ => False
theorem uintR_mono : MMono uintRT := by
  intro ms n h K K' hkk hk
  unfold uintRT at hk ⊢
  split at hk
  · rename_i P0
    split at hk
    · rename_i s0 hg0
      try simp only [hg0]
      obtain ⟨hb, q0, q1, h1, h2⟩ := cond_false_elim hk
      rw [hb]
      exact ⟨q0, q1, h1, fun o => hkk _ _ _ (h2 o)⟩
    · exact hk.elim
  · exact hk.elim
theorem uintR_ok : MOK Try.prog 46 uintRT := by
  refine ⟨?_, uintR_mono⟩
  intro ms n hB K hk
  unfold uintRT at hk
  split at hk
  · rename_i P0
    split at hk
    · rename_i s0 hg0
      obtain ⟨hb, y0, l, h, hk2⟩ := cond_false_elim hk
      clear hk
      obtain ⟨rfl, h⟩ := h
      have hnd := hb
      refine SCall.seen ?_ (.cons (.refl _) .nil)
      exact (uintR_spec y0 l h.1 h.2.1 h.2.2).use (fun j => match j with | 0 => P0 | _ => 0) rfl rfl ⟨by show (match get hB P0 with | some b0 => Blk.imp _ _ _ b0 | none => False); rw [hg0]; exact ⟨rfl, rfl⟩, rfl, trivial⟩ hnd (fun j hj => by cases j with
          | zero => exact ⟨_, rfl⟩
          | succ j => omega) (fun o => hk2 o)
    · exact hk.elim
  · exact hk.elim

end Go.Proofs.Ytjdlefkpoggocaa
