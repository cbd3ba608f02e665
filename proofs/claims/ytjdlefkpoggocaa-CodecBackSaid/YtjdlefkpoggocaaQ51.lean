/- The codec's reader: wide numbers, hashes, blobs, how it stands. -/
import Derived.Test.YtjdlefkpoggocaaQ50
import Derived.Test.YtjdlefkpoggocaaSx24
namespace Go.Proofs.Ytjdlefkpoggocaa
open Go Go.Sx Go.Wide
set_option linter.unusedVariables false
set_option linter.unusedSimpArgs false
set_option maxRecDepth 100000
set_option maxHeartbeats 4000000

abbrev h32 (a : List Int) : M := .agg [.ints .u8 32 a]
theorem hashR_spec (y0 : Value) (l : List Int) (hl : 32 ≤ l.length) (hs : l.length ≤ 140737488351232) : SMem Try.prog 48 [.one (.ptr 0 0)] 1 [(0, .cells (rdC y0 l))] (fun o : Value => ⟨1, h32 (l.take 32), [(0, .cells (rdC o (l.drop 32)))]⟩) := by
  refine SMem.inm [] SOK.nil [(72, takeT)] (MSOK.cons take_ok MSOK.nil) tok mixed [] IOK.nil false [] [] Try.call48 Try.func48 rfl (by rfl) ?_
  refine Eq.mp (α := (∃ y0_1 : Value, (∃ l_1 : List Int, (And (And (SV.view y0 (1 : Nat) (Enc.enc EB) l = SV.view y0_1 (1 : Nat) (Enc.enc EB) l_1) (And ((0 : Int) ≤ (32 : Int)) (And ((32 : Int) ≤ (1000000 : Int)) (And ((32 : Int) ≤ (↑(List.length l_1) : Int)) (List.length l_1 ≤ (140737488351232 : Nat)))))) (∀ o : Value × Value, (And ((32 : Nat) ≤ List.length (List.take (Int.toNat (32 : Int)) l_1)) (And (∀ x : Int, (∀ a : x ∈ List.take (Int.toNat (32 : Int)) l_1, (∃ b : Int, (Enc.enc (encInt IntKind.u8) x = [SV.v (Value.int IntKind.u8 b)])))) (∃ o_1 : Value, (And (And (And (List.take (32 : Nat) l = bytesOf (Enc.enc (encInt IntKind.u8)) (List.take (32 : Nat) (List.take (Int.toNat (32 : Int)) l_1))) True) True) (And (And (And (SV.view o_1 (1 : Nat) (Enc.enc EB) (List.drop (32 : Nat) l) = SV.view (Prod.snd o) (1 : Nat) (Enc.enc EB) (List.drop (Int.toNat (32 : Int)) l_1)) (And ((true : Bool) = true) (And ((0 : Int) = (0 : Int)) True))) (And ((true : Bool) = true) True)) ((true : Bool) = true))))))))))) (by kernel_rfl) ?_
  have e1 : bytesOf (encInt .u8).enc (List.take 32 (l.take 32)) = l.take 32 := by rw [bytesOfB, List.take_take, Nat.min_self]
  refine ⟨y0, l, ⟨rfl, by decide, by decide, by omega, hs⟩, fun o => ⟨by rw [List.length_take]; exact Nat.le_min.2 ⟨Nat.le_refl _, hl⟩, fun y _ => ⟨y, rfl⟩, o.2, ?_⟩⟩
  repeat' first | exact e1.symm | exact trivial | refine And.intro ?_ ?_ | with_reducible refine bif_dt (by assumption) ?_ | with_reducible refine bif_df (by assumption) ?_ | with_reducible refine bif_dec (fun _ => ?_) (fun _ => ?_) | with_reducible refine bif_not ?_ | with_reducible refine bif_and ?_ | with_reducible refine bif_or ?_ | with_reducible refine bif_t (by assumption) ?_ | with_reducible refine bif_f (by assumption) ?_ | with_reducible refine bif_t (beq_self_eq_true _) ?_ | with_reducible refine bif_b (fun _ => ?_) (fun _ => ?_) | with_reducible refine ⟨_, Eq.refl (List.map _ _), ?_⟩ | (with_reducible refine Exists.intro (by omega) ?_) | rfl | (intro h0; omega) | omega
def hashRT : MT := fun ms n h K => match ms with
  | [.one (.ptr P0 0)] => (match get h P0 with
    | some (.cells [s0, .v (.bool true), .v (.int .i64 0)]) => bif noDup [P0] then ∃ (y0 : Value) (l : List Int), ((s0 = .view y0 1 EB.enc l ∧ 32 ≤ l.length ∧ l.length ≤ 140737488351232)) ∧ (∀ o : Value, K (n + 0) (h32 (l.take 32)) ([(P0, .cells (rdC o (l.drop 32)))] ++ delL [P0] h)) else False
    | _ => False)
  | _ => False
theorem hashR_mono : MMono hashRT := by
  intro ms n h K K' hkk hk
  unfold hashRT at hk ⊢
  split at hk
  · rename_i P0
    split at hk
    · rename_i s0 hg0
      try simp only [hg0]
      obtain ⟨hb, q0, q1, h1, h2⟩ := cond_false_elim hk
      rw [hb]
      exact ⟨q0, q1, h1, fun o => hkk _ _ _ (h2 o)⟩
    · exact hk.elim
  · exact hk.elim
theorem hashR_ok : MOK Try.prog 48 hashRT := by
  refine ⟨?_, hashR_mono⟩
  intro ms n hB K hk
  unfold hashRT at hk
  split at hk
  · rename_i P0
    split at hk
    · rename_i s0 hg0
      obtain ⟨hb, y0, l, h, hk2⟩ := cond_false_elim hk
      clear hk
      obtain ⟨rfl, h⟩ := h
      have hnd := hb
      refine SCall.seen ?_ (.cons (.refl _) .nil)
      exact (hashR_spec y0 l h.1 h.2).use (fun j => match j with | 0 => P0 | _ => 0) rfl rfl ⟨by show (match get hB P0 with | some b0 => Blk.imp _ _ _ b0 | none => False); rw [hg0]; exact ⟨rfl, rfl⟩, rfl, trivial⟩ hnd (fun j hj => by cases j with
          | zero => exact ⟨_, rfl⟩
          | succ j => omega) (fun o => hk2 o)
    · exact hk.elim
  · exact hk.elim

theorem wideR_spec (y0 : Value) (l : List Int) (hl : 32 ≤ l.length) (hs : l.length ≤ 140737488351232) (hB : Dig 256 l) : SMem Try.prog 47 [.one (.ptr 0 0)] 1 [(0, .cells (rdC y0 l))] (fun o : Value => ⟨1, w4 (L (fromR (l.take 32)).1), [(0, .cells (rdC o (l.drop 32)))]⟩) := by
  refine SMem.inm [(31, fromT)] (SOK.cons from_ok SOK.nil) [(72, takeT)] (MSOK.cons take_ok MSOK.nil) tok mixed [] IOK.nil false [] [] Try.call47 Try.func47 rfl (by rfl) ?_
  refine Eq.mp (α := (∃ y0_1 : Value, (∃ l_1 : List Int, (And (And (SV.view y0 (1 : Nat) (Enc.enc EB) l = SV.view y0_1 (1 : Nat) (Enc.enc EB) l_1) (And ((0 : Int) ≤ (32 : Int)) (And ((32 : Int) ≤ (1000000 : Int)) (And ((32 : Int) ≤ (↑(List.length l_1) : Int)) (List.length l_1 ≤ (140737488351232 : Nat)))))) (∀ o : Value × Value, (∃ b : List Int, (And (List.map (Enc.enc (encInt IntKind.u8)) (List.take (Int.toNat (32 : Int)) l_1) = List.map eB b) (And (∀ x : Int, (∀ a : x ∈ b, (And ((0 : Int) ≤ x) (x < (↑(256 : Nat) : Int))))) (∃ o_1 : Value, (And (And (And (L (Prod.fst (fromR (List.take (32 : Nat) l))) = L (Prod.fst (fromR b))) True) True) (And (And (And (SV.view o_1 (1 : Nat) (Enc.enc EB) (List.drop (32 : Nat) l) = SV.view (Prod.snd o) (1 : Nat) (Enc.enc EB) (List.drop (Int.toNat (32 : Int)) l_1)) (And ((true : Bool) = true) (And ((0 : Int) = (0 : Int)) True))) (And ((true : Bool) = true) True)) ((true : Bool) = true)))))))))))) (by kernel_rfl) ?_
  refine ⟨y0, l, ⟨rfl, by decide, by decide, by omega, hs⟩, fun o => ⟨l.take 32, rfl, dig_take hB 32, o.2, ?_⟩⟩
  repeat' first | exact trivial | refine And.intro ?_ ?_ | with_reducible refine bif_dt (by assumption) ?_ | with_reducible refine bif_df (by assumption) ?_ | with_reducible refine bif_dec (fun _ => ?_) (fun _ => ?_) | with_reducible refine bif_not ?_ | with_reducible refine bif_and ?_ | with_reducible refine bif_or ?_ | with_reducible refine bif_t (by assumption) ?_ | with_reducible refine bif_f (by assumption) ?_ | with_reducible refine bif_t (beq_self_eq_true _) ?_ | with_reducible refine bif_b (fun _ => ?_) (fun _ => ?_) | with_reducible refine ⟨_, Eq.refl (List.map _ _), ?_⟩ | (with_reducible refine Exists.intro (by omega) ?_) | rfl | (intro h0; omega) | omega
def wideRT : MT := fun ms n h K => match ms with
  | [.one (.ptr P0 0)] => (match get h P0 with
    | some (.cells [s0, .v (.bool true), .v (.int .i64 0)]) => bif noDup [P0] then ∃ (y0 : Value) (l : List Int), ((s0 = .view y0 1 EB.enc l ∧ 32 ≤ l.length ∧ l.length ≤ 140737488351232 ∧ Dig 256 l)) ∧ (∀ o : Value, K (n + 0) (w4 (L (fromR (l.take 32)).1)) ([(P0, .cells (rdC o (l.drop 32)))] ++ delL [P0] h)) else False
    | _ => False)
  | _ => False
theorem wideR_mono : MMono wideRT := by
  intro ms n h K K' hkk hk
  unfold wideRT at hk ⊢
  split at hk
  · rename_i P0
    split at hk
    · rename_i s0 hg0
      try simp only [hg0]
      obtain ⟨hb, q0, q1, h1, h2⟩ := cond_false_elim hk
      rw [hb]
      exact ⟨q0, q1, h1, fun o => hkk _ _ _ (h2 o)⟩
    · exact hk.elim
  · exact hk.elim
theorem wideR_ok : MOK Try.prog 47 wideRT := by
  refine ⟨?_, wideR_mono⟩
  intro ms n hB K hk
  unfold wideRT at hk
  split at hk
  · rename_i P0
    split at hk
    · rename_i s0 hg0
      obtain ⟨hb, y0, l, h, hk2⟩ := cond_false_elim hk
      clear hk
      obtain ⟨rfl, h⟩ := h
      have hnd := hb
      refine SCall.seen ?_ (.cons (.refl _) .nil)
      exact (wideR_spec y0 l h.1 h.2.1 h.2.2).use (fun j => match j with | 0 => P0 | _ => 0) rfl rfl ⟨by show (match get hB P0 with | some b0 => Blk.imp _ _ _ b0 | none => False); rw [hg0]; exact ⟨rfl, rfl⟩, rfl, trivial⟩ hnd (fun j hj => by cases j with
          | zero => exact ⟨_, rfl⟩
          | succ j => omega) (fun o => hk2 o)
    · exact hk.elim
  · exact hk.elim

theorem blobR_spec (y0 : Value) (l : List Int) (n : Nat) (hn : valF (l.take 8) = n) (hn2 : n ≤ 65536) (hl : 8 + n ≤ l.length) (hs : l.length ≤ 140737488351232) (hB : Dig 256 l) : SMem Try.prog 49 [.one (.ptr 0 0)] 1 [(0, .cells (rdC y0 l))] (fun o : Value × Value => ⟨1, byV o.1 ((l.drop 8).take n), [(0, .cells (rdC o.2 ((l.drop 8).drop n)))]⟩) := by
  refine SMem.inf 1 EB [] SOK.nil [(46, uintRT), (72, takeT)] (MSOK.cons uintR_ok (MSOK.cons take_ok MSOK.nil)) tok mixed [(73, ⟨Try.f73, true, [], []⟩)] (IOK.cons Try.func73 Try.call73 IOK.nil) true [] [] Try.call49 Try.func49 rfl (by rfl) ?_
  refine Eq.mp (α := (∃ y0_1 : Value, (∃ l_1 : List Int, (And (And (SV.view y0 (1 : Nat) (Enc.enc EB) l = SV.view y0_1 (1 : Nat) (Enc.enc EB) l_1) (And ((8 : Nat) ≤ List.length l_1) (And (List.length l_1 ≤ (140737488351232 : Nat)) (∀ x : Int, (∀ a : x ∈ l_1, (And ((0 : Int) ≤ x) (x < (↑(256 : Nat) : Int)))))))) (∀ o : Value, (@Bool.rec (fun _ => Prop) (∃ y0_2 : Value, (∃ l_2 : List Int, (And (And (SV.view o (1 : Nat) (Enc.enc EB) (List.drop (8 : Nat) l_1) = SV.view y0_2 (1 : Nat) (Enc.enc EB) l_2) (And ((0 : Int) ≤ IntKind.wrap IntKind.i64 (valF (List.take (8 : Nat) l_1))) (And (IntKind.wrap IntKind.i64 (valF (List.take (8 : Nat) l_1)) ≤ (1000000 : Int)) (And (IntKind.wrap IntKind.i64 (valF (List.take (8 : Nat) l_1)) ≤ (↑(List.length l_2) : Int)) (List.length l_2 ≤ (140737488351232 : Nat)))))) (∀ o_1 : Value × Value, (∃ o_2 : Value × Value, (And (And (SV.view (Prod.fst o_2) (1 : Nat) (Enc.enc (encInt IntKind.u8)) (List.take n (List.drop (8 : Nat) l)) = nilV (1 : Nat) EB (SV.view (Prod.fst o_1) (1 : Nat) (Enc.enc (encInt IntKind.u8)) (List.take (Int.toNat (IntKind.wrap IntKind.i64 (valF (List.take (8 : Nat) l_1)))) l_2))) True) (And (And (And (SV.view (Prod.snd o_2) (1 : Nat) (Enc.enc EB) (List.drop n (List.drop (8 : Nat) l)) = SV.view (Prod.snd o_1) (1 : Nat) (Enc.enc EB) (List.drop (Int.toNat (IntKind.wrap IntKind.i64 (valF (List.take (8 : Nat) l_1)))) l_2)) (And ((true : Bool) = true) (And ((0 : Int) = (0 : Int)) True))) (And ((true : Bool) = true) True)) ((true : Bool) = true)))))))) (∃ o_1 : Value × Value, (And (And (SV.view (Prod.fst o_1) (1 : Nat) (Enc.enc (encInt IntKind.u8)) (List.take n (List.drop (8 : Nat) l)) = nilV (1 : Nat) EB (SV.v (Value.slice none (0 : Nat) (0 : Nat)))) True) (And (And (And (SV.view (Prod.snd o_1) (1 : Nat) (Enc.enc EB) (List.drop n (List.drop (8 : Nat) l)) = SV.view y0 (1 : Nat) (Enc.enc EB) l) (And ((true : Bool) = true) (And ((0 : Int) = (21 : Int)) True))) (And ((true : Bool) = true) True)) ((true : Bool) = true)))) (decide ((65536 : Int) < valF (List.take (8 : Nat) l_1))))))))) (by kernel_rfl) ?_
  refine ⟨y0, l, ⟨rfl, by omega, hs, hB⟩, fun o => ?_⟩
  rw [hn]
  refine bif_dec (fun h => absurd h (by omega)) (fun _ => ?_)
  have hw : IntKind.i64.wrap (n : Int) = n := wrap64 (by omega) (by omega)
  rw [hw]
  refine ⟨o, l.drop 8, ⟨rfl, by omega, by omega, by rw [List.length_drop]; omega, by rw [List.length_drop]; omega⟩, fun o1 => ⟨o1, ?_⟩⟩
  repeat' first | exact trivial | refine And.intro ?_ ?_ | with_reducible refine bif_dt (by assumption) ?_ | with_reducible refine bif_df (by assumption) ?_ | with_reducible refine bif_dec (fun _ => ?_) (fun _ => ?_) | with_reducible refine bif_not ?_ | with_reducible refine bif_and ?_ | with_reducible refine bif_or ?_ | with_reducible refine bif_t (by assumption) ?_ | with_reducible refine bif_f (by assumption) ?_ | with_reducible refine bif_t (beq_self_eq_true _) ?_ | with_reducible refine bif_b (fun _ => ?_) (fun _ => ?_) | with_reducible refine ⟨_, Eq.refl (List.map _ _), ?_⟩ | (with_reducible refine Exists.intro (by omega) ?_) | rfl | (intro h0; omega) | omega
theorem blobR_row {y0 : Value} {s0 : SV} {l : List Int} (h : s0 = .view y0 1 EB.enc l ∧ valF (l.take 8) ≤ 65536 ∧ 8 + (valF (l.take 8)).toNat ≤ l.length ∧ l.length ≤ 140737488351232 ∧ Dig 256 l) :
    SMem Try.prog 49 [.one (.ptr 0 0)] 1 [(0, .cells [s0, .v (.bool true), .v (.int .i64 0)])] (fun o : Value × Value => ⟨1, byV o.1 ((l.drop 8).take (valF (l.take 8)).toNat), [(0, .cells (rdC o.2 ((l.drop 8).drop (valF (l.take 8)).toNat)))]⟩) := by
  obtain ⟨rfl, h1, h2, h3, h4⟩ := h
  have := (val_bound (dig_take h4 8)).1
  exact blobR_spec y0 l (valF (l.take 8)).toNat (by omega) (by omega) h2 h3 h4
def blobRT : MT := fun ms n h K => match ms with
  | [.one (.ptr P0 0)] => (match get h P0 with
    | some (.cells [s0, .v (.bool true), .v (.int .i64 0)]) => bif noDup [P0] then ∃ (y0 : Value) (l : List Int), ((s0 = .view y0 1 EB.enc l ∧ valF (l.take 8) ≤ 65536 ∧ 8 + (valF (l.take 8)).toNat ≤ l.length ∧ l.length ≤ 140737488351232 ∧ Dig 256 l)) ∧ (∀ o : Value × Value, K (n + 0) (byV o.1 ((l.drop 8).take (valF (l.take 8)).toNat)) ([(P0, .cells (rdC o.2 ((l.drop 8).drop (valF (l.take 8)).toNat)))] ++ delL [P0] h)) else False
    | _ => False)
  | _ => False
theorem blobR_mono : MMono blobRT := by
  intro ms n h K K' hkk hk
  unfold blobRT at hk ⊢
  split at hk
  · rename_i P0
    split at hk
    · rename_i s0 hg0
      try simp only [hg0]
      obtain ⟨hb, q0, q1, h1, h2⟩ := cond_false_elim hk
      rw [hb]
      exact ⟨q0, q1, h1, fun o => hkk _ _ _ (h2 o)⟩
    · exact hk.elim
  · exact hk.elim
theorem blobR_ok : MOK Try.prog 49 blobRT := by
  refine ⟨?_, blobR_mono⟩
  intro ms n hB K hk
  unfold blobRT at hk
  split at hk
  · rename_i P0
    split at hk
    · rename_i s0 hg0
      obtain ⟨hb, y0, l, h, hk2⟩ := cond_false_elim hk
      clear hk
      obtain ⟨rfl, h⟩ := h
      have hnd := hb
      refine SCall.seen ?_ (.cons (.refl _) .nil)
      exact (blobR_row (y0 := y0) ⟨rfl, h⟩).use (fun j => match j with | 0 => P0 | _ => 0) rfl rfl ⟨by show (match get hB P0 with | some b0 => Blk.imp _ _ _ b0 | none => False); rw [hg0]; exact ⟨rfl, rfl⟩, rfl, trivial⟩ hnd (fun j hj => by cases j with
          | zero => exact ⟨_, rfl⟩
          | succ j => omega) (fun o => hk2 o)
    · exact hk.elim
  · exact hk.elim

theorem doneR_spec (y0 : Value) : SMem Try.prog 50 [.one (.ptr 0 0)] 1 [(0, .cells (rdC y0 []))] (fun o : Unit => ⟨1, int 0, [(0, .cells (rdC y0 []))]⟩) := by
  refine SMem.inm [] SOK.nil [] MSOK.nil tok mixed [] IOK.nil true [] [] Try.call50 Try.func50 rfl (by rfl) ?_
  refine Eq.mp (α := (∃ o : Unit, (And (And ((0 : Int) = (0 : Int)) True) (And (And (And (SV.view y0 (1 : Nat) (Enc.enc EB) [] = SV.view y0 (1 : Nat) (Enc.enc EB) []) (And ((true : Bool) = true) (And ((0 : Int) = (0 : Int)) True))) (And ((true : Bool) = true) True)) ((true : Bool) = true))))) (by kernel_rfl) ?_
  refine ⟨(), ?_⟩
  repeat' first | exact trivial | refine And.intro ?_ ?_ | with_reducible refine bif_dt (by assumption) ?_ | with_reducible refine bif_df (by assumption) ?_ | with_reducible refine bif_dec (fun _ => ?_) (fun _ => ?_) | with_reducible refine bif_not ?_ | with_reducible refine bif_and ?_ | with_reducible refine bif_or ?_ | with_reducible refine bif_t (by assumption) ?_ | with_reducible refine bif_f (by assumption) ?_ | with_reducible refine bif_t (beq_self_eq_true _) ?_ | with_reducible refine bif_b (fun _ => ?_) (fun _ => ?_) | with_reducible refine ⟨_, Eq.refl (List.map _ _), ?_⟩ | (with_reducible refine Exists.intro (by omega) ?_) | rfl | (intro h0; omega) | omega
theorem doneR_row (y0 : Value) {l : List Int} (h : l = []) : SMem Try.prog 50 [.one (.ptr 0 0)] 1 [(0, .cells (rdC y0 l))] (fun o : Unit => ⟨1, int 0, [(0, .cells (rdC y0 l))]⟩) := by
  subst h
  exact doneR_spec y0
def doneRT : MT := fun ms n h K => match ms with
  | [.one (.ptr P0 0)] => (match get h P0 with
    | some (.cells [s0, .v (.bool true), .v (.int .i64 0)]) => bif noDup [P0] then ∃ (y0 : Value) (l : List Int), ((s0 = .view y0 1 EB.enc l ∧ l = [])) ∧ (∀ o : Unit, K (n + 0) (int 0) ([(P0, .cells (rdC y0 l))] ++ delL [P0] h)) else False
    | _ => False)
  | _ => False
theorem doneR_mono : MMono doneRT := by
  intro ms n h K K' hkk hk
  unfold doneRT at hk ⊢
  split at hk
  · rename_i P0
    split at hk
    · rename_i s0 hg0
      try simp only [hg0]
      obtain ⟨hb, q0, q1, h1, h2⟩ := cond_false_elim hk
      rw [hb]
      exact ⟨q0, q1, h1, fun o => hkk _ _ _ (h2 o)⟩
    · exact hk.elim
  · exact hk.elim
theorem doneR_ok : MOK Try.prog 50 doneRT := by
  refine ⟨?_, doneR_mono⟩
  intro ms n hB K hk
  unfold doneRT at hk
  split at hk
  · rename_i P0
    split at hk
    · rename_i s0 hg0
      obtain ⟨hb, y0, l, h, hk2⟩ := cond_false_elim hk
      clear hk
      obtain ⟨rfl, h⟩ := h
      have hnd := hb
      refine SCall.seen ?_ (.cons (.refl _) .nil)
      exact (doneR_row y0 h).use (fun j => match j with | 0 => P0 | _ => 0) rfl rfl ⟨by show (match get hB P0 with | some b0 => Blk.imp _ _ _ b0 | none => False); rw [hg0]; exact ⟨rfl, rfl⟩, rfl, trivial⟩ hnd (fun j hj => by cases j with
          | zero => exact ⟨_, rfl⟩
          | succ j => omega) (fun o => hk2 o)
    · exact hk.elim
  · exact hk.elim

end Go.Proofs.Ytjdlefkpoggocaa
