/- Sum and Tagged of a book; an act's first part, its length. -/
import Derived.Test.YtblapbjafbmndaaDoorPL1
import Derived.Test.YtblapbjafbmndaaDoorSx24
namespace Go.Proofs.YtblapbjafbmndaaDoor
open Go Go.Sx Go.Sha
set_option linter.unusedVariables false
set_option linter.unusedSimpArgs false
set_option maxRecDepth 100000
set_option maxHeartbeats 4000000

theorem bsum_spec (y : Value) {A : List Nat} {L : Ents} {cs : List ByteArray} {b : List Int} (hb : By b) (hl : b.length ≤ 140737488351232) (hL : L.length ≤ 100000) : SMem Tryd.prog 56 [.one (.ptr 0 0), byV y b] 1 [(0, .obj A [] (bookAbs L cs))]
    (fun A' : List Nat => ⟨1, h32 (shaF b), [(0, .obj A' [] (bookAbs (putB L cs (shaF b) (strOfNums b)).1 (putB L cs (shaF b) (strOfNums b)).2))]⟩) := by
  refine SMem.inm [(17, sumT)] (SOK.cons sum_ok SOK.nil) [(2000060, noT), (60, bputT)] (MSOK.cons noT_ok (MSOK.cons bput_ok MSOK.nil)) tok mixed [] IOK.nil true [] [] Tryd.call56 Tryd.func56 rfl (by rfl) ?_
  refine Eq.mp (α := (∃ b_1 : List Int, (And (List.map (Enc.enc (encInt IntKind.u8)) b = List.map eB b_1) (And (And (∀ x : Int, (∀ a : x ∈ b_1, (And ((0 : Int) ≤ x) (x < (256 : Int))))) (List.length b_1 ≤ (140737488351232 : Nat))) (∃ b_2 : List Int, (And (List.map (Enc.enc (encInt IntKind.u8)) b = List.map eB b_2) (∃ L_1 : Ents, (∃ cs_1 : List ByteArray, (And (And (bookAbs L cs = bookAbs L_1 cs_1) (And (List.length (shaF b_1) = (32 : Nat)) (List.length L_1 ≤ (100000 : Nat)))) (∀ o : List Nat, (∃ o_1 : List Nat, (And (And (And (shaF b = shaF b_1) True) True) (And (And (And (o_1 = o) (And True (bookAbs (Prod.fst (putB L cs (shaF b) (strOfNums b))) (Prod.snd (putB L cs (shaF b) (strOfNums b))) = bookAbs (Prod.fst (putB L_1 cs_1 (shaF b_1) (strOfNums b_2))) (Prod.snd (putB L_1 cs_1 (shaF b_1) (strOfNums b_2)))))) (And ((true : Bool) = true) True)) ((true : Bool) = true)))))))))))))) (by kernel_rfl) ?_
  exact ⟨b, rfl, ⟨hb, hl⟩, b, rfl, L, cs, ⟨rfl, shaF_length b, hL⟩, fun o => ⟨o, ⟨⟨rfl, trivial⟩, trivial⟩, ⟨⟨rfl, trivial, rfl⟩, rfl, trivial⟩, rfl⟩⟩
def bsumT : MT := fun ms n h K => match ms with
  | [.one (.ptr P0 0), .one (.view vx0 ve0 en0 vl0)] => (match get h P0 with
    | some (.obj A [] o0) => bif Nat.beq ve0 1 && noDup [P0] then ∃ b : List (Int), vl0.map en0 = b.map eB ∧ ∃ (L : Ents) (cs : List ByteArray), ((o0 = bookAbs L cs) ∧ By b ∧ b.length ≤ 140737488351232 ∧ L.length ≤ 100000) ∧ (∀ o : List Nat, K (n + 0) (h32 (shaF b)) ([(P0, .obj o [] (bookAbs (putB L cs (shaF b) (strOfNums b)).1 (putB L cs (shaF b) (strOfNums b)).2))] ++ delL [P0] h)) else False
    | _ => False)
  | _ => False
theorem bsum_mono : MMono bsumT := by
  intro ms n h K K' hkk hk
  unfold bsumT at hk ⊢
  split at hk
  · rename_i P0 vx0 ve0 va0 en0 vl0
    split at hk
    · rename_i A o0 hg0
      try simp only [hg0]
      obtain ⟨hb, y0, z0, q0, q1, h1, h2⟩ := cond_false_elim hk
      rw [hb]
      exact ⟨y0, z0, q0, q1, h1, fun o => hkk _ _ _ (h2 o)⟩
    · exact hk.elim
  · exact hk.elim
theorem bsum_ok : MOK Tryd.prog 56 bsumT := by
  refine ⟨?_, bsum_mono⟩
  intro ms n hB K hk
  unfold bsumT at hk
  split at hk
  · rename_i P0 vx0 ve0 va0 en0 vl0
    split at hk
    · rename_i A o0 hg0
      obtain ⟨hb, b, he0, L, cs, h, hk2⟩ := cond_false_elim hk
      clear hk
      obtain ⟨rfl, h⟩ := h
      simp only [Bool.and_eq_true] at hb
      obtain ⟨hc0, hnd⟩ := hb
      have hs0 := Nat.eq_of_beq_eq_true hc0
      subst hs0
      refine SCall.seen ?_ (.cons (.refl _) (.cons (.view he0) .nil))
      exact (bsum_spec _ (A := A) (L := L) (cs := cs) h.1 h.2.1 h.2.2).use (fun j => match j with | 0 => P0 | _ => 0) rfl rfl ⟨by show (match get hB P0 with | some b0 => Blk.imp _ _ _ b0 | none => False); rw [hg0]; exact ⟨rfl, .inl ⟨rfl, rfl⟩, rfl⟩, rfl, trivial⟩ (by exact hnd) (fun j hj => by cases j with
          | zero => exact ⟨_, rfl⟩
          | succ j => omega) (fun o => hk2 o)
    · exact hk.elim
  · exact hk.elim

theorem btagged_spec (x : Value) (t : ByteArray) {l : List BTy} {A : List Nat} {L : Ents} {cs : List ByteArray} (h1 : (l.flatMap fB).length ≤ 140000000000000) (h2 : t.size ≤ 140737488351232) (h3 : ∀ y ∈ l, By (bl y)) (hL : L.length ≤ 100000) : SMem Tryd.prog 58 [.one (.ptr 0 0), str t, bV x l] 1 [(0, .obj A [] (bookAbs L cs))]
    (fun A' : List Nat => ⟨1, h32 (shaF (frm t l)), [(0, .obj A' [] (bookAbs (putB L cs (shaF (frm t l)) (strOfNums (frm t l))).1 (putB L cs (shaF (frm t l)) (strOfNums (frm t l))).2))]⟩) := by
  refine SMem.inm [] SOK.nil [(21, frameT), (2000056, noT), (56, bsumT)] (MSOK.cons frame_ok (MSOK.cons noT_ok (MSOK.cons bsum_ok MSOK.nil))) tok mixed [] IOK.nil true [] [] Tryd.call58 Tryd.func58 rfl (by rfl) ?_
  refine Eq.mp (α := (∃ l_1 : List BTy, (And (List.map (Enc.enc BE) l = List.map eBl l_1) (And (And (List.length (List.flatMap fB l_1) ≤ (140000000000000 : Nat)) (ByteArray.size t ≤ (140737488351232 : Nat))) (∀ y : Value, (∃ b : List Int, (And (List.map (Enc.enc (encInt IntKind.u8)) (frm t l_1) = List.map eB b) (∃ L_1 : Ents, (∃ cs_1 : List ByteArray, (And (And (bookAbs L cs = bookAbs L_1 cs_1) (And (∀ x_1 : Int, (∀ a : x_1 ∈ b, (And ((0 : Int) ≤ x_1) (x_1 < (256 : Int))))) (And (List.length b ≤ (140737488351232 : Nat)) (List.length L_1 ≤ (100000 : Nat))))) (∀ o : List Nat, (∃ o_1 : List Nat, (And (And (And (shaF (frm t l) = shaF b) True) True) (And (And (And (o_1 = o) (And True (bookAbs (Prod.fst (putB L cs (shaF (frm t l)) (strOfNums (frm t l)))) (Prod.snd (putB L cs (shaF (frm t l)) (strOfNums (frm t l)))) = bookAbs (Prod.fst (putB L_1 cs_1 (shaF b) (strOfNums b))) (Prod.snd (putB L_1 cs_1 (shaF b) (strOfNums b)))))) (And ((true : Bool) = true) True)) ((true : Bool) = true))))))))))))))) (by kernel_rfl) ?_
  refine ⟨l, rfl, ⟨h1, h2⟩, fun y => ⟨frm t l, rfl, L, cs, ⟨rfl, frm_By h3, ?_, hL⟩, fun o => ⟨o, ⟨⟨rfl, trivial⟩, trivial⟩, ⟨⟨rfl, trivial, rfl⟩, rfl, trivial⟩, rfl⟩⟩⟩
  have := frm_len t l
  omega
def btaggedT : MT := fun ms n h K => match ms with
  | [.one (.ptr P0 0), .one (.v (.string t)), .one (.view vx0 ve0 en0 vl0)] => (match get h P0 with
    | some (.obj A [] o0) => bif Nat.beq ve0 1 && noDup [P0] then ∃ l : List (BTy), vl0.map en0 = l.map eBl ∧ ∃ (L : Ents) (cs : List ByteArray), ((o0 = bookAbs L cs) ∧ (l.flatMap fB).length ≤ 140000000000000 ∧ t.size ≤ 140737488351232 ∧ (∀ y ∈ l, By (bl y)) ∧ L.length ≤ 100000) ∧ (∀ o : List Nat, K (n + 0) (h32 (shaF (frm t l))) ([(P0, .obj o [] (bookAbs (putB L cs (shaF (frm t l)) (strOfNums (frm t l))).1 (putB L cs (shaF (frm t l)) (strOfNums (frm t l))).2))] ++ delL [P0] h)) else False
    | _ => False)
  | _ => False
theorem btagged_mono : MMono btaggedT := by
  intro ms n h K K' hkk hk
  unfold btaggedT at hk ⊢
  split at hk
  · rename_i P0 t vx0 ve0 va0 en0 vl0
    split at hk
    · rename_i A o0 hg0
      try simp only [hg0]
      obtain ⟨hb, y0, z0, q0, q1, h1, h2⟩ := cond_false_elim hk
      rw [hb]
      exact ⟨y0, z0, q0, q1, h1, fun o => hkk _ _ _ (h2 o)⟩
    · exact hk.elim
  · exact hk.elim
theorem btagged_ok : MOK Tryd.prog 58 btaggedT := by
  refine ⟨?_, btagged_mono⟩
  intro ms n hB K hk
  unfold btaggedT at hk
  split at hk
  · rename_i P0 t vx0 ve0 va0 en0 vl0
    split at hk
    · rename_i A o0 hg0
      obtain ⟨hb, l, he0, L, cs, h, hk2⟩ := cond_false_elim hk
      clear hk
      obtain ⟨rfl, h⟩ := h
      simp only [Bool.and_eq_true] at hb
      obtain ⟨hc0, hnd⟩ := hb
      have hs0 := Nat.eq_of_beq_eq_true hc0
      subst hs0
      refine SCall.seen ?_ (.cons (.refl _) (.cons (.refl _) (.cons (.view he0) .nil)))
      exact (btagged_spec _ t (A := A) (L := L) (cs := cs) h.1 h.2.1 h.2.2.1 h.2.2.2).use (fun j => match j with | 0 => P0 | _ => 0) rfl rfl ⟨by show (match get hB P0 with | some b0 => Blk.imp _ _ _ b0 | none => False); rw [hg0]; exact ⟨rfl, .inl ⟨rfl, rfl⟩, rfl⟩, rfl, trivial⟩ (by exact hnd) (fun j hj => by cases j with
          | zero => exact ⟨_, rfl⟩
          | succ j => omega) (fun o => hk2 o)
    · exact hk.elim
  · exact hk.elim

/-- An act. -/
abbrev opA (kd : Int) (tag : ByteArray) (x : Value) (l : List BTy) (H : List Int) : List SV := [.v (.int .i64 kd), .v (.string tag), .view x 1 BE.enc l, .ints .u8 32 H]
def fstB : List BTy → List Int
  | [] => []
  | y :: _ => bl y
structure LoT (l : List BTy) where
  b : Bool
  h : b = false → l.length ≤ 200 ∧ ∀ y ∈ l, (bl y).length ≤ 4000
structure LiT (l : List BTy) where
  i : Nat
  tot : Nat
  hi : i ≤ l.length
  ht : tot ≤ 9000
  h : tot ≤ 4000 → ∀ y ∈ l.take i, (bl y).length ≤ 4000
theorem blong_spec (kd : Int) (tag : ByteArray) (x : Value) (l : List BTy) {H : List Int} (hl : l.length ≤ 140737488351232) : SMem Tryd.prog 53 [.agg (opA kd tag x l H)] 0 [] (fun o : LoT l => ⟨0, bool o.b, []⟩) := by
  refine SMem.inm [] SOK.nil [] MSOK.nil tok mixed [] IOK.nil false [(3, ⟨LiT l, fun r => ⟨1, [(1, .one (.ptr 0 0)), (3, int r.tot), (4, int r.i)], [(0, .cells (opA kd tag x l H))]⟩, fun r => l.length - r.i, fun _ _ => True⟩)] [] Tryd.call53 Tryd.func53 rfl (by rfl) ?_
  refine Eq.mp (α := (∃ i0 : LiT l, (And (And True (And (And (And ((true : Bool) = true) ((0 : Nat) = (0 : Nat))) (And ((↑(LiT.tot i0) : Int) = (0 : Int)) (And ((↑(LiT.i i0) : Int) = (0 : Int)) True))) (And (And (And (kd = kd) (And (tag = tag) (And (SV.view x (1 : Nat) (Enc.enc BE) l = SV.view x (1 : Nat) (Enc.enc BE) l) (And (H = H) True)))) (And ((true : Bool) = true) True)) ((true : Bool) = true)))) (∀ i : LiT l, (∀ a : True, (@Bool.rec (fun _ => Prop) (@Bool.rec (fun _ => Prop) (∃ o : LoT l, (And (And ((LoT.b o : Bool) = (decide ((200 : Int) < (↑(List.length l) : Int)))) True) (And True ((true : Bool) = true)))) (∃ o : LoT l, (And (And ((LoT.b o : Bool) = (true)) True) (And True ((true : Bool) = true)))) (decide ((4000 : Int) < (↑(LiT.tot i) : Int)))) (@Bool.rec (fun _ => Prop) (@Bool.rec (fun _ => Prop) (∃ o : LoT l, (And (And ((LoT.b o : Bool) = (decide ((200 : Int) < (↑(List.length l) : Int)))) True) (And True ((true : Bool) = true)))) (∃ o : LoT l, (And (And ((LoT.b o : Bool) = (true)) True) (And True ((true : Bool) = true)))) (decide ((4000 : Int) < (↑(LiT.tot i) : Int)))) (And ((0 : Int) ≤ (↑(LiT.i i) : Int)) (∃ hk : Int.toNat (↑(LiT.i i) : Int) < List.length l, (∃ i' : LiT l, (And (And (List.length l - LiT.i i' < List.length l - LiT.i i) True) (And (And (And ((true : Bool) = true) ((0 : Nat) = (0 : Nat))) (And ((↑(LiT.tot i') : Int) = IntKind.wrap IntKind.i64 ((↑(LiT.tot i) : Int) + if (5000 : Int) < (↑(List.length (Prod.snd (Prod.fst l[Int.toNat (↑(LiT.i i) : Int)]))) : Int) then (5000 : Int) else (↑(List.length (Prod.snd (Prod.fst l[Int.toNat (↑(LiT.i i) : Int)]))) : Int))) (And ((↑(LiT.i i') : Int) = IntKind.wrap IntKind.i64 ((↑(LiT.i i) : Int) + (1 : Int))) True))) (And (And (And (kd = kd) (And (tag = tag) (And (SV.view x (1 : Nat) (Enc.enc BE) l = SV.view x (1 : Nat) (Enc.enc BE) l) (And (H = H) True)))) (And ((true : Bool) = true) True)) ((true : Bool) = true))))))) (decide ((↑(LiT.tot i) : Int) ≤ (4000 : Int)))) (decide ((↑(LiT.i i) : Int) < (↑(List.length l) : Int))))))))) (by kernel_rfl) ?_
  refine ⟨⟨0, 0, Nat.zero_le _, by decide, fun _ y hy => by cases hy⟩, ?_, ?_⟩
  ·
    repeat' first | exact trivial | refine And.intro ?_ ?_ | with_reducible refine bif_dt (by assumption) ?_ | with_reducible refine bif_df (by assumption) ?_ | with_reducible refine bif_dec (fun _ => ?_) (fun _ => ?_) | with_reducible refine bif_not ?_ | with_reducible refine bif_and ?_ | with_reducible refine bif_or ?_ | with_reducible refine bif_t (by assumption) ?_ | with_reducible refine bif_f (by assumption) ?_ | with_reducible refine bif_t (beq_self_eq_true _) ?_ | with_reducible refine bif_b (fun _ => ?_) (fun _ => ?_) | with_reducible refine ⟨_, Eq.refl (List.map _ _), ?_⟩ | (with_reducible refine Exists.intro (by omega) ?_) | rfl | (intro h0; omega) | omega
  rintro ⟨i, tot, hi, ht, h⟩ -
  dsimp only
  have over : 4000 < tot → ∃ o : LoT l, (o.b = true ∧ True) ∧ True ∧ true = true := fun _ => ⟨⟨true, fun h => by cases h⟩, ⟨rfl, trivial⟩, trivial, rfl⟩
  have fine : i = l.length → tot ≤ 4000 → ∃ o : LoT l, (o.b = decide (200 < (l.length : Int)) ∧ True) ∧ True ∧ true = true := fun e1 e2 => ⟨⟨decide (200 < (l.length : Int)), fun h3 => by
    have h3 := of_decide_eq_false h3
    refine ⟨by omega, fun y hy => h e2 y ?_⟩
    rw [e1, List.take_length]
    exact hy⟩, ⟨rfl, trivial⟩, trivial, rfl⟩
  refine bif_dec (fun h1 => ?_) (fun h1 => ?_)
  rotate_left
  · refine bif_dec (fun h2 => over (by omega)) (fun h2 => fine (by omega) (by omega))
  refine bif_dec (fun h2 => ?_) (fun h2 => ?_)
  rotate_left
  · refine bif_dec (fun h3 => over (by omega)) (fun h3 => absurd h3 (by omega))
  have hi' : i < l.length := by omega
  have hw : IntKind.i64.wrap ((i : Int) + 1) = ((i + 1 : Nat) : Int) := inext (by omega)
  have hbl := bl_length l[i]
  have e : (if (5000 : Int) < ((l[i].1.2.length : Nat) : Int) then 5000 else ((l[i].1.2.length : Nat) : Int)) = ((min l[i].1.2.length 5000 : Nat) : Int) := by split <;> omega
  simp only [Int.toNat_natCast, hw, e]
  have hw2 : IntKind.i64.wrap ((tot : Int) + ((min l[i].1.2.length 5000 : Nat) : Int)) = ((tot + min l[i].1.2.length 5000 : Nat) : Int) := by rw [wrap64 (by omega) (by omega)]; omega
  rw [hw2]
  refine ⟨by omega, hi', ⟨i + 1, tot + min l[i].1.2.length 5000, hi', by omega, fun h3 y hy => ?_⟩, ⟨show l.length - (i + 1) < l.length - i by omega, trivial⟩, ?_⟩
  · rw [List.take_add_one, List.getElem?_eq_getElem hi'] at hy
    rcases List.mem_append.1 hy with hy | hy
    · exact h (by omega) y hy
    · have : y = l[i] := by simpa using hy
      rw [this, hbl]
      omega
  ·
    repeat' first | exact trivial | refine And.intro ?_ ?_ | with_reducible refine bif_dt (by assumption) ?_ | with_reducible refine bif_df (by assumption) ?_ | with_reducible refine bif_dec (fun _ => ?_) (fun _ => ?_) | with_reducible refine bif_not ?_ | with_reducible refine bif_and ?_ | with_reducible refine bif_or ?_ | with_reducible refine bif_t (by assumption) ?_ | with_reducible refine bif_f (by assumption) ?_ | with_reducible refine bif_t (beq_self_eq_true _) ?_ | with_reducible refine bif_b (fun _ => ?_) (fun _ => ?_) | with_reducible refine ⟨_, Eq.refl (List.map _ _), ?_⟩ | (with_reducible refine Exists.intro (by omega) ?_) | rfl | (intro h0; omega) | omega
def blongT : MT := fun ms n h K => match ms with
  | [.agg [.v (.int .i64 kd), .v (.string tag), .view vx0 ve0 en0 vl0, .ints .u8 32 H]] => bif Nat.beq ve0 1 && noDup [] then ∃ l : List (BTy), vl0.map en0 = l.map eBl ∧ (l.length ≤ 140737488351232) ∧ (∀ o : LoT l, K (n + 0) (bool o.b) ([] ++ delL [] h)) else False
  | _ => False
theorem blong_mono : MMono blongT := by
  intro ms n h K K' hkk hk
  unfold blongT at hk ⊢
  split at hk
  · rename_i kd tag vx0 ve0 va0 en0 vl0 H
    obtain ⟨hb, y0, z0, h1, h2⟩ := cond_false_elim hk
    rw [hb]
    exact ⟨y0, z0, h1, fun o => hkk _ _ _ (h2 o)⟩
  · exact hk.elim
theorem blong_ok : MOK Tryd.prog 53 blongT := by
  refine ⟨?_, blong_mono⟩
  intro ms n hB K hk
  unfold blongT at hk
  split at hk
  · rename_i kd tag vx0 ve0 va0 en0 vl0 H
    obtain ⟨hb, l, he0, h, hk2⟩ := cond_false_elim hk
    clear hk
    simp only [Bool.and_eq_true] at hb
    obtain ⟨hc0, hnd⟩ := hb
    have hs0 := Nat.eq_of_beq_eq_true hc0
    subst hs0
    refine SCall.seen ?_ (.cons (.agg (.refl (.refl (.view he0 (.refl .nil))))) .nil)
    exact (blong_spec _ _ _ _ h).use (fun _ => 0) rfl rfl trivial (by exact hnd) (fun j hj => absurd hj (Nat.not_lt_zero j)) (fun o => hk2 o)
  · exact hk.elim

abbrev EI : Enc (RK.TL [.int .u8]) := encRec [.int .u8]
def fstL : List BTy → List (RK.TL [.int .u8])
  | [] => []
  | y :: _ => bsl y
theorem fstL_enc (l : List BTy) : List.map EI.enc (fstL l) = List.map eB (fstB l) := by
  cases l with
  | nil => rfl
  | cons y r => exact (bl_enc y).symm
theorem bfirst_spec (kd : Int) (tag : ByteArray) (x : Value) (l : List BTy) {H : List Int} (hl : l.length ≤ 140737488351232) : SMem Tryd.prog 57 [.agg (opA kd tag x l H)] 0 [] (fun y : Value => ⟨0, .one (.view y 1 EI.enc (fstL l)), []⟩) := by
  refine SMem.inf 1 EI [] SOK.nil [] MSOK.nil tok mixed [] IOK.nil true [] [] Tryd.call57 Tryd.func57 rfl (by rfl) ?_
  refine Eq.mp (α := (@Bool.rec (fun _ => Prop) (And ((0 : Int) ≤ (0 : Int)) (∃ hk : Int.toNat (0 : Int) < List.length l, (∃ o : Value, (And (And (SV.view o (1 : Nat) (Enc.enc EI) (fstL l) = nilV (1 : Nat) EI (RK.sv._f (RK.sl (1 : Nat) [RK.int IntKind.u8]) ⟨RK.svs._f [RK.int IntKind.u8] ⟨⟨RK.sv._f (RK.int IntKind.u8) PUnit.unit, PUnit.unit⟩, RK.svs._f [] PUnit.unit, PUnit.unit⟩, ⟨RK.sv._f (RK.int IntKind.u8) PUnit.unit, PUnit.unit⟩, RK.svs._f [] PUnit.unit, PUnit.unit⟩ (Prod.fst l[Int.toNat (0 : Int)]))) True) (And True ((true : Bool) = true)))))) (∃ o : Value, (And (And (SV.view o (1 : Nat) (Enc.enc EI) (fstL l) = nilV (1 : Nat) EI (SV.v (Value.slice none (0 : Nat) (0 : Nat)))) True) (And True ((true : Bool) = true)))) ((↑(List.length l) : Int) == (0 : Int)))) (by kernel_rfl) ?_
  refine bif_b (fun h0 => ?_) (fun h0 => ?_)
  · have h1 : l = [] := List.length_eq_zero_iff.1 (by have := beq_iff_eq.1 h0; omega)
    subst h1
    exact ⟨.slice none 0 0, ⟨rfl, trivial⟩, trivial, rfl⟩
  · cases l with
    | nil => cases h0
    | cons y r => exact ⟨by decide, Nat.succ_pos _, y.1.1, ⟨rfl, trivial⟩, trivial, rfl⟩
def bfirstT : MT := fun ms n h K => match ms with
  | [.agg [.v (.int .i64 kd), .v (.string tag), .view vx0 ve0 en0 vl0, .ints .u8 32 H]] => bif Nat.beq ve0 1 && noDup [] then ∃ l : List (BTy), vl0.map en0 = l.map eBl ∧ (l.length ≤ 140737488351232) ∧ (∀ y : Value, K (n + 0) (.one (.view y 1 EI.enc (fstL l))) ([] ++ delL [] h)) else False
  | _ => False
theorem bfirst_mono : MMono bfirstT := by
  intro ms n h K K' hkk hk
  unfold bfirstT at hk ⊢
  split at hk
  · rename_i kd tag vx0 ve0 va0 en0 vl0 H
    obtain ⟨hb, y0, z0, h1, h2⟩ := cond_false_elim hk
    rw [hb]
    exact ⟨y0, z0, h1, fun o => hkk _ _ _ (h2 o)⟩
  · exact hk.elim
theorem bfirst_ok : MOK Tryd.prog 57 bfirstT := by
  refine ⟨?_, bfirst_mono⟩
  intro ms n hB K hk
  unfold bfirstT at hk
  split at hk
  · rename_i kd tag vx0 ve0 va0 en0 vl0 H
    obtain ⟨hb, l, he0, h, hk2⟩ := cond_false_elim hk
    clear hk
    simp only [Bool.and_eq_true] at hb
    obtain ⟨hc0, hnd⟩ := hb
    have hs0 := Nat.eq_of_beq_eq_true hc0
    subst hs0
    refine SCall.seen ?_ (.cons (.agg (.refl (.refl (.view he0 (.refl .nil))))) .nil)
    exact (bfirst_spec _ _ _ _ h).use (fun _ => 0) rfl rfl trivial (by exact hnd) (fun j hj => absurd hj (Nat.not_lt_zero j)) (fun o => hk2 o)
  · exact hk.elim

theorem bnum_spec (n : Int) : SFun Tryd.prog 59 [int n] (int n) := by
  refine SFun.inm [] SOK.nil [] MSOK.nil tok mixed [] IOK.nil true [] [] Tryd.call59 Tryd.func59 rfl (by rfl) ?_
  refine Eq.mp (α := (And (M.one (SV.v (Value.int IntKind.i64 n)) = M.one (SV.v (Value.int IntKind.i64 n))) ((true : Bool) = true))) (by kernel_rfl) ?_
  repeat' first | exact trivial | refine And.intro ?_ ?_ | with_reducible refine bif_dt (by assumption) ?_ | with_reducible refine bif_df (by assumption) ?_ | with_reducible refine bif_dec (fun _ => ?_) (fun _ => ?_) | with_reducible refine bif_not ?_ | with_reducible refine bif_and ?_ | with_reducible refine bif_or ?_ | with_reducible refine bif_t (by assumption) ?_ | with_reducible refine bif_f (by assumption) ?_ | with_reducible refine bif_t (beq_self_eq_true _) ?_ | with_reducible refine bif_b (fun _ => ?_) (fun _ => ?_) | with_reducible refine ⟨_, Eq.refl (List.map _ _), ?_⟩ | (with_reducible refine Exists.intro (by omega) ?_) | rfl | (intro h0; omega) | omega
def bnumT : List M → (M → Prop) → Prop
  | [.one (.v (.int .i64 n))], K => K (int n)
  | _, _ => False
theorem bnum_ok : POK Tryd.prog 59 bnumT := by
  intro ms K h
  unfold bnumT at h ⊢
  split at h
  · exact ⟨_, h, (bnum_spec _), rfl, fun _ hk => hk⟩
  · exact h.elim

end Go.Proofs.YtblapbjafbmndaaDoor

namespace Go.Proofs.YtblapbjafbmndaaDoor
open Go Go.Sx Go.Sha
set_option linter.unusedVariables false
set_option linter.unusedSimpArgs false
set_option maxRecDepth 100000
set_option maxHeartbeats 4000000

instance {k : IntKind} {n : Nat} : BEq (RK.T (.ints k n)) := inferInstanceAs (BEq (List Int))
abbrev ETy := RK.TL [.ints .u8 32, .str]
def eT : Enc ETy := encRec [.ints .u8 32, .str]
def entM (x : List Int × ByteArray) : ETy := (x.1, (x.2, ()))
def entR (L : Ents) : List ETy := L.map entM
theorem entR_length (L : Ents) : (entR L).length = L.length := by
  unfold entR
  exact List.length_map _
theorem entR_at (L : Ents) {i : Nat} (hi : i < (entR L).length) : (entR L)[i] = entM (L[i]'(by rw [entR_length] at hi; exact hi)) := List.getElem_map (l := L) entM
theorem entR_append (L M : Ents) : entR (L ++ M) = entR L ++ entR M := List.map_append (l₁ := L) (l₂ := M) (f := entM)
def putL (L : Ents) (h : List Int) (s : ByteArray) : Ents := if putE L h s = 0 then L ++ [(h, s)] else L
theorem putB_fst (L : Ents) (cs : List ByteArray) (h : List Int) (s : ByteArray) : (putB L cs h s).1 = putL L h s := by
  unfold putB putL
  split <;> rfl
def hdS : List ByteArray → ByteArray
  | a :: _ => a
  | [] => .empty
theorem under_append (L M : Ents) (h : List Int) : under (L ++ M) h = under L h ++ under M h := by simp [under]
theorem under_one (h k : List Int) (s : ByteArray) : under [(k, s)] h = if k = h then [s] else [] := by
  unfold under
  split
  · rename_i e; simp [e]
  · rename_i e; simp [e]
theorem under_take {L : Ents} {i : Nat} (hi : i < L.length) (h : List Int) : under (L.take (i + 1)) h = under (L.take i) h ++ if L[i].1 = h then [L[i].2] else [] := by
  rw [List.take_add_one, List.getElem?_eq_getElem hi, Option.toList_some, under_append]
  exact congrArg _ (under_one h L[i].1 L[i].2)
theorem under_split {L : Ents} {i : Nat} (hi : i < L.length) (h : List Int) : under L h = under (L.take i) h ++ ((if L[i].1 = h then [L[i].2] else []) ++ under (L.drop (i + 1)) h) := by
  conv => lhs; rw [← List.take_append_drop (i + 1) L]
  rw [under_append, under_take hi, List.append_assoc]
theorem ent_b {L : Ents} {i : Nat} (hi' : i < L.length) (hr : i < (entR L).length) (h : List Int) : ((entR L)[i].1 == h) = decide (L[i].1 = h) := by
  have e : ((entR L)[i]).1 = L[i].1 := congrArg (fun x : ETy => x.1) (entR_at L hr)
  rw [e, Bool.eq_iff_iff, decide_eq_true_iff]
  exact beq_iff_eq (α := List Int)
theorem ent_s {L : Ents} {i : Nat} (hi' : i < L.length) (hr : i < (entR L).length) : (entR L)[i].2.1 = L[i].2 := congrArg (fun x : ETy => x.2.1) (entR_at L hr)
theorem ent_sb {L : Ents} {i : Nat} (hi' : i < L.length) (hr : i < (entR L).length) (s : ByteArray) : (ByteArray.toList (entR L)[i].2.1 == s.toList) = decide (s = L[i].2) := by
  rw [ent_s hi' hr, beq_ba]
  exact decide_eq_decide.2 ⟨fun h => h.symm, fun h => h.symm⟩
theorem hasS_append (s : ByteArray) : ∀ l m : List ByteArray, hasS s (l ++ m) = (hasS s l || hasS s m)
  | [], _ => rfl
  | x :: r, m => by
    show (decide (s = x) || hasS s (r ++ m)) = ((decide (s = x) || hasS s r) || hasS s m)
    rw [hasS_append s r m, Bool.or_assoc]
structure SkT (L : Ents) (h : List Int) where
  i : Nat
  hi : i ≤ L.length
  hu : under (L.take i) h = []
theorem rseek_spec {L : Ents} {h : List Int} {cap : Nat} (hh : h.length = 32) (hL : L.length ≤ 100000) : SMem Tryd.prog 96 [.one (.ptr 0 0), h32 h] 2 [(0, .cells [.nslc 1 33 L.length cap]), (1, .row 33 eT (entR L) cap)]
    (fun _ : Unit => ⟨2, .tup [str (hdS (under L h)), bool (!(under L h).isEmpty)], [(0, .cells [.nslc 1 33 L.length cap]), (1, .row 33 eT (entR L) cap)]⟩) := by
  refine SMem.inm [] SOK.nil [] MSOK.nil tok mixed [] IOK.nil false [(2, ⟨SkT L h, fun p => ⟨3, [(0, .one (.ptr 0 0)), (3, .one (.ptr 2 0)), (6, int p.i)], [(0, .cells [.nslc 1 33 L.length cap]), (1, .row 33 eT (entR L) cap), (2, .cells [.ints .u8 32 h])]⟩, fun p => L.length - p.i, fun _ _ => True⟩)] [] Tryd.call96 Tryd.func96 rfl (by rfl) ?_
  refine Eq.mp (α := (∃ i0 : SkT L h, (And (And True (And (And (And ((true : Bool) = true) ((0 : Nat) = (0 : Nat))) (And (And ((true : Bool) = true) ((0 : Nat) = (0 : Nat))) (And ((↑(SkT.i i0) : Int) = (0 : Int)) True))) (And (And (And (And ((true : Bool) = true) (And (List.length L = List.length L) (cap = cap))) True) (And ((true : Bool) = true) (And (And ((true : Bool) = true) (And (cap = cap) (And (List.map (Enc.enc eT) (entR L) = List.map (Enc.enc eT) (entR L)) (∀ x : ETy, (∀ a : x ∈ entR L, (∀ s : SV, (∀ a_1 : s ∈ Enc.enc eT x, ((SV.isPure s : Bool) = (true))))))))) (And ((true : Bool) = true) (And (And (h = h) True) (And ((true : Bool) = true) True)))))) ((true : Bool) = true)))) (∀ i : SkT L h, (∀ a : True, (@Bool.rec (fun _ => Prop) (∃ o : Unit, (And (And (And (hdS (under L h) = { data := #[] }) (And ((!List.isEmpty (under L h) : Bool) = (false)) True)) True) (And (And (And (And ((true : Bool) = true) (And (List.length L = List.length L) (cap = cap))) True) (And ((true : Bool) = true) (And (And ((true : Bool) = true) (And (cap = cap) (And (List.map (Enc.enc eT) (entR L) = List.map (Enc.enc eT) (entR L)) (∀ x : ETy, (∀ a_1 : x ∈ entR L, (∀ s : SV, (∀ a_2 : s ∈ Enc.enc eT x, ((SV.isPure s : Bool) = (true))))))))) (And ((true : Bool) = true) True)))) ((true : Bool) = true)))) (And ((0 : Int) ≤ (↑(SkT.i i) : Int)) (And (Int.toNat (↑(SkT.i i) : Int) < List.length L) (∃ hi : Int.toNat (↑(SkT.i i) : Int) < List.length (entR L), (@Bool.rec (fun _ => Prop) (∃ i' : SkT L h, (And (And (List.length L - SkT.i i' < List.length L - SkT.i i) True) (And (And (And ((true : Bool) = true) ((0 : Nat) = (0 : Nat))) (And (And ((true : Bool) = true) ((0 : Nat) = (0 : Nat))) (And ((↑(SkT.i i') : Int) = IntKind.wrap IntKind.i64 ((↑(SkT.i i) : Int) + (1 : Int))) True))) (And (And (And (And ((true : Bool) = true) (And (List.length L = List.length L) (cap = cap))) True) (And ((true : Bool) = true) (And (And ((true : Bool) = true) (And (cap = cap) (And (List.map (Enc.enc eT) (entR L) = List.map (Enc.enc eT) (entR L)) (∀ x : ETy, (∀ a_1 : x ∈ entR L, (∀ s : SV, (∀ a_2 : s ∈ Enc.enc eT x, ((SV.isPure s : Bool) = (true))))))))) (And ((true : Bool) = true) (And (And (h = h) True) (And ((true : Bool) = true) True)))))) ((true : Bool) = true))))) (And ((0 : Int) ≤ (↑(SkT.i i) : Int)) (And (Int.toNat (↑(SkT.i i) : Int) < List.length L) (∃ hi_1 : Int.toNat (↑(SkT.i i) : Int) < List.length (entR L), (∃ o : Unit, (And (And (And (hdS (under L h) = Prod.fst (Prod.snd (entR L)[Int.toNat (↑(SkT.i i) : Int)])) (And ((!List.isEmpty (under L h) : Bool) = (true)) True)) True) (And (And (And (And ((true : Bool) = true) (And (List.length L = List.length L) (cap = cap))) True) (And ((true : Bool) = true) (And (And ((true : Bool) = true) (And (cap = cap) (And (List.map (Enc.enc eT) (entR L) = List.map (Enc.enc eT) (entR L)) (∀ x : ETy, (∀ a_1 : x ∈ entR L, (∀ s : SV, (∀ a_2 : s ∈ Enc.enc eT x, ((SV.isPure s : Bool) = (true))))))))) (And ((true : Bool) = true) True)))) ((true : Bool) = true))))))) (Prod.fst (entR L)[Int.toNat (↑(SkT.i i) : Int)] == h))))) (decide ((↑(SkT.i i) : Int) < (↑(List.length L) : Int))))))))) (by kernel_rfl) ?_
  have hw : ∀ i : Nat, i < L.length → IntKind.i64.wrap ((i : Int) + 1) = ((i + 1 : Nat) : Int) := fun i hi => inext (by omega)
  refine ⟨⟨0, Nat.zero_le _, rfl⟩, ?_, ?_⟩
  ·
    repeat' first | exact fun x _ => Enc.pures eT x | exact trivial | refine And.intro ?_ ?_ | with_reducible refine bif_dt (by assumption) ?_ | with_reducible refine bif_df (by assumption) ?_ | with_reducible refine bif_dec (fun _ => ?_) (fun _ => ?_) | with_reducible refine bif_not ?_ | with_reducible refine bif_and ?_ | with_reducible refine bif_or ?_ | with_reducible refine bif_t (by assumption) ?_ | with_reducible refine bif_f (by assumption) ?_ | with_reducible refine bif_t (beq_self_eq_true _) ?_ | with_reducible refine bif_b (fun _ => ?_) (fun _ => ?_) | with_reducible refine ⟨_, Eq.refl (List.map _ _), ?_⟩ | (with_reducible refine Exists.intro (by omega) ?_) | rfl | (intro h0; omega) | omega
  rintro ⟨i, hi, hu⟩ -
  dsimp only
  refine bif_dec (fun h1 => ?_) (fun h1 => ?_)
  rotate_left
  · have hil : i = L.length := by omega
    subst hil
    rw [List.take_length] at hu
    refine ⟨(), ?_⟩
    rw [hu]
    repeat' first | exact fun x _ => Enc.pures eT x | exact trivial | refine And.intro ?_ ?_ | with_reducible refine bif_dt (by assumption) ?_ | with_reducible refine bif_df (by assumption) ?_ | with_reducible refine bif_dec (fun _ => ?_) (fun _ => ?_) | with_reducible refine bif_not ?_ | with_reducible refine bif_and ?_ | with_reducible refine bif_or ?_ | with_reducible refine bif_t (by assumption) ?_ | with_reducible refine bif_f (by assumption) ?_ | with_reducible refine bif_t (beq_self_eq_true _) ?_ | with_reducible refine bif_b (fun _ => ?_) (fun _ => ?_) | with_reducible refine ⟨_, Eq.refl (List.map _ _), ?_⟩ | (with_reducible refine Exists.intro (by omega) ?_) | rfl | (intro h0; omega) | omega
  have hi' : i < L.length := by omega
  have hr : i < (entR L).length := by rw [entR_length]; exact hi'
  have hus := under_split hi' h
  rw [hu, List.nil_append] at hus
  refine ⟨by omega, by omega, by rw [Int.toNat_natCast]; exact hr, ?_⟩
  simp only [Int.toNat_natCast, hw i hi', ent_b hi' hr h]
  refine bif_dec (fun h2 => ?_) (fun h2 => ?_)
  · rw [if_pos h2] at hus
    refine ⟨by omega, hi', hr, (), ⟨⟨by rw [hus]; exact (ent_s hi' hr).symm, by rw [hus]; rfl, trivial⟩, trivial⟩, ?_⟩
    repeat' first | exact fun x _ => Enc.pures eT x | exact trivial | refine And.intro ?_ ?_ | with_reducible refine bif_dt (by assumption) ?_ | with_reducible refine bif_df (by assumption) ?_ | with_reducible refine bif_dec (fun _ => ?_) (fun _ => ?_) | with_reducible refine bif_not ?_ | with_reducible refine bif_and ?_ | with_reducible refine bif_or ?_ | with_reducible refine bif_t (by assumption) ?_ | with_reducible refine bif_f (by assumption) ?_ | with_reducible refine bif_t (beq_self_eq_true _) ?_ | with_reducible refine bif_b (fun _ => ?_) (fun _ => ?_) | with_reducible refine ⟨_, Eq.refl (List.map _ _), ?_⟩ | (with_reducible refine Exists.intro (by omega) ?_) | rfl | (intro h0; omega) | omega
  · refine ⟨⟨i + 1, hi', by rw [under_take hi', hu, if_neg h2]; rfl⟩, ⟨show L.length - (i + 1) < L.length - i by omega, trivial⟩, ?_⟩
    repeat' first | exact fun x _ => Enc.pures eT x | exact trivial | refine And.intro ?_ ?_ | with_reducible refine bif_dt (by assumption) ?_ | with_reducible refine bif_df (by assumption) ?_ | with_reducible refine bif_dec (fun _ => ?_) (fun _ => ?_) | with_reducible refine bif_not ?_ | with_reducible refine bif_and ?_ | with_reducible refine bif_or ?_ | with_reducible refine bif_t (by assumption) ?_ | with_reducible refine bif_f (by assumption) ?_ | with_reducible refine bif_t (beq_self_eq_true _) ?_ | with_reducible refine bif_b (fun _ => ?_) (fun _ => ?_) | with_reducible refine ⟨_, Eq.refl (List.map _ _), ?_⟩ | (with_reducible refine Exists.intro (by omega) ?_) | rfl | (intro h0; omega) | omega
structure RpT (L : Ents) (h : List Int) (s : ByteArray) where
  i : Nat
  hi : i ≤ L.length
  hu : hasS s (under (L.take i) h) = false
theorem rput_spec {L : Ents} {h : List Int} (s : ByteArray) {cap : Nat} (hh : h.length = 32) (hL : L.length ≤ 100000) (hc : L.length ≤ cap) : SMem Tryd.prog 95 [.one (.ptr 0 0), h32 h, str s] 2 [(0, .cells [.nslc 1 33 L.length cap]), (1, .row 33 eT (entR L) cap)]
    (fun c : CapT (putL L h s).length => ⟨3, int (putE L h s), [(0, .cells [.nslc 2 33 (putL L h s).length c.cap]), (2, .row 33 eT (entR (putL L h s)) c.cap)]⟩) := by
  refine SMem.inm [] SOK.nil [] MSOK.nil tok mixed [] IOK.nil false [(2, ⟨RpT L h s, fun p => ⟨3, [(0, .one (.ptr 0 0)), (2, str s), (4, .one (.ptr 2 0)), (7, int p.i)], [(0, .cells [.nslc 1 33 L.length cap]), (1, .row 33 eT (entR L) cap), (2, .cells [.ints .u8 32 h])]⟩, fun p => L.length - p.i, fun _ _ => True⟩)] [] Tryd.call95 Tryd.func95 rfl (by rfl) ?_
  refine Eq.mp (α := (∃ i0 : RpT L h s, (And (And True (And (And (And ((true : Bool) = true) ((0 : Nat) = (0 : Nat))) (And (s = s) (And (And ((true : Bool) = true) ((0 : Nat) = (0 : Nat))) (And ((↑(RpT.i i0) : Int) = (0 : Int)) True)))) (And (And (And (And ((true : Bool) = true) (And (List.length L = List.length L) (cap = cap))) True) (And ((true : Bool) = true) (And (And ((true : Bool) = true) (And (cap = cap) (And (List.map (Enc.enc eT) (entR L) = List.map (Enc.enc eT) (entR L)) (∀ x : ETy, (∀ a : x ∈ entR L, (∀ s_1 : SV, (∀ a_1 : s_1 ∈ Enc.enc eT x, ((SV.isPure s_1 : Bool) = (true))))))))) (And ((true : Bool) = true) (And (And (h = h) True) (And ((true : Bool) = true) True)))))) ((true : Bool) = true)))) (∀ i : RpT L h s, (∀ a : True, (@Bool.rec (fun _ => Prop) (@Bool.rec (fun _ => Prop) (And (List.length L = List.length (entR L)) (And (cap = cap) (And ((0 : Nat) + (1 : Nat) ≤ (1 : Nat)) (And ((List.length (entR L) + (1 : Nat)) * (48 : Nat) ≤ (150000000000000 : Nat)) (∀ cap2 : Nat, (∀ a_1 : List.length (entR L) + (1 : Nat) ≤ cap2, (∃ o : CapT (List.length (putL L h s)), (And (And (putE L h s = (0 : Int)) True) (And (And (And (And ((true : Bool) = true) (And (List.length (putL L h s) = List.length (entR L ++ castL (encRec [RK.ints IntKind.u8 (32 : Nat), RK.str]) eT (List.take (1 : Nat) (List.drop (0 : Nat) [Enc.of (encRec [RK.ints IntKind.u8 (32 : Nat), RK.str]) (h, s, ())])))) (CapT.cap o = cap2))) True) (And ((true : Bool) = true) (And (And ((true : Bool) = true) (And (CapT.cap o = cap2) (And (List.map (Enc.enc eT) (entR (putL L h s)) = List.map (Enc.enc eT) (entR L ++ castL (encRec [RK.ints IntKind.u8 (32 : Nat), RK.str]) eT (List.take (1 : Nat) (List.drop (0 : Nat) [Enc.of (encRec [RK.ints IntKind.u8 (32 : Nat), RK.str]) (h, s, ())])))) (∀ x : ETy, (∀ a_2 : x ∈ entR (putL L h s), (∀ s_1 : SV, (∀ a_3 : s_1 ∈ Enc.enc eT x, ((SV.isPure s_1 : Bool) = (true))))))))) (And ((true : Bool) = true) True)))) ((true : Bool) = true)))))))))) (∃ o : CapT (List.length (putL L h s)), (And (And (putE L h s = (6 : Int)) True) (And (And (And (And ((true : Bool) = true) (And (List.length (putL L h s) = List.length L) (CapT.cap o = cap))) True) (And ((true : Bool) = true) (And (And ((true : Bool) = true) (And (CapT.cap o = cap) (And (List.map (Enc.enc eT) (entR (putL L h s)) = List.map (Enc.enc eT) (entR L)) (∀ x : ETy, (∀ a_1 : x ∈ entR (putL L h s), (∀ s_1 : SV, (∀ a_2 : s_1 ∈ Enc.enc eT x, ((SV.isPure s_1 : Bool) = (true))))))))) (And ((true : Bool) = true) True)))) ((true : Bool) = true)))) (decide ((65536 : Int) ≤ (↑(List.length L) : Int)))) (And ((0 : Int) ≤ (↑(RpT.i i) : Int)) (And (Int.toNat (↑(RpT.i i) : Int) < List.length L) (∃ hi : Int.toNat (↑(RpT.i i) : Int) < List.length (entR L), (@Bool.rec (fun _ => Prop) (∃ i' : RpT L h s, (And (And (List.length L - RpT.i i' < List.length L - RpT.i i) True) (And (And (And ((true : Bool) = true) ((0 : Nat) = (0 : Nat))) (And (s = s) (And (And ((true : Bool) = true) ((0 : Nat) = (0 : Nat))) (And ((↑(RpT.i i') : Int) = IntKind.wrap IntKind.i64 ((↑(RpT.i i) : Int) + (1 : Int))) True)))) (And (And (And (And ((true : Bool) = true) (And (List.length L = List.length L) (cap = cap))) True) (And ((true : Bool) = true) (And (And ((true : Bool) = true) (And (cap = cap) (And (List.map (Enc.enc eT) (entR L) = List.map (Enc.enc eT) (entR L)) (∀ x : ETy, (∀ a_1 : x ∈ entR L, (∀ s_1 : SV, (∀ a_2 : s_1 ∈ Enc.enc eT x, ((SV.isPure s_1 : Bool) = (true))))))))) (And ((true : Bool) = true) (And (And (h = h) True) (And ((true : Bool) = true) True)))))) ((true : Bool) = true))))) (And ((0 : Int) ≤ (↑(RpT.i i) : Int)) (And (Int.toNat (↑(RpT.i i) : Int) < List.length L) (∃ hi_1 : Int.toNat (↑(RpT.i i) : Int) < List.length (entR L), (@Bool.rec (fun _ => Prop) (∃ i' : RpT L h s, (And (And (List.length L - RpT.i i' < List.length L - RpT.i i) True) (And (And (And ((true : Bool) = true) ((0 : Nat) = (0 : Nat))) (And (s = s) (And (And ((true : Bool) = true) ((0 : Nat) = (0 : Nat))) (And ((↑(RpT.i i') : Int) = IntKind.wrap IntKind.i64 ((↑(RpT.i i) : Int) + (1 : Int))) True)))) (And (And (And (And ((true : Bool) = true) (And (List.length L = List.length L) (cap = cap))) True) (And ((true : Bool) = true) (And (And ((true : Bool) = true) (And (cap = cap) (And (List.map (Enc.enc eT) (entR L) = List.map (Enc.enc eT) (entR L)) (∀ x : ETy, (∀ a_1 : x ∈ entR L, (∀ s_1 : SV, (∀ a_2 : s_1 ∈ Enc.enc eT x, ((SV.isPure s_1 : Bool) = (true))))))))) (And ((true : Bool) = true) (And (And (h = h) True) (And ((true : Bool) = true) True)))))) ((true : Bool) = true))))) (∃ o : CapT (List.length (putL L h s)), (And (And (putE L h s = (4 : Int)) True) (And (And (And (And ((true : Bool) = true) (And (List.length (putL L h s) = List.length L) (CapT.cap o = cap))) True) (And ((true : Bool) = true) (And (And ((true : Bool) = true) (And (CapT.cap o = cap) (And (List.map (Enc.enc eT) (entR (putL L h s)) = List.map (Enc.enc eT) (entR L)) (∀ x : ETy, (∀ a_1 : x ∈ entR (putL L h s), (∀ s_1 : SV, (∀ a_2 : s_1 ∈ Enc.enc eT x, ((SV.isPure s_1 : Bool) = (true))))))))) (And ((true : Bool) = true) True)))) ((true : Bool) = true)))) (ByteArray.toList (Prod.fst (Prod.snd (entR L)[Int.toNat (↑(RpT.i i) : Int)])) == ByteArray.toList s))))) (Prod.fst (entR L)[Int.toNat (↑(RpT.i i) : Int)] == h))))) (decide ((↑(RpT.i i) : Int) < (↑(List.length L) : Int))))))))) (by kernel_rfl) ?_
  have hw : ∀ i : Nat, i < L.length → IntKind.i64.wrap ((i : Int) + 1) = ((i + 1 : Nat) : Int) := fun i hi => inext (by omega)
  have hrl := entR_length L
  have eapp : entR L ++ castL (encRec [RK.ints .u8 32, RK.str]) eT (List.take 1 (List.drop 0 [(encRec [RK.ints .u8 32, RK.str]).of (h, s, ())])) = entR (L ++ [(h, s)]) := by
    rw [entR_append, List.drop_zero, List.take_succ_cons, List.take_zero]
    exact congrArg _ (castL_self eT _ rfl)
  have elen : (entR (L ++ [(h, s)])).length = (L ++ [(h, s)]).length := entR_length _
  simp only [eapp, elen]
  refine ⟨⟨0, Nat.zero_le _, rfl⟩, ?_, ?_⟩
  ·
    repeat' first | exact fun x _ => Enc.pures eT x | exact trivial | refine And.intro ?_ ?_ | with_reducible refine bif_dt (by assumption) ?_ | with_reducible refine bif_df (by assumption) ?_ | with_reducible refine bif_dec (fun _ => ?_) (fun _ => ?_) | with_reducible refine bif_not ?_ | with_reducible refine bif_and ?_ | with_reducible refine bif_or ?_ | with_reducible refine bif_t (by assumption) ?_ | with_reducible refine bif_f (by assumption) ?_ | with_reducible refine bif_t (beq_self_eq_true _) ?_ | with_reducible refine bif_b (fun _ => ?_) (fun _ => ?_) | with_reducible refine ⟨_, Eq.refl (List.map _ _), ?_⟩ | (with_reducible refine Exists.intro (by omega) ?_) | rfl | (intro h0; omega) | omega
  rintro ⟨i, hi, hu⟩ -
  dsimp only
  refine bif_dec (fun h1 => ?_) (fun h1 => ?_)
  rotate_left
  · have hil : i = L.length := by omega
    subst hil
    rw [List.take_length] at hu
    refine bif_dec (fun h2 => ?_) (fun h2 => ?_)
    · have hE : putE L h s = 6 := by unfold putE; rw [hu]; exact if_pos (by omega)
      have hP : putL L h s = L := if_neg (by rw [hE]; decide)
      rw [hE]
      refine ⟨⟨cap, by rw [hP]; exact hc⟩, ?_⟩
      simp only [hP]
      repeat' first | exact fun x _ => Enc.pures eT x | exact trivial | refine And.intro ?_ ?_ | with_reducible refine bif_dt (by assumption) ?_ | with_reducible refine bif_df (by assumption) ?_ | with_reducible refine bif_dec (fun _ => ?_) (fun _ => ?_) | with_reducible refine bif_not ?_ | with_reducible refine bif_and ?_ | with_reducible refine bif_or ?_ | with_reducible refine bif_t (by assumption) ?_ | with_reducible refine bif_f (by assumption) ?_ | with_reducible refine bif_t (beq_self_eq_true _) ?_ | with_reducible refine bif_b (fun _ => ?_) (fun _ => ?_) | with_reducible refine ⟨_, Eq.refl (List.map _ _), ?_⟩ | (with_reducible refine Exists.intro (by omega) ?_) | rfl | (intro h0; omega) | omega
    · have hE : putE L h s = 0 := by unfold putE; rw [hu]; exact if_neg (by omega)
      have hP : putL L h s = L ++ [(h, s)] := if_pos hE
      rw [hE]
      refine ⟨by omega, trivial, by omega, by omega, fun cap2 k2 => ⟨⟨cap2, by rw [hP, List.length_append]; rw [hrl] at k2; exact k2⟩, ?_⟩⟩
      simp only [hP]
      repeat' first | exact fun x _ => Enc.pures eT x | exact trivial | refine And.intro ?_ ?_ | with_reducible refine bif_dt (by assumption) ?_ | with_reducible refine bif_df (by assumption) ?_ | with_reducible refine bif_dec (fun _ => ?_) (fun _ => ?_) | with_reducible refine bif_not ?_ | with_reducible refine bif_and ?_ | with_reducible refine bif_or ?_ | with_reducible refine bif_t (by assumption) ?_ | with_reducible refine bif_f (by assumption) ?_ | with_reducible refine bif_t (beq_self_eq_true _) ?_ | with_reducible refine bif_b (fun _ => ?_) (fun _ => ?_) | with_reducible refine ⟨_, Eq.refl (List.map _ _), ?_⟩ | (with_reducible refine Exists.intro (by omega) ?_) | rfl | (intro h0; omega) | omega
  have hi' : i < L.length := by omega
  have hr : i < (entR L).length := by rw [entR_length]; exact hi'
  have hus := under_split hi' h
  have next : ¬ (L[i].1 = h ∧ s = L[i].2) → hasS s (under (L.take (i + 1)) h) = false := fun hn => by
    rw [under_take hi', hasS_append, hu, Bool.false_or]
    split
    · rename_i h5
      show (decide (s = L[i].2) || false) = false
      rw [decide_eq_false (fun h6 => hn ⟨h5, h6⟩)]
      rfl
    · rfl
  refine ⟨by omega, by omega, by rw [Int.toNat_natCast]; exact hr, ?_⟩
  simp only [Int.toNat_natCast, hw i hi', ent_b hi' hr h, ent_sb hi' hr s]
  refine bif_dec (fun h2 => ?_) (fun h2 => ?_)
  rotate_left
  · refine ⟨⟨i + 1, hi', next fun h3 => h2 h3.1⟩, ⟨show L.length - (i + 1) < L.length - i by omega, trivial⟩, ?_⟩
    repeat' first | exact fun x _ => Enc.pures eT x | exact trivial | refine And.intro ?_ ?_ | with_reducible refine bif_dt (by assumption) ?_ | with_reducible refine bif_df (by assumption) ?_ | with_reducible refine bif_dec (fun _ => ?_) (fun _ => ?_) | with_reducible refine bif_not ?_ | with_reducible refine bif_and ?_ | with_reducible refine bif_or ?_ | with_reducible refine bif_t (by assumption) ?_ | with_reducible refine bif_f (by assumption) ?_ | with_reducible refine bif_t (beq_self_eq_true _) ?_ | with_reducible refine bif_b (fun _ => ?_) (fun _ => ?_) | with_reducible refine ⟨_, Eq.refl (List.map _ _), ?_⟩ | (with_reducible refine Exists.intro (by omega) ?_) | rfl | (intro h0; omega) | omega
  refine ⟨by omega, hi', hr, ?_⟩
  refine bif_dec (fun h3 => ?_) (fun h3 => ?_)
  · have hin : hasS s (under L h) = true := by
      rw [hasS_iff, hus, if_pos h2, h3]
      simp
    have hE : putE L h s = 4 := by unfold putE; rw [hin]; rfl
    have hP : putL L h s = L := if_neg (by rw [hE]; decide)
    rw [hE]
    refine ⟨⟨cap, by rw [hP]; exact hc⟩, ?_⟩
    simp only [hP]
    repeat' first | exact fun x _ => Enc.pures eT x | exact trivial | refine And.intro ?_ ?_ | with_reducible refine bif_dt (by assumption) ?_ | with_reducible refine bif_df (by assumption) ?_ | with_reducible refine bif_dec (fun _ => ?_) (fun _ => ?_) | with_reducible refine bif_not ?_ | with_reducible refine bif_and ?_ | with_reducible refine bif_or ?_ | with_reducible refine bif_t (by assumption) ?_ | with_reducible refine bif_f (by assumption) ?_ | with_reducible refine bif_t (beq_self_eq_true _) ?_ | with_reducible refine bif_b (fun _ => ?_) (fun _ => ?_) | with_reducible refine ⟨_, Eq.refl (List.map _ _), ?_⟩ | (with_reducible refine Exists.intro (by omega) ?_) | rfl | (intro h0; omega) | omega
  · refine ⟨⟨i + 1, hi', next fun h4 => h3 h4.2⟩, ⟨show L.length - (i + 1) < L.length - i by omega, trivial⟩, ?_⟩
    repeat' first | exact fun x _ => Enc.pures eT x | exact trivial | refine And.intro ?_ ?_ | with_reducible refine bif_dt (by assumption) ?_ | with_reducible refine bif_df (by assumption) ?_ | with_reducible refine bif_dec (fun _ => ?_) (fun _ => ?_) | with_reducible refine bif_not ?_ | with_reducible refine bif_and ?_ | with_reducible refine bif_or ?_ | with_reducible refine bif_t (by assumption) ?_ | with_reducible refine bif_f (by assumption) ?_ | with_reducible refine bif_t (beq_self_eq_true _) ?_ | with_reducible refine bif_b (fun _ => ?_) (fun _ => ?_) | with_reducible refine ⟨_, Eq.refl (List.map _ _), ?_⟩ | (with_reducible refine Exists.intro (by omega) ?_) | rfl | (intro h0; omega) | omega
theorem rput_row {L : Ents} {h : List Int} (s : ByteArray) {len cap cp : Nat} (hp : len = L.length ∧ cap = cp ∧ h.length = 32 ∧ L.length ≤ 100000 ∧ L.length ≤ cp) : SMem Tryd.prog 95 [.one (.ptr 0 0), h32 h, str s] 2 [(0, .cells [.nslc 1 33 len cap]), (1, .row 33 eT (entR L) cp)]
    (fun c : CapT (putL L h s).length => ⟨3, int (putE L h s), [(0, .cells [.nslc 2 33 (putL L h s).length c.cap]), (2, .row 33 eT (entR (putL L h s)) c.cap)]⟩) := by
  obtain ⟨rfl, rfl, h1, h2, h3⟩ := hp
  exact rput_spec s h1 h2 h3
def rputT : MT := fun ms n h K => match ms with
  | [.one (.ptr P0 0), .agg [.ints .u8 32 k], .one (.v (.string s))] => (match get h P0 with
    | some (.cells [.nslc P1 33 len cap]) => (match get h P1 with
    | some (.row we1 wn1 wl1 cp) => bif Nat.beq we1 33 && noDup [P0, P1] then ∃ r : List (ETy), wl1.map wn1.enc = r.map (eT).enc ∧ ∃ (L : Ents), ((r = entR L) ∧ (len = L.length ∧ cap = cp ∧ k.length = 32 ∧ L.length ≤ 100000 ∧ L.length ≤ cp)) ∧ (∀ c : CapT (putL L k s).length, K (n + 1) (int (putE L k s)) ([(P0, .cells [.nslc n 33 (putL L k s).length c.cap]), (n, .row 33 eT (entR (putL L k s)) c.cap)] ++ delL [P0, P1] h)) else False
    | _ => False)
    | _ => False)
  | _ => False
theorem rput_mono : MMono rputT := by
  intro ms n h K K' hkk hk
  unfold rputT at hk ⊢
  split at hk
  · rename_i P0 k s
    split at hk
    · rename_i P1 len cap hg0
      try simp only [hg0]
      split at hk
      · rename_i we1 wa1 wn1 wl1 cp hg1
        try simp only [hg1]
        obtain ⟨hb, y0, z0, q0, h1, h2⟩ := cond_false_elim hk
        rw [hb]
        exact ⟨y0, z0, q0, h1, fun o => hkk _ _ _ (h2 o)⟩
      · exact hk.elim
    · exact hk.elim
  · exact hk.elim
theorem rput_ok : MOK Tryd.prog 95 rputT := by
  refine ⟨?_, rput_mono⟩
  intro ms n hB K hk
  unfold rputT at hk
  split at hk
  · rename_i P0 k s
    split at hk
    · rename_i P1 len cap hg0
      split at hk
      · rename_i we1 wa1 wn1 wl1 cp hg1
        obtain ⟨hb, r, hl1, L, h, hk2⟩ := cond_false_elim hk
        clear hk
        obtain ⟨rfl, h⟩ := h
        simp only [Bool.and_eq_true] at hb
        obtain ⟨hc0, hnd⟩ := hb
        have hs0 := Nat.eq_of_beq_eq_true hc0
        subst hs0
        refine SCall.seen ?_ (.cons (.refl _) (.cons (.refl _) (.cons (.refl _) .nil)))
        exact (rput_row s h).use (fun j => match j with | 0 => P0 | 1 => P1 | _ => 0) rfl rfl ⟨by show (match get hB P0 with | some b0 => Blk.imp _ _ _ b0 | none => False); rw [hg0]; exact ⟨rfl, rfl⟩, rfl, ⟨by show (match get hB P1 with | some b0 => Blk.imp _ _ _ b0 | none => False); rw [hg1]; exact ⟨rfl, rfl, hl1.symm, fun y _ => Enc.pures _ y⟩, rfl, trivial⟩⟩ (by exact hnd) (fun j hj => by cases j with
            | zero => exact ⟨_, rfl⟩
            | succ j => cases j with
             | zero => exact ⟨_, rfl⟩
             | succ j => omega) (fun o => hk2 o)
      · exact hk.elim
    · exact hk.elim
  · exact hk.elim

end Go.Proofs.YtblapbjafbmndaaDoor

namespace Go.Proofs.YtblapbjafbmndaaDoor
open Go Go.Sx Go.Sha
set_option linter.unusedVariables false
set_option linter.unusedSimpArgs false
set_option maxRecDepth 100000
set_option maxHeartbeats 4000000

theorem rseek_row {L : Ents} {h : List Int} {len cap cp : Nat} (hp : len = L.length ∧ cap = cp ∧ h.length = 32 ∧ L.length ≤ 100000) : SMem Tryd.prog 96 [.one (.ptr 0 0), h32 h] 2 [(0, .cells [.nslc 1 33 len cap]), (1, .row 33 eT (entR L) cp)]
    (fun _ : Unit => ⟨2, .tup [str (hdS (under L h)), bool (!(under L h).isEmpty)], [(0, .cells [.nslc 1 33 L.length cp]), (1, .row 33 eT (entR L) cp)]⟩) := by
  obtain ⟨rfl, rfl, h1, h2⟩ := hp
  exact rseek_spec h1 h2
def rseekT : MT := fun ms n h K => match ms with
  | [.one (.ptr P0 0), .agg [.ints .u8 32 k]] => (match get h P0 with
    | some (.cells [.nslc P1 33 len cap]) => (match get h P1 with
    | some (.row we1 wn1 wl1 cp) => bif Nat.beq we1 33 && noDup [P0, P1] then ∃ r : List (ETy), wl1.map wn1.enc = r.map (eT).enc ∧ ∃ (L : Ents), ((r = entR L) ∧ (len = L.length ∧ cap = cp ∧ k.length = 32 ∧ L.length ≤ 100000)) ∧ (∀ o : Unit, K (n + 0) (.tup [str (hdS (under L k)), bool (!(under L k).isEmpty)]) ([(P0, .cells [.nslc P1 33 L.length cp]), (P1, .row 33 eT (entR L) cp)] ++ delL [P0, P1] h)) else False
    | _ => False)
    | _ => False)
  | _ => False
theorem rseek_mono : MMono rseekT := by
  intro ms n h K K' hkk hk
  unfold rseekT at hk ⊢
  split at hk
  · rename_i P0 k
    split at hk
    · rename_i P1 len cap hg0
      try simp only [hg0]
      split at hk
      · rename_i we1 wa1 wn1 wl1 cp hg1
        try simp only [hg1]
        obtain ⟨hb, y0, z0, q0, h1, h2⟩ := cond_false_elim hk
        rw [hb]
        exact ⟨y0, z0, q0, h1, fun o => hkk _ _ _ (h2 o)⟩
      · exact hk.elim
    · exact hk.elim
  · exact hk.elim
theorem rseek_ok : MOK Tryd.prog 96 rseekT := by
  refine ⟨?_, rseek_mono⟩
  intro ms n hB K hk
  unfold rseekT at hk
  split at hk
  · rename_i P0 k
    split at hk
    · rename_i P1 len cap hg0
      split at hk
      · rename_i we1 wa1 wn1 wl1 cp hg1
        obtain ⟨hb, r, hl1, L, h, hk2⟩ := cond_false_elim hk
        clear hk
        obtain ⟨rfl, h⟩ := h
        simp only [Bool.and_eq_true] at hb
        obtain ⟨hc0, hnd⟩ := hb
        have hs0 := Nat.eq_of_beq_eq_true hc0
        subst hs0
        refine SCall.seen ?_ (.cons (.refl _) (.cons (.refl _) .nil))
        exact (rseek_row h).use (fun j => match j with | 0 => P0 | 1 => P1 | _ => 0) rfl rfl ⟨by show (match get hB P0 with | some b0 => Blk.imp _ _ _ b0 | none => False); rw [hg0]; exact ⟨rfl, rfl⟩, rfl, ⟨by show (match get hB P1 with | some b0 => Blk.imp _ _ _ b0 | none => False); rw [hg1]; exact ⟨rfl, rfl, hl1.symm, fun y _ => Enc.pures _ y⟩, rfl, trivial⟩⟩ (by exact hnd) (fun j hj => by cases j with
            | zero => exact ⟨_, rfl⟩
            | succ j => cases j with
             | zero => exact ⟨_, rfl⟩
             | succ j => omega) (fun o => hk2 o)
      · exact hk.elim
    · exact hk.elim
  · exact hk.elim

theorem rsum2_spec (y : Value) {L : Ents} {b : List Int} {len cap cp : Nat} (hp : len = L.length ∧ cap = cp ∧ L.length ≤ 100000 ∧ L.length ≤ cp ∧ By b ∧ b.length ≤ 140737488351232) : SMem Tryd.prog 94 [.one (.ptr 0 0), byV y b] 2 [(0, .cells [.nslc 1 33 len cap]), (1, .row 33 eT (entR L) cp)]
    (fun c : CapT (putL L (shaF b) (strOfNums b)).length => ⟨3, h32 (shaF b), [(0, .cells [.nslc 2 33 (putL L (shaF b) (strOfNums b)).length c.cap]), (2, .row 33 eT (entR (putL L (shaF b) (strOfNums b))) c.cap)]⟩) := by
  obtain ⟨rfl, rfl, h1, h2, h3, h4⟩ := hp
  refine SMem.inm [(18, rSumT)] (SOK.cons rSum_ok SOK.nil) [(2000095, noT), (95, rputT)] (MSOK.cons noT_ok (MSOK.cons rput_ok MSOK.nil)) tok mixed [] IOK.nil true [] [] Tryd.call94 Tryd.func94 rfl (by rfl) ?_
  refine Eq.mp (α := (∃ b_1 : List Int, (And (List.map (Enc.enc (encInt IntKind.u8)) b = List.map eB b_1) (And (And (∀ x : Int, (∀ a : x ∈ b_1, (And ((0 : Int) ≤ x) (x < (256 : Int))))) (List.length b_1 ≤ (140737488351232 : Nat))) (And (∀ x : Int, (∀ a : x ∈ b, (∃ b_2 : Int, (Enc.enc (encInt IntKind.u8) x = [SV.v (Value.int IntKind.u8 b_2)])))) (∃ r : List ETy, (And (List.map (Enc.enc eT) (entR L) = List.map (Enc.enc eT) r) (∃ L_1 : Ents, (And (And (r = entR L_1) (And (List.length L = List.length L_1) (And (cap = cap) (And (List.length (shaF b_1) = (32 : Nat)) (And (List.length L_1 ≤ (100000 : Nat)) (List.length L_1 ≤ cap)))))) (∀ c : CapT (List.length (putL L_1 (shaF b_1) (strOfNums (bytesOf (Enc.enc (encInt IntKind.u8)) b)))), (∃ o : CapT (List.length (putL L (shaF b) (strOfNums b))), (And (And (And (shaF b = shaF b_1) True) True) (And (And (And (And ((true : Bool) = true) (And (List.length (putL L (shaF b) (strOfNums b)) = List.length (putL L_1 (shaF b_1) (strOfNums (bytesOf (Enc.enc (encInt IntKind.u8)) b)))) (CapT.cap o = CapT.cap c))) True) (And ((true : Bool) = true) (And (And ((true : Bool) = true) (And (CapT.cap o = CapT.cap c) (And (List.map (Enc.enc eT) (entR (putL L (shaF b) (strOfNums b))) = List.map (Enc.enc eT) (entR (putL L_1 (shaF b_1) (strOfNums (bytesOf (Enc.enc (encInt IntKind.u8)) b))))) (∀ x : ETy, (∀ a : x ∈ entR (putL L (shaF b) (strOfNums b)), (∀ s : SV, (∀ a_1 : s ∈ Enc.enc eT x, ((SV.isPure s : Bool) = (true))))))))) (And ((true : Bool) = true) True)))) ((true : Bool) = true)))))))))))))) (by kernel_rfl) ?_
  rw [bytesB]
  refine ⟨b, rfl, ⟨h3, h4⟩, isB _, entR L, rfl, L, ⟨rfl, rfl, rfl, shaF_length b, h1, h2⟩, fun c => ⟨c, ?_⟩⟩
  repeat' first | exact fun x _ => Enc.pures eT x | exact trivial | refine And.intro ?_ ?_ | with_reducible refine bif_dt (by assumption) ?_ | with_reducible refine bif_df (by assumption) ?_ | with_reducible refine bif_dec (fun _ => ?_) (fun _ => ?_) | with_reducible refine bif_not ?_ | with_reducible refine bif_and ?_ | with_reducible refine bif_or ?_ | with_reducible refine bif_t (by assumption) ?_ | with_reducible refine bif_f (by assumption) ?_ | with_reducible refine bif_t (beq_self_eq_true _) ?_ | with_reducible refine bif_b (fun _ => ?_) (fun _ => ?_) | with_reducible refine ⟨_, Eq.refl (List.map _ _), ?_⟩ | (with_reducible refine Exists.intro (by omega) ?_) | rfl | (intro h0; omega) | omega
def rsum2T : MT := fun ms n h K => match ms with
  | [.one (.ptr P0 0), .one (.view vx0 ve0 en0 vl0)] => (match get h P0 with
    | some (.cells [.nslc P1 33 len cap]) => (match get h P1 with
    | some (.row we1 wn1 wl1 cp) => bif Nat.beq ve0 1 && Nat.beq we1 33 && noDup [P0, P1] then ∃ b : List (Int), vl0.map en0 = b.map eB ∧ ∃ r : List (ETy), wl1.map wn1.enc = r.map (eT).enc ∧ ∃ (L : Ents), ((r = entR L) ∧ (len = L.length ∧ cap = cp ∧ L.length ≤ 100000 ∧ L.length ≤ cp ∧ By b ∧ b.length ≤ 140737488351232)) ∧ (∀ c : CapT (putL L (shaF b) (strOfNums b)).length, K (n + 1) (h32 (shaF b)) ([(P0, .cells [.nslc n 33 (putL L (shaF b) (strOfNums b)).length c.cap]), (n, .row 33 eT (entR (putL L (shaF b) (strOfNums b))) c.cap)] ++ delL [P0, P1] h)) else False
    | _ => False)
    | _ => False)
  | _ => False
theorem rsum2_mono : MMono rsum2T := by
  intro ms n h K K' hkk hk
  unfold rsum2T at hk ⊢
  split at hk
  · rename_i P0 vx0 ve0 va0 en0 vl0
    split at hk
    · rename_i P1 len cap hg0
      try simp only [hg0]
      split at hk
      · rename_i we1 wa1 wn1 wl1 cp hg1
        try simp only [hg1]
        obtain ⟨hb, y0, z0, y1, z1, q0, h1, h2⟩ := cond_false_elim hk
        rw [hb]
        exact ⟨y0, z0, y1, z1, q0, h1, fun o => hkk _ _ _ (h2 o)⟩
      · exact hk.elim
    · exact hk.elim
  · exact hk.elim
theorem rsum2_ok : MOK Tryd.prog 94 rsum2T := by
  refine ⟨?_, rsum2_mono⟩
  intro ms n hB K hk
  unfold rsum2T at hk
  split at hk
  · rename_i P0 vx0 ve0 va0 en0 vl0
    split at hk
    · rename_i P1 len cap hg0
      split at hk
      · rename_i we1 wa1 wn1 wl1 cp hg1
        obtain ⟨hb, b, he0, r, hl1, L, h, hk2⟩ := cond_false_elim hk
        clear hk
        obtain ⟨rfl, h⟩ := h
        simp only [Bool.and_eq_true] at hb
        obtain ⟨⟨hc0, hc1⟩, hnd⟩ := hb
        have hs0 := Nat.eq_of_beq_eq_true hc0
        subst hs0
        have hs1 := Nat.eq_of_beq_eq_true hc1
        subst hs1
        refine SCall.seen ?_ (.cons (.refl _) (.cons (.view he0) .nil))
        exact (rsum2_spec _ (L := L) h).use (fun j => match j with | 0 => P0 | 1 => P1 | _ => 0) rfl rfl ⟨by show (match get hB P0 with | some b0 => Blk.imp _ _ _ b0 | none => False); rw [hg0]; exact ⟨rfl, rfl⟩, rfl, ⟨by show (match get hB P1 with | some b0 => Blk.imp _ _ _ b0 | none => False); rw [hg1]; exact ⟨rfl, rfl, hl1.symm, fun y _ => Enc.pures _ y⟩, rfl, trivial⟩⟩ (by exact hnd) (fun j hj => by cases j with
            | zero => exact ⟨_, rfl⟩
            | succ j => cases j with
             | zero => exact ⟨_, rfl⟩
             | succ j => omega) (fun o => hk2 o)
      · exact hk.elim
    · exact hk.elim
  · exact hk.elim

theorem ent_f {L : Ents} {i : Nat} (hi' : i < L.length) (hr : i < (entR L).length) : (entR L)[i].1 = L[i].1 := congrArg (fun x : ETy => x.1) (entR_at L hr)
theorem find_at {α : Type} {p : α → Bool} {L : List α} {i : Nat} (hi : i < L.length) (h1 : ∀ x ∈ L.take i, p x = false) (h2 : p L[i] = true) : L.find? p = some L[i] := by
  conv => lhs; rw [← List.take_append_drop i L, List.drop_eq_getElem_cons hi]
  rw [List.find?_append, List.find?_eq_none.2 (fun x hx => by rw [h1 x hx]; decide), List.find?_cons_of_pos h2]
  rfl
/-- The first entry that is not the first under its hash. -/
def dcl (L : Ents) : Option (List Int × ByteArray) := L.find? fun x => !decide (hdS (under L x.1) = x.2)
def k0 (L : Ents) : ByteArray := match dcl L with
  | some x => hdS (under L x.1)
  | none => .empty
def k1 (L : Ents) : ByteArray := match dcl L with
  | some x => x.2
  | none => .empty
structure ClT (L : Ents) where
  i : Nat
  hi : i ≤ L.length
  hu : ∀ x ∈ L.take i, hdS (under L x.1) = x.2
theorem rclash_spec {L : Ents} {cap : Nat} (hok : ∀ x ∈ L, x.1.length = 32) (hL : L.length ≤ 100000) : SMem Tryd.prog 97 [.one (.ptr 0 0)] 2 [(0, .cells [.nslc 1 33 L.length cap]), (1, .row 33 eT (entR L) cap)]
    (fun _ : Unit => ⟨2, .tup [str (k0 L), str (k1 L), bool (dcl L).isSome], [(0, .cells [.nslc 1 33 L.length cap]), (1, .row 33 eT (entR L) cap)]⟩) := by
  refine SMem.inm [] SOK.nil [(2000096, noT), (96, rseekT)] (MSOK.cons noT_ok (MSOK.cons rseek_ok MSOK.nil)) tok mixed [] IOK.nil false [(2, ⟨ClT L, fun p => ⟨2, [(0, .one (.ptr 0 0)), (5, int p.i)], [(0, .cells [.nslc 1 33 L.length cap]), (1, .row 33 eT (entR L) cap)]⟩, fun p => L.length - p.i, fun _ _ => True⟩)] [] Tryd.call97 Tryd.func97 rfl (by rfl) ?_
  refine Eq.mp (α := (∃ i0 : ClT L, (And (And True (And (And (And ((true : Bool) = true) ((0 : Nat) = (0 : Nat))) (And ((↑(ClT.i i0) : Int) = (0 : Int)) True)) (And (And (And (And ((true : Bool) = true) (And (List.length L = List.length L) (cap = cap))) True) (And ((true : Bool) = true) (And (And ((true : Bool) = true) (And (cap = cap) (And (List.map (Enc.enc eT) (entR L) = List.map (Enc.enc eT) (entR L)) (∀ x : ETy, (∀ a : x ∈ entR L, (∀ s : SV, (∀ a_1 : s ∈ Enc.enc eT x, ((SV.isPure s : Bool) = (true))))))))) (And ((true : Bool) = true) True)))) ((true : Bool) = true)))) (∀ i : ClT L, (∀ a : True, (@Bool.rec (fun _ => Prop) (∃ o : Unit, (And (And (And (k0 L = { data := #[] }) (And (k1 L = { data := #[] }) (And ((Option.isSome (dcl L) : Bool) = (false)) True))) True) (And (And (And (And ((true : Bool) = true) (And (List.length L = List.length L) (cap = cap))) True) (And ((true : Bool) = true) (And (And ((true : Bool) = true) (And (cap = cap) (And (List.map (Enc.enc eT) (entR L) = List.map (Enc.enc eT) (entR L)) (∀ x : ETy, (∀ a_1 : x ∈ entR L, (∀ s : SV, (∀ a_2 : s ∈ Enc.enc eT x, ((SV.isPure s : Bool) = (true))))))))) (And ((true : Bool) = true) True)))) ((true : Bool) = true)))) (And ((0 : Int) ≤ (↑(ClT.i i) : Int)) (And (Int.toNat (↑(ClT.i i) : Int) < List.length L) (∃ hi : Int.toNat (↑(ClT.i i) : Int) < List.length (entR L), (∃ r : List ETy, (And (List.map (Enc.enc eT) (entR L) = List.map (Enc.enc eT) r) (∃ L_1 : Ents, (And (And (r = entR L_1) (And (List.length L = List.length L_1) (And (cap = cap) (And (List.length (Prod.fst (entR L)[Int.toNat (↑(ClT.i i) : Int)]) = (32 : Nat)) (List.length L_1 ≤ (100000 : Nat)))))) (∀ o : Unit, (And ((0 : Int) ≤ (↑(ClT.i i) : Int)) (And (Int.toNat (↑(ClT.i i) : Int) < List.length L_1) (∃ hi_1 : Int.toNat (↑(ClT.i i) : Int) < List.length (entR L_1), (@Bool.rec (fun _ => Prop) (∃ i' : ClT L, (And (And (List.length L - ClT.i i' < List.length L - ClT.i i) True) (And (And (And ((true : Bool) = true) ((0 : Nat) = (0 : Nat))) (And ((↑(ClT.i i') : Int) = IntKind.wrap IntKind.i64 ((↑(ClT.i i) : Int) + (1 : Int))) True)) (And (And (And (And ((true : Bool) = true) (And (List.length L = List.length L_1) (cap = cap))) True) (And ((true : Bool) = true) (And (And ((true : Bool) = true) (And (cap = cap) (And (List.map (Enc.enc eT) (entR L) = List.map (Enc.enc eT) (entR L_1)) (∀ x : ETy, (∀ a_1 : x ∈ entR L, (∀ s : SV, (∀ a_2 : s ∈ Enc.enc eT x, ((SV.isPure s : Bool) = (true))))))))) (And ((true : Bool) = true) True)))) ((true : Bool) = true))))) (And ((0 : Int) ≤ (↑(ClT.i i) : Int)) (And (Int.toNat (↑(ClT.i i) : Int) < List.length L_1) (∃ hi_2 : Int.toNat (↑(ClT.i i) : Int) < List.length (entR L_1), (∃ o_1 : Unit, (And (And (And (k0 L = hdS (under L_1 (Prod.fst (entR L)[Int.toNat (↑(ClT.i i) : Int)]))) (And (k1 L = Prod.fst (Prod.snd (entR L_1)[Int.toNat (↑(ClT.i i) : Int)])) (And ((Option.isSome (dcl L) : Bool) = (true)) True))) True) (And (And (And (And ((true : Bool) = true) (And (List.length L = List.length L_1) (cap = cap))) True) (And ((true : Bool) = true) (And (And ((true : Bool) = true) (And (cap = cap) (And (List.map (Enc.enc eT) (entR L) = List.map (Enc.enc eT) (entR L_1)) (∀ x : ETy, (∀ a_1 : x ∈ entR L, (∀ s : SV, (∀ a_2 : s ∈ Enc.enc eT x, ((SV.isPure s : Bool) = (true))))))))) (And ((true : Bool) = true) True)))) ((true : Bool) = true))))))) (!ByteArray.toList (hdS (under L_1 (Prod.fst (entR L)[Int.toNat (↑(ClT.i i) : Int)]))) == ByteArray.toList (Prod.fst (Prod.snd (entR L_1)[Int.toNat (↑(ClT.i i) : Int)]))))))))))))))) (decide ((↑(ClT.i i) : Int) < (↑(List.length L) : Int))))))))) (by kernel_rfl) ?_
  have hw : ∀ i : Nat, i < L.length → IntKind.i64.wrap ((i : Int) + 1) = ((i + 1 : Nat) : Int) := fun i hi => inext (by omega)
  refine ⟨⟨0, Nat.zero_le _, fun x hx => by cases hx⟩, ?_, ?_⟩
  ·
    repeat' first | exact fun x _ => Enc.pures eT x | exact trivial | refine And.intro ?_ ?_ | with_reducible refine bif_dt (by assumption) ?_ | with_reducible refine bif_df (by assumption) ?_ | with_reducible refine bif_dec (fun _ => ?_) (fun _ => ?_) | with_reducible refine bif_not ?_ | with_reducible refine bif_and ?_ | with_reducible refine bif_or ?_ | with_reducible refine bif_t (by assumption) ?_ | with_reducible refine bif_f (by assumption) ?_ | with_reducible refine bif_t (beq_self_eq_true _) ?_ | with_reducible refine bif_b (fun _ => ?_) (fun _ => ?_) | with_reducible refine ⟨_, Eq.refl (List.map _ _), ?_⟩ | (with_reducible refine Exists.intro (by omega) ?_) | rfl | (intro h0; omega) | omega
  rintro ⟨i, hi, hu⟩ -
  dsimp only
  refine bif_dec (fun h1 => ?_) (fun h1 => ?_)
  rotate_left
  · have hil : i = L.length := by omega
    subst hil
    rw [List.take_length] at hu
    have hd : dcl L = none := List.find?_eq_none.2 fun x hx => by rw [decide_eq_true (hu x hx)]; decide
    unfold k0 k1
    rw [hd]
    refine ⟨(), ?_⟩
    repeat' first | exact fun x _ => Enc.pures eT x | exact trivial | refine And.intro ?_ ?_ | with_reducible refine bif_dt (by assumption) ?_ | with_reducible refine bif_df (by assumption) ?_ | with_reducible refine bif_dec (fun _ => ?_) (fun _ => ?_) | with_reducible refine bif_not ?_ | with_reducible refine bif_and ?_ | with_reducible refine bif_or ?_ | with_reducible refine bif_t (by assumption) ?_ | with_reducible refine bif_f (by assumption) ?_ | with_reducible refine bif_t (beq_self_eq_true _) ?_ | with_reducible refine bif_b (fun _ => ?_) (fun _ => ?_) | with_reducible refine ⟨_, Eq.refl (List.map _ _), ?_⟩ | (with_reducible refine Exists.intro (by omega) ?_) | rfl | (intro h0; omega) | omega
  have hi' : i < L.length := by omega
  have hr : i < (entR L).length := by rw [entR_length]; exact hi'
  have h32' : ((entR L)[i]).1.length = 32 := by rw [ent_f hi' hr]; exact hok _ (List.getElem_mem hi')
  simp only [Int.toNat_natCast]
  refine ⟨by omega, hi', hr, entR L, rfl, L, ⟨rfl, rfl, trivial, h32', hL⟩, fun o => ⟨by omega, hi', hr, ?_⟩⟩
  simp only [ent_f hi' hr, ent_s hi' hr, hw i hi', beq_ba]
  refine bif_not (bif_dec (fun h2 => ?_) (fun h2 => ?_))
  · refine ⟨⟨i + 1, hi', fun x hx => ?_⟩, ⟨show L.length - (i + 1) < L.length - i by omega, trivial⟩, ?_⟩
    · rw [List.take_add_one, List.getElem?_eq_getElem hi'] at hx
      rcases List.mem_append.1 hx with hx | hx
      · exact hu x hx
      · have : x = L[i] := by simpa using hx
        rw [this]
        exact h2
    ·
      repeat' first | exact fun x _ => Enc.pures eT x | exact trivial | refine And.intro ?_ ?_ | with_reducible refine bif_dt (by assumption) ?_ | with_reducible refine bif_df (by assumption) ?_ | with_reducible refine bif_dec (fun _ => ?_) (fun _ => ?_) | with_reducible refine bif_not ?_ | with_reducible refine bif_and ?_ | with_reducible refine bif_or ?_ | with_reducible refine bif_t (by assumption) ?_ | with_reducible refine bif_f (by assumption) ?_ | with_reducible refine bif_t (beq_self_eq_true _) ?_ | with_reducible refine bif_b (fun _ => ?_) (fun _ => ?_) | with_reducible refine ⟨_, Eq.refl (List.map _ _), ?_⟩ | (with_reducible refine Exists.intro (by omega) ?_) | rfl | (intro h0; omega) | omega
  · have hd : dcl L = some L[i] := find_at hi' (fun x hx => by rw [decide_eq_true (hu x hx)]; rfl) (by rw [decide_eq_false h2]; rfl)
    have e0 : k0 L = hdS (under L L[i].1) := by unfold k0; rw [hd]
    have e1 : k1 L = L[i].2 := by unfold k1; rw [hd]
    refine ⟨by omega, hi', hr, (), ⟨⟨e0, e1, by rw [hd]; rfl, trivial⟩, trivial⟩, ?_⟩
    repeat' first | exact fun x _ => Enc.pures eT x | exact trivial | refine And.intro ?_ ?_ | with_reducible refine bif_dt (by assumption) ?_ | with_reducible refine bif_df (by assumption) ?_ | with_reducible refine bif_dec (fun _ => ?_) (fun _ => ?_) | with_reducible refine bif_not ?_ | with_reducible refine bif_and ?_ | with_reducible refine bif_or ?_ | with_reducible refine bif_t (by assumption) ?_ | with_reducible refine bif_f (by assumption) ?_ | with_reducible refine bif_t (beq_self_eq_true _) ?_ | with_reducible refine bif_b (fun _ => ?_) (fun _ => ?_) | with_reducible refine ⟨_, Eq.refl (List.map _ _), ?_⟩ | (with_reducible refine Exists.intro (by omega) ?_) | rfl | (intro h0; omega) | omega
theorem rclash_row {L : Ents} {len cap cp : Nat} (hp : len = L.length ∧ cap = cp ∧ (∀ x ∈ L, x.1.length = 32) ∧ L.length ≤ 100000) : SMem Tryd.prog 97 [.one (.ptr 0 0)] 2 [(0, .cells [.nslc 1 33 len cap]), (1, .row 33 eT (entR L) cp)]
    (fun _ : Unit => ⟨2, .tup [str (k0 L), str (k1 L), bool (dcl L).isSome], [(0, .cells [.nslc 1 33 L.length cp]), (1, .row 33 eT (entR L) cp)]⟩) := by
  obtain ⟨rfl, rfl, h1, h2⟩ := hp
  exact rclash_spec h1 h2
def rclashT : MT := fun ms n h K => match ms with
  | [.one (.ptr P0 0)] => (match get h P0 with
    | some (.cells [.nslc P1 33 len cap]) => (match get h P1 with
    | some (.row we1 wn1 wl1 cp) => bif Nat.beq we1 33 && noDup [P0, P1] then ∃ r : List (ETy), wl1.map wn1.enc = r.map (eT).enc ∧ ∃ (L : Ents), ((r = entR L) ∧ (len = L.length ∧ cap = cp ∧ (∀ x ∈ L, x.1.length = 32) ∧ L.length ≤ 100000)) ∧ (∀ o : Unit, K (n + 0) (.tup [str (k0 L), str (k1 L), bool (dcl L).isSome]) ([(P0, .cells [.nslc P1 33 L.length cp]), (P1, .row 33 eT (entR L) cp)] ++ delL [P0, P1] h)) else False
    | _ => False)
    | _ => False)
  | _ => False
theorem rclash_mono : MMono rclashT := by
  intro ms n h K K' hkk hk
  unfold rclashT at hk ⊢
  split at hk
  · rename_i P0
    split at hk
    · rename_i P1 len cap hg0
      try simp only [hg0]
      split at hk
      · rename_i we1 wa1 wn1 wl1 cp hg1
        try simp only [hg1]
        obtain ⟨hb, y0, z0, q0, h1, h2⟩ := cond_false_elim hk
        rw [hb]
        exact ⟨y0, z0, q0, h1, fun o => hkk _ _ _ (h2 o)⟩
      · exact hk.elim
    · exact hk.elim
  · exact hk.elim
theorem rclash_ok : MOK Tryd.prog 97 rclashT := by
  refine ⟨?_, rclash_mono⟩
  intro ms n hB K hk
  unfold rclashT at hk
  split at hk
  · rename_i P0
    split at hk
    · rename_i P1 len cap hg0
      split at hk
      · rename_i we1 wa1 wn1 wl1 cp hg1
        obtain ⟨hb, r, hl1, L, h, hk2⟩ := cond_false_elim hk
        clear hk
        obtain ⟨rfl, h⟩ := h
        simp only [Bool.and_eq_true] at hb
        obtain ⟨hc0, hnd⟩ := hb
        have hs0 := Nat.eq_of_beq_eq_true hc0
        subst hs0
        refine SCall.seen ?_ (.cons (.refl _) .nil)
        exact (rclash_row h).use (fun j => match j with | 0 => P0 | 1 => P1 | _ => 0) rfl rfl ⟨by show (match get hB P0 with | some b0 => Blk.imp _ _ _ b0 | none => False); rw [hg0]; exact ⟨rfl, rfl⟩, rfl, ⟨by show (match get hB P1 with | some b0 => Blk.imp _ _ _ b0 | none => False); rw [hg1]; exact ⟨rfl, rfl, hl1.symm, fun y _ => Enc.pures _ y⟩, rfl, trivial⟩⟩ (by exact hnd) (fun j hj => by cases j with
            | zero => exact ⟨_, rfl⟩
            | succ j => cases j with
             | zero => exact ⟨_, rfl⟩
             | succ j => omega) (fun o => hk2 o)
      · exact hk.elim
    · exact hk.elim
  · exact hk.elim

end Go.Proofs.YtblapbjafbmndaaDoor
