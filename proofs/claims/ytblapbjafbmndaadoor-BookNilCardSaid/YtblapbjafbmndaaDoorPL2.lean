/- Sum and Tagged of a book; an act's first part, its length. -/
import Derived.Test.YtblapbjafbmndaaDoorPL1
import Derived.Test.YtblapbjafbmndaaDoorSx24
namespace Go.Proofs.YtblapbjafbmndaaDoor
open Go Go.Sx Go.Sha
set_option linter.unusedVariables false
set_option linter.unusedSimpArgs false
set_option maxRecDepth 100000
set_option maxHeartbeats 4000000

theorem bsum_spec (y : Value) {A : List Nat} {L : Ents} {cs : List ByteArray} {b : List Int} (hb : By b) (hl : b.length ≤ 140737488351232) (hL : L.length ≤ 100000) : SMem Tryd.prog 56 [.one (.ptr 0 0), byV y b] 1 [(0, .obj A [] (bookAbs L cs))]
    (fun A' : List Nat => ⟨1, h32 (shaF b), [(0, .obj A' [] (bookAbs (putB L cs (shaF b) (strOfNums b)).1 (putB L cs (shaF b) (strOfNums b)).2))]⟩) := by
  refine SMem.inm [(17, sumT)] (SOK.cons sum_ok SOK.nil) [(2000060, noT), (60, bputT)] (MSOK.cons noT_ok (MSOK.cons bput_ok MSOK.nil)) tok mixed [] IOK.nil true [] [] Tryd.call56 Tryd.func56 rfl (by rfl) ?_
  refine Eq.mp (α := (∃ b_1 : List Int, (And (List.map (Enc.enc (encInt IntKind.u8)) b = List.map eB b_1) (And (And (∀ x : Int, (∀ a : x ∈ b_1, (And ((0 : Int) ≤ x) (x < (256 : Int))))) (List.length b_1 ≤ (140737488351232 : Nat))) (∃ b_2 : List Int, (And (List.map (Enc.enc (encInt IntKind.u8)) b = List.map eB b_2) (∃ L_1 : Ents, (∃ cs_1 : List ByteArray, (And (And (bookAbs L cs = bookAbs L_1 cs_1) (And (List.length (shaF b_1) = (32 : Nat)) (List.length L_1 ≤ (100000 : Nat)))) (∀ o : List Nat, (∃ o_1 : List Nat, (And (And (And (shaF b = shaF b_1) True) True) (And (And (And (o_1 = o) (And True (bookAbs (Prod.fst (putB L cs (shaF b) (strOfNums b))) (Prod.snd (putB L cs (shaF b) (strOfNums b))) = bookAbs (Prod.fst (putB L_1 cs_1 (shaF b_1) (strOfNums b_2))) (Prod.snd (putB L_1 cs_1 (shaF b_1) (strOfNums b_2)))))) (And ((true : Bool) = true) True)) ((true : Bool) = true)))))))))))))) (by kernel_rfl) ?_
  exact ⟨b, rfl, ⟨hb, hl⟩, b, rfl, L, cs, ⟨rfl, shaF_length b, hL⟩, fun o => ⟨o, ⟨⟨rfl, trivial⟩, trivial⟩, ⟨⟨rfl, trivial, rfl⟩, rfl, trivial⟩, rfl⟩⟩
def bsumT : MT := fun ms n h K => match ms with
  | [.one (.ptr P0 0), .one (.view vx0 ve0 en0 vl0)] => (match get h P0 with
    | some (.obj A [] o0) => bif Nat.beq ve0 1 && noDup [P0] then ∃ b : List (Int), vl0.map en0 = b.map eB ∧ ∃ (L : Ents) (cs : List ByteArray), ((o0 = bookAbs L cs) ∧ By b ∧ b.length ≤ 140737488351232 ∧ L.length ≤ 100000) ∧ (∀ o : List Nat, K (n + 0) (h32 (shaF b)) ([(P0, .obj o [] (bookAbs (putB L cs (shaF b) (strOfNums b)).1 (putB L cs (shaF b) (strOfNums b)).2))] ++ delL [P0] h)) else False
    | _ => False)
  | _ => False
theorem bsum_mono : MMono bsumT := by
  intro ms n h K K' hkk hk
  unfold bsumT at hk ⊢
  split at hk
  · rename_i P0 vx0 ve0 va0 en0 vl0
    split at hk
    · rename_i A o0 hg0
      try simp only [hg0]
      obtain ⟨hb, y0, z0, q0, q1, h1, h2⟩ := cond_false_elim hk
      rw [hb]
      exact ⟨y0, z0, q0, q1, h1, fun o => hkk _ _ _ (h2 o)⟩
    · exact hk.elim
  · exact hk.elim
theorem bsum_ok : MOK Tryd.prog 56 bsumT := by
  refine ⟨?_, bsum_mono⟩
  intro ms n hB K hk
  unfold bsumT at hk
  split at hk
  · rename_i P0 vx0 ve0 va0 en0 vl0
    split at hk
    · rename_i A o0 hg0
      obtain ⟨hb, b, he0, L, cs, h, hk2⟩ := cond_false_elim hk
      clear hk
      obtain ⟨rfl, h⟩ := h
      simp only [Bool.and_eq_true] at hb
      obtain ⟨hc0, hnd⟩ := hb
      have hs0 := Nat.eq_of_beq_eq_true hc0
      subst hs0
      refine SCall.seen ?_ (.cons (.refl _) (.cons (.view he0) .nil))
      exact (bsum_spec _ (A := A) (L := L) (cs := cs) h.1 h.2.1 h.2.2).use (fun j => match j with | 0 => P0 | _ => 0) rfl rfl ⟨by show (match get hB P0 with | some b0 => Blk.imp _ _ _ b0 | none => False); rw [hg0]; exact ⟨rfl, .inl ⟨rfl, rfl⟩, rfl⟩, rfl, trivial⟩ (by exact hnd) (fun j hj => by cases j with
          | zero => exact ⟨_, rfl⟩
          | succ j => omega) (fun o => hk2 o)
    · exact hk.elim
  · exact hk.elim

/-- An act. -/
abbrev opA (kd : Int) (tag : ByteArray) (x : Value) (l : List BTy) (H : List Int) : List SV := [.v (.int .i64 kd), .v (.string tag), .view x 1 BE.enc l, .ints .u8 32 H]
def fstB : List BTy → List Int
  | [] => []
  | y :: _ => bl y
structure LoT (l : List BTy) where
  b : Bool
  h : b = false → l.length ≤ 200 ∧ ∀ y ∈ l, (bl y).length ≤ 4000
structure LiT (l : List BTy) where
  i : Nat
  tot : Nat
  hi : i ≤ l.length
  ht : tot ≤ 9000
  h : tot ≤ 4000 → ∀ y ∈ l.take i, (bl y).length ≤ 4000
theorem blong_spec (kd : Int) (tag : ByteArray) (x : Value) (l : List BTy) {H : List Int} (hl : l.length ≤ 140737488351232) : SMem Tryd.prog 53 [.agg (opA kd tag x l H)] 0 [] (fun o : LoT l => ⟨0, bool o.b, []⟩) := by
  refine SMem.inm [] SOK.nil [] MSOK.nil tok mixed [] IOK.nil false [(3, ⟨LiT l, fun r => ⟨1, [(1, .one (.ptr 0 0)), (3, int r.tot), (4, int r.i)], [(0, .cells (opA kd tag x l H))]⟩, fun r => l.length - r.i, fun _ _ => True⟩)] [] Tryd.call53 Tryd.func53 rfl (by rfl) ?_
  refine Eq.mp (α := (∃ i0 : LiT l, (And (And True (And (And (And ((true : Bool) = true) ((0 : Nat) = (0 : Nat))) (And ((↑(LiT.tot i0) : Int) = (0 : Int)) (And ((↑(LiT.i i0) : Int) = (0 : Int)) True))) (And (And (And (kd = kd) (And (tag = tag) (And (SV.view x (1 : Nat) (Enc.enc BE) l = SV.view x (1 : Nat) (Enc.enc BE) l) (And (H = H) True)))) (And ((true : Bool) = true) True)) ((true : Bool) = true)))) (∀ i : LiT l, (∀ a : True, (@Bool.rec (fun _ => Prop) (@Bool.rec (fun _ => Prop) (∃ o : LoT l, (And (And ((LoT.b o : Bool) = (decide ((200 : Int) < (↑(List.length l) : Int)))) True) (And True ((true : Bool) = true)))) (∃ o : LoT l, (And (And ((LoT.b o : Bool) = (true)) True) (And True ((true : Bool) = true)))) (decide ((4000 : Int) < (↑(LiT.tot i) : Int)))) (@Bool.rec (fun _ => Prop) (@Bool.rec (fun _ => Prop) (∃ o : LoT l, (And (And ((LoT.b o : Bool) = (decide ((200 : Int) < (↑(List.length l) : Int)))) True) (And True ((true : Bool) = true)))) (∃ o : LoT l, (And (And ((LoT.b o : Bool) = (true)) True) (And True ((true : Bool) = true)))) (decide ((4000 : Int) < (↑(LiT.tot i) : Int)))) (And ((0 : Int) ≤ (↑(LiT.i i) : Int)) (∃ hk : Int.toNat (↑(LiT.i i) : Int) < List.length l, (∃ i' : LiT l, (And (And (List.length l - LiT.i i' < List.length l - LiT.i i) True) (And (And (And ((true : Bool) = true) ((0 : Nat) = (0 : Nat))) (And ((↑(LiT.tot i') : Int) = IntKind.wrap IntKind.i64 ((↑(LiT.tot i) : Int) + if (5000 : Int) < (↑(List.length (Prod.snd (Prod.fst l[Int.toNat (↑(LiT.i i) : Int)]))) : Int) then (5000 : Int) else (↑(List.length (Prod.snd (Prod.fst l[Int.toNat (↑(LiT.i i) : Int)]))) : Int))) (And ((↑(LiT.i i') : Int) = IntKind.wrap IntKind.i64 ((↑(LiT.i i) : Int) + (1 : Int))) True))) (And (And (And (kd = kd) (And (tag = tag) (And (SV.view x (1 : Nat) (Enc.enc BE) l = SV.view x (1 : Nat) (Enc.enc BE) l) (And (H = H) True)))) (And ((true : Bool) = true) True)) ((true : Bool) = true))))))) (decide ((↑(LiT.tot i) : Int) ≤ (4000 : Int)))) (decide ((↑(LiT.i i) : Int) < (↑(List.length l) : Int))))))))) (by kernel_rfl) ?_
  refine ⟨⟨0, 0, Nat.zero_le _, by decide, fun _ y hy => by cases hy⟩, ?_, ?_⟩
  ·
    repeat' first | exact trivial | refine And.intro ?_ ?_ | with_reducible refine bif_dt (by assumption) ?_ | with_reducible refine bif_df (by assumption) ?_ | with_reducible refine bif_dec (fun _ => ?_) (fun _ => ?_) | with_reducible refine bif_not ?_ | with_reducible refine bif_and ?_ | with_reducible refine bif_or ?_ | with_reducible refine bif_t (by assumption) ?_ | with_reducible refine bif_f (by assumption) ?_ | with_reducible refine bif_t (beq_self_eq_true _) ?_ | with_reducible refine bif_b (fun _ => ?_) (fun _ => ?_) | with_reducible refine ⟨_, Eq.refl (List.map _ _), ?_⟩ | (with_reducible refine Exists.intro (by omega) ?_) | rfl | (intro h0; omega) | omega
  rintro ⟨i, tot, hi, ht, h⟩ -
  dsimp only
  have over : 4000 < tot → ∃ o : LoT l, (o.b = true ∧ True) ∧ True ∧ true = true := fun _ => ⟨⟨true, fun h => by cases h⟩, ⟨rfl, trivial⟩, trivial, rfl⟩
  have fine : i = l.length → tot ≤ 4000 → ∃ o : LoT l, (o.b = decide (200 < (l.length : Int)) ∧ True) ∧ True ∧ true = true := fun e1 e2 => ⟨⟨decide (200 < (l.length : Int)), fun h3 => by
    have h3 := of_decide_eq_false h3
    refine ⟨by omega, fun y hy => h e2 y ?_⟩
    rw [e1, List.take_length]
    exact hy⟩, ⟨rfl, trivial⟩, trivial, rfl⟩
  refine bif_dec (fun h1 => ?_) (fun h1 => ?_)
  rotate_left
  · refine bif_dec (fun h2 => over (by omega)) (fun h2 => fine (by omega) (by omega))
  refine bif_dec (fun h2 => ?_) (fun h2 => ?_)
  rotate_left
  · refine bif_dec (fun h3 => over (by omega)) (fun h3 => absurd h3 (by omega))
  have hi' : i < l.length := by omega
  have hw : IntKind.i64.wrap ((i : Int) + 1) = ((i + 1 : Nat) : Int) := inext (by omega)
  have hbl := bl_length l[i]
  have e : (if (5000 : Int) < ((l[i].1.2.length : Nat) : Int) then 5000 else ((l[i].1.2.length : Nat) : Int)) = ((min l[i].1.2.length 5000 : Nat) : Int) := by split <;> omega
  simp only [Int.toNat_natCast, hw, e]
  have hw2 : IntKind.i64.wrap ((tot : Int) + ((min l[i].1.2.length 5000 : Nat) : Int)) = ((tot + min l[i].1.2.length 5000 : Nat) : Int) := by rw [wrap64 (by omega) (by omega)]; omega
  rw [hw2]
  refine ⟨by omega, hi', ⟨i + 1, tot + min l[i].1.2.length 5000, hi', by omega, fun h3 y hy => ?_⟩, ⟨show l.length - (i + 1) < l.length - i by omega, trivial⟩, ?_⟩
  · rw [List.take_add_one, List.getElem?_eq_getElem hi'] at hy
    rcases List.mem_append.1 hy with hy | hy
    · exact h (by omega) y hy
    · have : y = l[i] := by simpa using hy
      rw [this, hbl]
      omega
  ·
    repeat' first | exact trivial | refine And.intro ?_ ?_ | with_reducible refine bif_dt (by assumption) ?_ | with_reducible refine bif_df (by assumption) ?_ | with_reducible refine bif_dec (fun _ => ?_) (fun _ => ?_) | with_reducible refine bif_not ?_ | with_reducible refine bif_and ?_ | with_reducible refine bif_or ?_ | with_reducible refine bif_t (by assumption) ?_ | with_reducible refine bif_f (by assumption) ?_ | with_reducible refine bif_t (beq_self_eq_true _) ?_ | with_reducible refine bif_b (fun _ => ?_) (fun _ => ?_) | with_reducible refine ⟨_, Eq.refl (List.map _ _), ?_⟩ | (with_reducible refine Exists.intro (by omega) ?_) | rfl | (intro h0; omega) | omega
def blongT : MT := fun ms n h K => match ms with
  | [.agg [.v (.int .i64 kd), .v (.string tag), .view vx0 ve0 en0 vl0, .ints .u8 32 H]] => bif Nat.beq ve0 1 && noDup [] then ∃ l : List (BTy), vl0.map en0 = l.map eBl ∧ (l.length ≤ 140737488351232) ∧ (∀ o : LoT l, K (n + 0) (bool o.b) ([] ++ delL [] h)) else False
  | _ => False
theorem blong_mono : MMono blongT := by
  intro ms n h K K' hkk hk
  unfold blongT at hk ⊢
  split at hk
  · rename_i kd tag vx0 ve0 va0 en0 vl0 H
    obtain ⟨hb, y0, z0, h1, h2⟩ := cond_false_elim hk
    rw [hb]
    exact ⟨y0, z0, h1, fun o => hkk _ _ _ (h2 o)⟩
  · exact hk.elim
theorem blong_ok : MOK Tryd.prog 53 blongT := by
  refine ⟨?_, blong_mono⟩
  intro ms n hB K hk
  unfold blongT at hk
  split at hk
  · rename_i kd tag vx0 ve0 va0 en0 vl0 H
    obtain ⟨hb, l, he0, h, hk2⟩ := cond_false_elim hk
    clear hk
    simp only [Bool.and_eq_true] at hb
    obtain ⟨hc0, hnd⟩ := hb
    have hs0 := Nat.eq_of_beq_eq_true hc0
    subst hs0
    refine SCall.seen ?_ (.cons (.agg (.refl (.refl (.view he0 (.refl .nil))))) .nil)
    exact (blong_spec _ _ _ _ h).use (fun _ => 0) rfl rfl trivial (by exact hnd) (fun j hj => absurd hj (Nat.not_lt_zero j)) (fun o => hk2 o)
  · exact hk.elim

abbrev EI : Enc (RK.TL [.int .u8]) := encRec [.int .u8]
def fstL : List BTy → List (RK.TL [.int .u8])
  | [] => []
  | y :: _ => bsl y
theorem fstL_enc (l : List BTy) : List.map EI.enc (fstL l) = List.map eB (fstB l) := by
  cases l with
  | nil => rfl
  | cons y r => exact (bl_enc y).symm
theorem bfirst_spec (kd : Int) (tag : ByteArray) (x : Value) (l : List BTy) {H : List Int} (hl : l.length ≤ 140737488351232) : SMem Tryd.prog 57 [.agg (opA kd tag x l H)] 0 [] (fun y : Value => ⟨0, .one (.view y 1 EI.enc (fstL l)), []⟩) := by
  refine SMem.inf 1 EI [] SOK.nil [] MSOK.nil tok mixed [] IOK.nil true [] [] Tryd.call57 Tryd.func57 rfl (by rfl) ?_
  refine Eq.mp (α := (@Bool.rec (fun _ => Prop) (And ((0 : Int) ≤ (0 : Int)) (∃ hk : Int.toNat (0 : Int) < List.length l, (∃ o : Value, (And (And (SV.view o (1 : Nat) (Enc.enc EI) (fstL l) = nilV (1 : Nat) EI (RK.sv._f (RK.sl (1 : Nat) [RK.int IntKind.u8]) ⟨RK.svs._f [RK.int IntKind.u8] ⟨⟨RK.sv._f (RK.int IntKind.u8) PUnit.unit, PUnit.unit⟩, RK.svs._f [] PUnit.unit, PUnit.unit⟩, ⟨RK.sv._f (RK.int IntKind.u8) PUnit.unit, PUnit.unit⟩, RK.svs._f [] PUnit.unit, PUnit.unit⟩ (Prod.fst l[Int.toNat (0 : Int)]))) True) (And True ((true : Bool) = true)))))) (∃ o : Value, (And (And (SV.view o (1 : Nat) (Enc.enc EI) (fstL l) = nilV (1 : Nat) EI (SV.v (Value.slice none (0 : Nat) (0 : Nat)))) True) (And True ((true : Bool) = true)))) ((↑(List.length l) : Int) == (0 : Int)))) (by kernel_rfl) ?_
  refine bif_b (fun h0 => ?_) (fun h0 => ?_)
  · have h1 : l = [] := List.length_eq_zero_iff.1 (by have := beq_iff_eq.1 h0; omega)
    subst h1
    exact ⟨.slice none 0 0, ⟨rfl, trivial⟩, trivial, rfl⟩
  · cases l with
    | nil => cases h0
    | cons y r => exact ⟨by decide, Nat.succ_pos _, y.1.1, ⟨rfl, trivial⟩, trivial, rfl⟩
def bfirstT : MT := fun ms n h K => match ms with
  | [.agg [.v (.int .i64 kd), .v (.string tag), .view vx0 ve0 en0 vl0, .ints .u8 32 H]] => bif Nat.beq ve0 1 && noDup [] then ∃ l : List (BTy), vl0.map en0 = l.map eBl ∧ (l.length ≤ 140737488351232) ∧ (∀ y : Value, K (n + 0) (.one (.view y 1 EI.enc (fstL l))) ([] ++ delL [] h)) else False
  | _ => False
theorem bfirst_mono : MMono bfirstT := by
  intro ms n h K K' hkk hk
  unfold bfirstT at hk ⊢
  split at hk
  · rename_i kd tag vx0 ve0 va0 en0 vl0 H
    obtain ⟨hb, y0, z0, h1, h2⟩ := cond_false_elim hk
    rw [hb]
    exact ⟨y0, z0, h1, fun o => hkk _ _ _ (h2 o)⟩
  · exact hk.elim
theorem bfirst_ok : MOK Tryd.prog 57 bfirstT := by
  refine ⟨?_, bfirst_mono⟩
  intro ms n hB K hk
  unfold bfirstT at hk
  split at hk
  · rename_i kd tag vx0 ve0 va0 en0 vl0 H
    obtain ⟨hb, l, he0, h, hk2⟩ := cond_false_elim hk
    clear hk
    simp only [Bool.and_eq_true] at hb
    obtain ⟨hc0, hnd⟩ := hb
    have hs0 := Nat.eq_of_beq_eq_true hc0
    subst hs0
    refine SCall.seen ?_ (.cons (.agg (.refl (.refl (.view he0 (.refl .nil))))) .nil)
    exact (bfirst_spec _ _ _ _ h).use (fun _ => 0) rfl rfl trivial (by exact hnd) (fun j hj => absurd hj (Nat.not_lt_zero j)) (fun o => hk2 o)
  · exact hk.elim

theorem bnum_spec (n : Int) : SFun Tryd.prog 59 [int n] (int n) := by
  refine SFun.inm [] SOK.nil [] MSOK.nil tok mixed [] IOK.nil true [] [] Tryd.call59 Tryd.func59 rfl (by rfl) ?_
  refine Eq.mp (α := (And (M.one (SV.v (Value.int IntKind.i64 n)) = M.one (SV.v (Value.int IntKind.i64 n))) ((true : Bool) = true))) (by kernel_rfl) ?_
  repeat' first | exact trivial | refine And.intro ?_ ?_ | with_reducible refine bif_dt (by assumption) ?_ | with_reducible refine bif_df (by assumption) ?_ | with_reducible refine bif_dec (fun _ => ?_) (fun _ => ?_) | with_reducible refine bif_not ?_ | with_reducible refine bif_and ?_ | with_reducible refine bif_or ?_ | with_reducible refine bif_t (by assumption) ?_ | with_reducible refine bif_f (by assumption) ?_ | with_reducible refine bif_t (beq_self_eq_true _) ?_ | with_reducible refine bif_b (fun _ => ?_) (fun _ => ?_) | with_reducible refine ⟨_, Eq.refl (List.map _ _), ?_⟩ | (with_reducible refine Exists.intro (by omega) ?_) | rfl | (intro h0; omega) | omega
def bnumT : List M → (M → Prop) → Prop
  | [.one (.v (.int .i64 n))], K => K (int n)
  | _, _ => False
theorem bnum_ok : POK Tryd.prog 59 bnumT := by
  intro ms K h
  unfold bnumT at h ⊢
  split at h
  · exact ⟨_, h, (bnum_spec _), rfl, fun _ hk => hk⟩
  · exact h.elim

end Go.Proofs.YtblapbjafbmndaaDoor

namespace Go.Proofs.YtblapbjafbmndaaDoor
open Go Go.Sx Go.Sha
set_option linter.unusedVariables false
set_option linter.unusedSimpArgs false
set_option maxRecDepth 100000
set_option maxHeartbeats 4000000

instance {k : IntKind} {n : Nat} : BEq (RK.T (.ints k n)) := inferInstanceAs (BEq (List Int))
def hdS : List ByteArray → ByteArray
  | a :: _ => a
  | [] => .empty
theorem under_append (L M : Ents) (h : List Int) : under (L ++ M) h = under L h ++ under M h := by simp [under]
theorem under_one (h k : List Int) (s : ByteArray) : under [(k, s)] h = if k = h then [s] else [] := by
  unfold under
  split
  · rename_i e; simp [e]
  · rename_i e; simp [e]
end Go.Proofs.YtblapbjafbmndaaDoor

namespace Go.Proofs.YtblapbjafbmndaaDoor
open Go Go.Sx Go.Sha
set_option linter.unusedVariables false
set_option linter.unusedSimpArgs false
set_option maxRecDepth 100000
set_option maxHeartbeats 4000000

/-- The first entry that is not the first under its hash. -/
def dcl (L : Ents) : Option (List Int × ByteArray) := L.find? fun x => !decide (hdS (under L x.1) = x.2)
def k0 (L : Ents) : ByteArray := match dcl L with
  | some x => hdS (under L x.1)
  | none => .empty
def k1 (L : Ents) : ByteArray := match dcl L with
  | some x => x.2
  | none => .empty
end Go.Proofs.YtblapbjafbmndaaDoor
