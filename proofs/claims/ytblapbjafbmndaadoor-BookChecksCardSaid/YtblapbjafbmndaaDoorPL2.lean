/- Sum and Tagged of a book; an act's first part, its length. -/
import Derived.Test.YtblapbjafbmndaaDoorPL1
import Derived.Test.YtblapbjafbmndaaDoorSx24
namespace Go.Proofs.YtblapbjafbmndaaDoor
open Go Go.Sx Go.Sha
set_option linter.unusedVariables false
set_option linter.unusedSimpArgs false
set_option maxRecDepth 100000
set_option maxHeartbeats 4000000

theorem bsum_spec (y : Value) {A : List Nat} {L : Ents} {cs : List ByteArray} {b : List Int} (hb : By b) (hl : b.length ≤ 140737488351232) (hL : L.length ≤ 100000) : SMem Tryd.prog 56 [.one (.ptr 0 0), byV y b] 1 [(0, .obj A [] (bookAbs L cs))]
    (fun A' : List Nat => ⟨1, h32 (shaF b), [(0, .obj A' [] (bookAbs (putB L cs (shaF b) (strOfNums b)).1 (putB L cs (shaF b) (strOfNums b)).2))]⟩) := by
  refine SMem.inm [(17, sumT)] (SOK.cons sum_ok SOK.nil) [(2000060, noT), (60, bputT)] (MSOK.cons noT_ok (MSOK.cons bput_ok MSOK.nil)) tok mixed [] IOK.nil true [] [] Tryd.call56 Tryd.func56 rfl (by rfl) ?_
  refine Eq.mp (α := (∃ b_1 : List Int, (And (List.map (Enc.enc (encInt IntKind.u8)) b = List.map eB b_1) (And (And (∀ x : Int, (∀ a : x ∈ b_1, (And ((0 : Int) ≤ x) (x < (256 : Int))))) (List.length b_1 ≤ (140737488351232 : Nat))) (∃ b_2 : List Int, (And (List.map (Enc.enc (encInt IntKind.u8)) b = List.map eB b_2) (∃ L_1 : Ents, (∃ cs_1 : List ByteArray, (And (And (bookAbs L cs = bookAbs L_1 cs_1) (And (List.length (shaF b_1) = (32 : Nat)) (List.length L_1 ≤ (100000 : Nat)))) (∀ o : List Nat, (∃ o_1 : List Nat, (And (And (And (shaF b = shaF b_1) True) True) (And (And (And (o_1 = o) (And True (bookAbs (Prod.fst (putB L cs (shaF b) (strOfNums b))) (Prod.snd (putB L cs (shaF b) (strOfNums b))) = bookAbs (Prod.fst (putB L_1 cs_1 (shaF b_1) (strOfNums b_2))) (Prod.snd (putB L_1 cs_1 (shaF b_1) (strOfNums b_2)))))) (And ((true : Bool) = true) True)) ((true : Bool) = true)))))))))))))) (by kernel_rfl) ?_
  exact ⟨b, rfl, ⟨hb, hl⟩, b, rfl, L, cs, ⟨rfl, shaF_length b, hL⟩, fun o => ⟨o, ⟨⟨rfl, trivial⟩, trivial⟩, ⟨⟨rfl, trivial, rfl⟩, rfl, trivial⟩, rfl⟩⟩
def bsumT : MT := fun ms n h K => match ms with
  | [.one (.ptr P0 0), .one (.view vx0 ve0 en0 vl0)] => (match get h P0 with
    | some (.obj A [] o0) => bif Nat.beq ve0 1 && noDup [P0] then ∃ b : List (Int), vl0.map en0 = b.map eB ∧ ∃ (L : Ents) (cs : List ByteArray), ((o0 = bookAbs L cs) ∧ By b ∧ b.length ≤ 140737488351232 ∧ L.length ≤ 100000) ∧ (∀ o : List Nat, K (n + 0) (h32 (shaF b)) ([(P0, .obj o [] (bookAbs (putB L cs (shaF b) (strOfNums b)).1 (putB L cs (shaF b) (strOfNums b)).2))] ++ delL [P0] h)) else False
    | _ => False)
  | _ => False
theorem bsum_mono : MMono bsumT := by
  intro ms n h K K' hkk hk
  unfold bsumT at hk ⊢
  split at hk
  · rename_i P0 vx0 ve0 va0 en0 vl0
    split at hk
    · rename_i A o0 hg0
      try simp only [hg0]
      obtain ⟨hb, y0, z0, q0, q1, h1, h2⟩ := cond_false_elim hk
      rw [hb]
      exact ⟨y0, z0, q0, q1, h1, fun o => hkk _ _ _ (h2 o)⟩
    · exact hk.elim
  · exact hk.elim
theorem bsum_ok : MOK Tryd.prog 56 bsumT := by
  refine ⟨?_, bsum_mono⟩
  intro ms n hB K hk
  unfold bsumT at hk
  split at hk
  · rename_i P0 vx0 ve0 va0 en0 vl0
    split at hk
    · rename_i A o0 hg0
      obtain ⟨hb, b, he0, L, cs, h, hk2⟩ := cond_false_elim hk
      clear hk
      obtain ⟨rfl, h⟩ := h
      simp only [Bool.and_eq_true] at hb
      obtain ⟨hc0, hnd⟩ := hb
      have hs0 := Nat.eq_of_beq_eq_true hc0
      subst hs0
      refine SCall.seen ?_ (.cons (.refl _) (.cons (.view he0) .nil))
      exact (bsum_spec _ (A := A) (L := L) (cs := cs) h.1 h.2.1 h.2.2).use (fun j => match j with | 0 => P0 | _ => 0) rfl rfl ⟨by show (match get hB P0 with | some b0 => Blk.imp _ _ _ b0 | none => False); rw [hg0]; exact ⟨rfl, .inl ⟨rfl, rfl⟩, rfl⟩, rfl, trivial⟩ (by exact hnd) (fun j hj => by cases j with
          | zero => exact ⟨_, rfl⟩
          | succ j => omega) (fun o => hk2 o)
    · exact hk.elim
  · exact hk.elim

theorem bnum_spec (n : Int) : SFun Tryd.prog 59 [int n] (int n) := by
  refine SFun.inm [] SOK.nil [] MSOK.nil tok mixed [] IOK.nil true [] [] Tryd.call59 Tryd.func59 rfl (by rfl) ?_
  refine Eq.mp (α := (And (M.one (SV.v (Value.int IntKind.i64 n)) = M.one (SV.v (Value.int IntKind.i64 n))) ((true : Bool) = true))) (by kernel_rfl) ?_
  repeat' first | exact trivial | refine And.intro ?_ ?_ | with_reducible refine bif_dt (by assumption) ?_ | with_reducible refine bif_df (by assumption) ?_ | with_reducible refine bif_dec (fun _ => ?_) (fun _ => ?_) | with_reducible refine bif_not ?_ | with_reducible refine bif_and ?_ | with_reducible refine bif_or ?_ | with_reducible refine bif_t (by assumption) ?_ | with_reducible refine bif_f (by assumption) ?_ | with_reducible refine bif_t (beq_self_eq_true _) ?_ | with_reducible refine bif_b (fun _ => ?_) (fun _ => ?_) | with_reducible refine ⟨_, Eq.refl (List.map _ _), ?_⟩ | (with_reducible refine Exists.intro (by omega) ?_) | rfl | (intro h0; omega) | omega
def bnumT : List M → (M → Prop) → Prop
  | [.one (.v (.int .i64 n))], K => K (int n)
  | _, _ => False
theorem bnum_ok : POK Tryd.prog 59 bnumT := by
  intro ms K h
  unfold bnumT at h ⊢
  split at h
  · exact ⟨_, h, (bnum_spec _), rfl, fun _ hk => hk⟩
  · exact h.elim

end Go.Proofs.YtblapbjafbmndaaDoor

namespace Go.Proofs.YtblapbjafbmndaaDoor
open Go Go.Sx Go.Sha
set_option linter.unusedVariables false
set_option linter.unusedSimpArgs false
set_option maxRecDepth 100000
set_option maxHeartbeats 4000000

instance {k : IntKind} {n : Nat} : BEq (RK.T (.ints k n)) := inferInstanceAs (BEq (List Int))
def hdS : List ByteArray → ByteArray
  | a :: _ => a
  | [] => .empty
theorem under_append (L M : Ents) (h : List Int) : under (L ++ M) h = under L h ++ under M h := by simp [under]
theorem under_one (h k : List Int) (s : ByteArray) : under [(k, s)] h = if k = h then [s] else [] := by
  unfold under
  split
  · rename_i e; simp [e]
  · rename_i e; simp [e]
end Go.Proofs.YtblapbjafbmndaaDoor

namespace Go.Proofs.YtblapbjafbmndaaDoor
open Go Go.Sx Go.Sha
set_option linter.unusedVariables false
set_option linter.unusedSimpArgs false
set_option maxRecDepth 100000
set_option maxHeartbeats 4000000

/-- The first entry that is not the first under its hash. -/
def dcl (L : Ents) : Option (List Int × ByteArray) := L.find? fun x => !decide (hdS (under L x.1) = x.2)
def k0 (L : Ents) : ByteArray := match dcl L with
  | some x => hdS (under L x.1)
  | none => .empty
def k1 (L : Ents) : ByteArray := match dcl L with
  | some x => x.2
  | none => .empty
end Go.Proofs.YtblapbjafbmndaaDoor
