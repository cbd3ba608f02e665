/- Parts in memory of their own; digests of frames and of pairs; the law DigestFrames. -/
import Derived.Test.YtblapbjafbmndaaDoorP8
import Derived.Test.YtblapbjafbmndaaDoorSx24
namespace Go.Proofs.YtblapbjafbmndaaDoor
open Go Go.Sx Go.Sha
set_option linter.unusedVariables false
set_option linter.unusedSimpArgs false
set_option maxRecDepth 100000
set_option maxHeartbeats 4000000

/-- Rows with the same bytes. -/
structure PiT (l : List BTy) where
  i : Nat
  r : List BTy
  cap : Nat
  hi : i ≤ l.length
  hc : r.length ≤ cap
  he : r.map bl = (l.take i).map bl
structure PaT (l : List BTy) where
  y : Value
  r : List BTy
  he : r.map bl = l.map bl
theorem PiT.len {l : List BTy} (o : PiT l) : o.r.length = o.i := by
  have := congrArg List.length o.he
  have h := o.hi
  simp at this
  omega
theorem PaT.len {l : List BTy} (o : PaT l) : o.r.length = l.length := by have := congrArg List.length o.he; simpa using this
theorem frm_By {t : ByteArray} {l : List BTy} (h : ∀ y ∈ l, By (bl y)) : By (frm t l) := frameF_By (sl_By t) fun a ha => by
  obtain ⟨y, hy, rfl⟩ := List.mem_map.1 ha
  exact h y hy
theorem frm_len (t : ByteArray) (l : List BTy) : (frm t l).length ≤ 256 + (l.flatMap fB).length := by
  have := frm_mono t l l.length
  rwa [List.take_length] at this
theorem tagged_spec (x : Value) (t : ByteArray) {l : List BTy} (h : (l.flatMap fB).length ≤ 140000000000000) (ht : t.size ≤ 140737488351232) (hB : ∀ y ∈ l, By (bl y)) :
    SFun Tryd.prog 24 [str t, bV x l] (h32 (shaF (frm t l))) := by
  refine SFun.inm [(17, sumT)] (SOK.cons sum_ok SOK.nil) [(21, frameT)] (MSOK.cons frame_ok MSOK.nil) tok mixed [] IOK.nil true [] [] Tryd.call24 Tryd.func24 rfl (by rfl) ?_
  refine Eq.mp (α := (∃ l_1 : List BTy, (And (List.map (Enc.enc BE) l = List.map eBl l_1) (And (And (List.length (List.flatMap fB l_1) ≤ (140000000000000 : Nat)) (ByteArray.size t ≤ (140737488351232 : Nat))) (∀ y : Value, (∃ b : List Int, (And (List.map (Enc.enc (encInt IntKind.u8)) (frm t l_1) = List.map eB b) (And (And (∀ x_1 : Int, (∀ a : x_1 ∈ b, (And ((0 : Int) ≤ x_1) (x_1 < (256 : Int))))) (List.length b ≤ (140737488351232 : Nat))) (And (M.agg [SV.ints IntKind.u8 (32 : Nat) (shaF b)] = M.agg [SV.ints IntKind.u8 (32 : Nat) (shaF (frm t l))]) ((true : Bool) = true)))))))))) (by kernel_rfl) ?_
  have := frm_len t l
  refine ⟨l, rfl, ⟨h, ht⟩, fun y => ⟨frm t l, rfl, ⟨frm_By hB, by omega⟩, ?_⟩⟩
  repeat' first | exact trivial | refine And.intro ?_ ?_ | with_reducible refine bif_dt (by assumption) ?_ | with_reducible refine bif_df (by assumption) ?_ | with_reducible refine bif_dec (fun _ => ?_) (fun _ => ?_) | with_reducible refine bif_not ?_ | with_reducible refine bif_and ?_ | with_reducible refine bif_or ?_ | with_reducible refine bif_t (by assumption) ?_ | with_reducible refine bif_f (by assumption) ?_ | with_reducible refine bif_t (beq_self_eq_true _) ?_ | with_reducible refine bif_b (fun _ => ?_) (fun _ => ?_) | with_reducible refine ⟨_, Eq.refl (List.map _ _), ?_⟩ | (with_reducible refine Exists.intro (by omega) ?_) | rfl | (intro h0; omega) | omega
def taggedMT : MT := fun ms n h K => match ms with
  | [.one (.v (.string t)), .one (.view vx0 ve0 en0 vl0)] => bif Nat.beq ve0 1 && noDup [] then ∃ l : List (BTy), vl0.map en0 = l.map eBl ∧ (((l.flatMap fB).length ≤ 140000000000000 ∧ t.size ≤ 140737488351232 ∧ ∀ y ∈ l, By (bl y))) ∧ (∀ o : Unit, K (n + 0) (h32 (shaF (frm t l))) ([] ++ delL [] h)) else False
  | _ => False
theorem taggedM_mono : MMono taggedMT := by
  intro ms n h K K' hkk hk
  unfold taggedMT at hk ⊢
  split at hk
  · rename_i t vx0 ve0 va0 en0 vl0
    obtain ⟨hb, y0, z0, h1, h2⟩ := cond_false_elim hk
    rw [hb]
    exact ⟨y0, z0, h1, fun o => hkk _ _ _ (h2 o)⟩
  · exact hk.elim
theorem taggedM_ok : MOK Tryd.prog 24 taggedMT := by
  refine ⟨?_, taggedM_mono⟩
  intro ms n hB K hk
  unfold taggedMT at hk
  split at hk
  · rename_i t vx0 ve0 va0 en0 vl0
    obtain ⟨hb, l, he0, h, hk2⟩ := cond_false_elim hk
    clear hk
    simp only [Bool.and_eq_true] at hb
    obtain ⟨hc0, hnd⟩ := hb
    have hs0 := Nat.eq_of_beq_eq_true hc0
    subst hs0
    refine SCall.seen ?_ (.cons (.refl _) (.cons (.view he0) .nil))
    exact ((tagged_spec _ _ h.1 h.2.1 h.2.2).mem rfl).use (fun _ => 0) rfl rfl trivial hnd (fun j hj => absurd hj (Nat.not_lt_zero j)) (fun o => hk2 o)
  · exact hk.elim

end Go.Proofs.YtblapbjafbmndaaDoor
