/- The given statement InboxPlaysSaid holds of every call: for every argument that the guards let in. -/
import Derived.Test.YtgbikcniediomaaPK
import Derived.Test.YtgbikcniediomaaBi4
namespace Go.Proofs.Ytgbikcniediomaa
open Go Go.Sx Go.ChangeShapes Go.WideShapes Go.ChangeAt Go.RowKit
set_option linter.unusedVariables false
set_option linter.unusedSimpArgs false
set_option maxHeartbeats 4000000
set_option maxRecDepth 100000
theorem args_InboxPlays {H : Type} {enc : TypeId × Value → H} {w : World} {base : Nat} {sp : Nat → Bool} {held : Bool} {t0 : TypeId} {args : Array Value} {ds : List (DataW H)} {ps : List MemPlace}
    (h : DataW.TrodAll enc Try.prog w base sp held [t0] args.toList ds ps) : ∃ v0 d0, args = #[v0] ∧ ds = [d0] ∧ (∃ p, DataW.Trod enc Try.prog w base sp held t0 v0 d0 p) := by
  obtain ⟨v0, vs, d0, ds1, p0, _, h0, rfl, rfl, r0, h⟩ := trodAll_cons h
  obtain ⟨rfl, rfl, rfl⟩ := trodAll_nil h
  exact ⟨v0, d0, by cases args; simp_all, rfl, ⟨p0, r0⟩⟩

theorem lifted_InboxPlays (os : Os) (started : os.Started) (H : Type) (enc : TypeId × Value → H) :
    ReturnsInHanded {} Try.checked os 5 .any (Rows.inboxPlaysSpec.pre6 enc Try.prog Try.f5 Rows.inboxPlaysRow.domain false) (Rows.inboxPlaysSpec.post enc Try.prog Try.f5 Rows.inboxPlaysRow.apart Rows.inboxPlaysRow.fresh Rows.inboxPlaysRow.handsOn Rows.inboxPlaysRow.again) := by
  refine returnsInHanded_of_change_sized (C := Try.checked) own started (by kernel_rfl) Try.func5
    (ChangeSpec.witness6 (enc := enc) (C := Try.checked) false ⟨#[], #[.slice none 0 0], []⟩ 8 (by kernel_rfl) (by kernel_rfl) (by kernel_rfl) (by kernel_rfl)) ?_
  intro W base args ds gs before hval0 hW _ hs _
  have hval : ∀ (j : Nat) t v, Try.f5.params[j]? = some t → args[j]? = some v → Value.okWide Try.prog W .any base t v := hval0
  have hW' := hW
  obtain ⟨p, q, hA0, hV, rfl, _, _⟩ := hW
  have hA : DataW.TrodAll enc Try.prog W 0 (fun _ => true) true Try.f5.params.toList args.toList ds p := hA0
  rw [Try.params5] at hA hval
  obtain ⟨v0, d0, rfl, rfl, ⟨p0, r0⟩⟩ := args_InboxPlays hA
  obtain ⟨rfl, rfl⟩ := trodVars_none hV
  obtain ⟨z0, g0, e0, ok0, _, li0⟩ := read_argO (f := .sl 11 OpF) (by kernel_rfl) (by kernel_rfl) (hval 0 42 v0 rfl rfl) r0
  obtain ⟨x0, l0, f0, ok0, hg0, hl0, _⟩ := read_viewL (good := fun _ => True) g0 (li0 (light_of (j := 0) hs (by rfl) (by rfl) (by kernel_rfl))) ok0 EO.enc (fun el h w => o_dec el h w)
  rw [f0] at e0
  subst e0
  have hs0 : l0.length * 120 ≤ 140737488351232 := by
    have h := view_sized (P := Try.prog) (j := 0) hs (by rfl) (by rfl) (show Try.prog.underlying 42 = some (.slice 60) by kernel_rfl) r0 ok0
    rw [show Try.prog.bytesOf 60 = 120 by kernel_rfl] at h
    exact h
  refine ((plays' v0 l0 hl0 hg0 hs0).calls Try.call5 rfl W (fun _ _ _ h => by cases h) ?_).mono ?_
  · intro x hx
    simp only [List.mem_cons, List.not_mem_nil, or_false] at hx
    rcases hx with rfl
    · exact ok0
  · rintro e W' ⟨rfl, hos, hout, _, hb⟩
    refine ⟨_, rfl, ?_⟩
    exact post_true kids full (by rw [Try.params5]; decide) undB (by kernel_rfl) rfl rfl rfl rfl hW' hos hout hb

theorem holds_InboxPlays : Rows.InboxPlaysSaid :=
  OpenClaim.holds_of_wide 5 Try.f5 rfl rfl rfl rfl rfl rfl rfl ⟨rfl, rfl, rfl, rfl, rfl⟩ rfl rfl rfl rfl rfl (by kernel_rfl) Try.func5 (by kernel_rfl)
    (of_decide_eq_true (by kernel_rfl)) (by unfold Func.isWrapper; first | (rw [if_pos (by decide +kernel)]; kernel_rfl) | (rw [if_neg (by decide +kernel)]; exact ⟨rfl, rfl⟩))
    (fun os started H enc _ => lifted_InboxPlays os started H enc)
end Go.Proofs.Ytgbikcniediomaa
