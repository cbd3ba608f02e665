/- The given statement CodecBackSaid holds of every call: for every argument that the guards let in. -/
import Derived.Test.YtjdlefkpoggocaaBr6
namespace Go.Proofs.Ytjdlefkpoggocaa
open Go Go.Sx Go.ChangeShapes Go.WideShapes Go.ChangeAt Go.RowKit
set_option linter.unusedVariables false
set_option linter.unusedSimpArgs false
set_option maxHeartbeats 4000000
set_option maxRecDepth 100000
theorem args_CodecBack {H : Type} {enc : TypeId × Value → H} {w : World} {base : Nat} {sp : Nat → Bool} {held : Bool} {t0 : TypeId} {args : Array Value} {ds : List (DataW H)} {ps : List MemPlace}
    (h : DataW.TrodAll enc Try.prog w base sp held [t0] args.toList ds ps) : ∃ v0 d0, args = #[v0] ∧ ds = [d0] ∧ (∃ p, DataW.Trod enc Try.prog w base sp held t0 v0 d0 p) := by
  obtain ⟨v0, vs, d0, ds1, p0, _, h0, rfl, rfl, r0, h⟩ := trodAll_cons h
  obtain ⟨rfl, rfl, rfl⟩ := trodAll_nil h
  exact ⟨v0, d0, by cases args; simp_all, rfl, ⟨p0, r0⟩⟩

theorem lifted_CodecBack (os : Os) (started : os.Started) (H : Type) (enc : TypeId × Value → H) :
    ReturnsInHanded {} Try.checked os 12 .any (Rows.codecBackSpec.pre6 enc Try.prog Try.f12 Rows.codecBackRow.domain false) (Rows.codecBackSpec.post enc Try.prog Try.f12 Rows.codecBackRow.apart Rows.codecBackRow.fresh Rows.codecBackRow.handsOn Rows.codecBackRow.again) := by
  refine returnsInHanded_of_change_sized (C := Try.checked) own started (by kernel_rfl) Try.func12
    (ChangeSpec.witness6 (enc := enc) (C := Try.checked) false ⟨#[], #[.slice none 0 0], []⟩ 8 (by kernel_rfl) (by kernel_rfl) (by kernel_rfl) (by kernel_rfl)) ?_
  intro W base args ds gs before hval0 hW _ hs _
  have hval : ∀ (j : Nat) t v, Try.f12.params[j]? = some t → args[j]? = some v → Value.okWide Try.prog W .any base t v := hval0
  have hW' := hW
  obtain ⟨p, q, hA0, hV, rfl, _, _⟩ := hW
  have hA : DataW.TrodAll enc Try.prog W 0 (fun _ => true) true Try.f12.params.toList args.toList ds p := hA0
  rw [Try.params12] at hA hval
  obtain ⟨v0, d0, rfl, rfl, ⟨p0, r0⟩⟩ := args_CodecBack hA
  obtain ⟨rfl, rfl⟩ := trodVars_none hV
  obtain ⟨z0, g0, e0, ok0, _, li0⟩ := read_argO (f := .sl 5 IFs) (by kernel_rfl) (by kernel_rfl) (hval 0 57 v0 rfl rfl) r0
  obtain ⟨x0, l0, f0, ok0, hg0, hl0, _⟩ := read_viewL (good := fun y => ItOk (it y) ∧ ItD (it y)) g0 (li0 (light_of (j := 0) hs (by rfl) (by rfl) (by kernel_rfl))) ok0 itE (fun el h w => it_decD el h w)
  rw [f0] at e0
  subst e0
  have hs0 : l0.length * 104 ≤ 140737488351232 := by
    have h := view_sized (P := Try.prog) (j := 0) hs (by rfl) (by rfl) (show Try.prog.underlying 57 = some (.slice 64) by kernel_rfl) r0 ok0
    rw [show Try.prog.bytesOf 64 = 104 by kernel_rfl] at h
    exact h
  refine ((cback' v0 l0 hl0 hg0 hs0).calls Try.call12 rfl W (fun _ _ _ h => by cases h) ?_).mono ?_
  · intro x hx
    simp only [List.mem_cons, List.not_mem_nil, or_false] at hx
    rcases hx with rfl
    · exact ok0
  · rintro e W' ⟨rfl, hos, hout, _, hb⟩
    refine ⟨_, rfl, ?_⟩
    exact post_true kids full (by rw [Try.params12]; decide) undB (by kernel_rfl) rfl rfl rfl rfl hW' hos hout hb

/-- The given statement CodecBackSaid. -/
theorem holds_CodecBack : Rows.CodecBackSaid :=
  OpenClaim.holds_of_wide 12 Try.f12 rfl rfl rfl rfl rfl rfl rfl ⟨rfl, rfl, rfl, rfl, rfl⟩ rfl rfl rfl rfl rfl (by kernel_rfl) Try.func12 (by kernel_rfl)
    (of_decide_eq_true (by kernel_rfl)) (by unfold Func.isWrapper; first | (rw [if_pos (by decide +kernel)]; kernel_rfl) | (rw [if_neg (by decide +kernel)]; exact ⟨rfl, rfl⟩))
    (fun os started H enc _ => lifted_CodecBack os started H enc)
end Go.Proofs.Ytjdlefkpoggocaa
