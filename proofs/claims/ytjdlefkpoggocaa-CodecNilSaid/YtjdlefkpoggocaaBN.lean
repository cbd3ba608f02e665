/- The given statement CodecNilSaid holds of every call: for every argument that the guards let in. -/
import Derived.Test.YtjdlefkpoggocaaQ49
import Derived.Test.YtjdlefkpoggocaaBr5
namespace Go.Proofs.Ytjdlefkpoggocaa
open Go Go.Sx Go.ChangeShapes Go.WideShapes Go.ChangeAt Go.RowKit
set_option linter.unusedVariables false
set_option linter.unusedSimpArgs false
set_option maxHeartbeats 4000000
set_option maxRecDepth 100000
theorem args_CodecNil {H : Type} {enc : TypeId × Value → H} {w : World} {base : Nat} {sp : Nat → Bool} {held : Bool} {t0 : TypeId} {args : Array Value} {ds : List (DataW H)} {ps : List MemPlace}
    (h : DataW.TrodAll enc Try.prog w base sp held [t0] args.toList ds ps) : ∃ v0 d0, args = #[v0] ∧ ds = [d0] ∧ (∃ p, DataW.Trod enc Try.prog w base sp held t0 v0 d0 p) := by
  obtain ⟨v0, vs, d0, ds1, p0, _, h0, rfl, rfl, r0, h⟩ := trodAll_cons h
  obtain ⟨rfl, rfl, rfl⟩ := trodAll_nil h
  exact ⟨v0, d0, by cases args; simp_all, rfl, ⟨p0, r0⟩⟩

theorem lifted_CodecNil (os : Os) (started : os.Started) (H : Type) (enc : TypeId × Value → H) :
    ReturnsInHanded {} Try.checked os 13 .any (Rows.codecNilSpec.pre6 enc Try.prog Try.f13 Rows.codecNilRow.domain false) (Rows.codecNilSpec.post enc Try.prog Try.f13 Rows.codecNilRow.apart Rows.codecNilRow.fresh Rows.codecNilRow.handsOn Rows.codecNilRow.again) := by
  refine returnsInHanded_of_change_sized (C := Try.checked) own started (by kernel_rfl) Try.func13
    (ChangeSpec.witness6 (enc := enc) (C := Try.checked) false ⟨#[], #[(M.agg [.v (.int .i64 0), .v (.slice none 0 0), .v (.slice none 0 0), .v (.slice none 0 0), .v (.slice none 0 0)]).den id], []⟩ 8 (by kernel_rfl) (by kernel_rfl) (by kernel_rfl) (by kernel_rfl)) ?_
  intro W base args ds gs before hval0 hW _ hs _
  have hval : ∀ (j : Nat) t v, Try.f13.params[j]? = some t → args[j]? = some v → Value.okWide Try.prog W .any base t v := hval0
  have hW' := hW
  obtain ⟨p, q, hA0, hV, rfl, _, _⟩ := hW
  have hA : DataW.TrodAll enc Try.prog W 0 (fun _ => true) true Try.f13.params.toList args.toList ds p := hA0
  rw [Try.params13] at hA hval
  obtain ⟨v0, d0, rfl, rfl, ⟨p0, r0⟩⟩ := args_CodecNil hA
  obtain ⟨rfl, rfl⟩ := trodVars_none hV
  obtain ⟨y0, g0, e0, ok0, _, li0⟩ := read_argL (fs := IFs) (by kernel_rfl) (by kernel_rfl) (hval 0 64 v0 rfl rfl) r0
  have w0 := li0 (light_of (j := 0) hs (by rfl) (by rfl) (by kernel_rfl))
  subst e0
  refine ((nil' y0 g0 w0).calls Try.call13 rfl W ?_).mono ?_
  · intro x hx
    simp only [List.mem_cons, List.not_mem_nil, or_false] at hx
    rcases hx with rfl
    · exact ok0
  · rintro e W' ⟨rfl, hos, hout, _, hb⟩
    refine ⟨_, rfl, ?_⟩
    exact post_true kids full (by rw [Try.params13]; decide) undB (by kernel_rfl) rfl rfl rfl rfl hW' hos hout hb

/-- The given statement CodecNilSaid. -/
theorem holds_CodecNil : Rows.CodecNilSaid :=
  OpenClaim.holds_of_wide 13 Try.f13 rfl rfl rfl rfl rfl rfl rfl ⟨rfl, rfl, rfl, rfl, rfl⟩ rfl rfl rfl rfl rfl (by kernel_rfl) Try.func13 (by kernel_rfl)
    (of_decide_eq_true (by kernel_rfl)) (by unfold Func.isWrapper; first | (rw [if_pos (by decide +kernel)]; kernel_rfl) | (rw [if_neg (by decide +kernel)]; exact ⟨rfl, rfl⟩))
    (fun os started H enc _ => lifted_CodecNil os started H enc)
end Go.Proofs.Ytjdlefkpoggocaa
