/- The given statement ClaimMovesSaid holds of every call: for every argument that the guards let in. -/
import Derived.Test.YtphbjceeoedigaaP12
import Derived.Test.YtphbjceeoedigaaBr
namespace Go.Proofs.Ytphbjceeoedigaa
open Go Go.Sx Go.ChangeShapes Go.WideShapes Go.ChangeAt Go.RowKit
set_option linter.unusedVariables false
set_option linter.unusedSimpArgs false
set_option maxHeartbeats 4000000
set_option maxRecDepth 100000
theorem args_ClaimMoves {H : Type} {enc : TypeId × Value → H} {w : World} {base : Nat} {sp : Nat → Bool} {held : Bool} {t0 t1 : TypeId} {args : Array Value} {ds : List (DataW H)} {ps : List MemPlace}
    (h : DataW.TrodAll enc Try.prog w base sp held [t0, t1] args.toList ds ps) : ∃ v0 v1 d0 d1, args = #[v0, v1] ∧ ds = [d0, d1] ∧ (∃ p, DataW.Trod enc Try.prog w base sp held t0 v0 d0 p) ∧ (∃ p, DataW.Trod enc Try.prog w base sp held t1 v1 d1 p) := by
  obtain ⟨v0, vs, d0, ds1, p0, _, h0, rfl, rfl, r0, h⟩ := trodAll_cons h
  obtain ⟨v1, vs, d1, ds2, p1, _, rfl, rfl, rfl, r1, h⟩ := trodAll_cons h
  obtain ⟨rfl, rfl, rfl⟩ := trodAll_nil h
  exact ⟨v0, v1, d0, d1, by cases args; simp_all, rfl, ⟨p0, r0⟩, ⟨p1, r1⟩⟩

theorem lifted_ClaimMoves (os : Os) (started : os.Started) (H : Type) (enc : TypeId × Value → H) :
    ReturnsInHanded {} Try.checked os 7 .any (Rows.claimMovesSpec.pre6 enc Try.prog Try.f7 Rows.claimMovesRow.domain false) (Rows.claimMovesSpec.post enc Try.prog Try.f7 Rows.claimMovesRow.apart Rows.claimMovesRow.fresh Rows.claimMovesRow.handsOn Rows.claimMovesRow.again) := by
  refine returnsInHanded_of_change_sized (C := Try.checked) own started (by kernel_rfl) Try.func7
    (ChangeSpec.witness6 (enc := enc) (C := Try.checked) false ⟨#[], #[.slice none 0 0, (seg 0 0 hz hz hz false).den id], []⟩ 8 (by kernel_rfl) (by kernel_rfl) (by kernel_rfl) (by kernel_rfl)) ?_
  intro W base args ds gs before hval0 hW _ hs _
  have hval : ∀ (j : Nat) t v, Try.f7.params[j]? = some t → args[j]? = some v → Value.okWide Try.prog W .any base t v := hval0
  have hW' := hW
  obtain ⟨p, q, hA0, hV, rfl, _, _⟩ := hW
  have hA : DataW.TrodAll enc Try.prog W 0 (fun _ => true) true Try.f7.params.toList args.toList ds p := hA0
  rw [Try.params7] at hA hval
  obtain ⟨v0, v1, d0, d1, rfl, rfl, ⟨p0, r0⟩, ⟨p1, r1⟩⟩ := args_ClaimMoves hA
  obtain ⟨rfl, rfl⟩ := trodVars_none hV
  obtain ⟨z0, g0, e0, ok0, _⟩ := read_argO (f := .sl 32 [.ints .u8 32]) (by kernel_rfl) (by kernel_rfl) (hval 0 47 v0 rfl rfl) r0
  obtain ⟨x0, l0, f0, ok0, hg0, hl0⟩ := read_view (good := fun y => y.length = 32) g0 ok0 encH (fun el h => ⟨el.1, h.1.1, rfl⟩)
  rw [f0] at e0
  subst e0
  have hs0 : l0.length * 32 ≤ 140737488351232 := by
    have h := view_sized (P := Try.prog) (j := 0) hs (by rfl) (by rfl) (show Try.prog.underlying 47 = some (.slice 23) by kernel_rfl) r0 ok0
    rw [show Try.prog.bytesOf 23 = 32 by kernel_rfl] at h
    exact h
  obtain ⟨⟨lo1, hi1, f1, t1, m1, b1, _⟩, g1, e1, ok1, _⟩ := read_argA (fs := [.int .i64, .int .i64, .ints .u8 32, .ints .u8 32, .ints .u8 32, .bool]) (by kernel_rfl) (by kernel_rfl) (hval 1 25 v1 rfl rfl) r1
  replace e1 : v1 = (seg lo1 hi1 f1 t1 m1 b1).den id := e1
  replace ok1 : (seg lo1 hi1 f1 t1 m1 b1).Ok W (fun _ => False) 0 := ok1
  subst e1
  refine ((moves_spec v0 l0 lo1 hi1 f1 t1 m1 b1 hl0 hs0).calls rfl W ?_).mono ?_
  · intro x hx
    simp only [List.mem_cons, List.not_mem_nil, or_false] at hx
    rcases hx with rfl | rfl
    · exact ok0
    · exact ok1
  · rintro e W' ⟨rfl, hos, hout, _, hb⟩
    refine ⟨_, rfl, ?_⟩
    exact post_true kids full (by rw [Try.params7]; decide) undB (by kernel_rfl) rfl rfl rfl rfl hW' hos hout hb

/-- The given statement ClaimMovesSaid. -/
theorem holds_ClaimMoves : Rows.ClaimMovesSaid :=
  OpenClaim.holds_of_wide 7 Try.f7 rfl rfl rfl rfl rfl rfl rfl ⟨rfl, rfl, rfl, rfl, rfl⟩ rfl rfl rfl rfl rfl (by kernel_rfl) Try.func7 (by kernel_rfl)
    (of_decide_eq_true (by kernel_rfl)) (by unfold Func.isWrapper; first | (rw [if_pos (by decide +kernel)]; kernel_rfl) | (rw [if_neg (by decide +kernel)]; exact ⟨rfl, rfl⟩))
    (fun os started H enc _ => lifted_ClaimMoves os started H enc)
end Go.Proofs.Ytphbjceeoedigaa
