/- The given statement CodecOneSaid holds of every call: for every argument that the guards let in. -/
import Derived.Test.YtjdlefkpoggocaaQ43
import Derived.Test.YtjdlefkpoggocaaBr3
namespace Go.Proofs.Ytjdlefkpoggocaa
open Go Go.Sx Go.ChangeShapes Go.WideShapes Go.ChangeAt Go.RowKit
set_option linter.unusedVariables false
set_option linter.unusedSimpArgs false
set_option maxHeartbeats 4000000
set_option maxRecDepth 100000
theorem args_CodecOne {H : Type} {enc : TypeId × Value → H} {w : World} {base : Nat} {sp : Nat → Bool} {held : Bool} {t0 t1 t2 t3 : TypeId} {args : Array Value} {ds : List (DataW H)} {ps : List MemPlace}
    (h : DataW.TrodAll enc Try.prog w base sp held [t0, t1, t2, t3] args.toList ds ps) : ∃ v0 v1 v2 v3 d0 d1 d2 d3, args = #[v0, v1, v2, v3] ∧ ds = [d0, d1, d2, d3] ∧ (∃ p, DataW.Trod enc Try.prog w base sp held t0 v0 d0 p) ∧ (∃ p, DataW.Trod enc Try.prog w base sp held t1 v1 d1 p) ∧ (∃ p, DataW.Trod enc Try.prog w base sp held t2 v2 d2 p) ∧ (∃ p, DataW.Trod enc Try.prog w base sp held t3 v3 d3 p) := by
  obtain ⟨v0, vs, d0, ds1, p0, _, h0, rfl, rfl, r0, h⟩ := trodAll_cons h
  obtain ⟨v1, vs, d1, ds2, p1, _, rfl, rfl, rfl, r1, h⟩ := trodAll_cons h
  obtain ⟨v2, vs, d2, ds3, p2, _, rfl, rfl, rfl, r2, h⟩ := trodAll_cons h
  obtain ⟨v3, vs, d3, ds4, p3, _, rfl, rfl, rfl, r3, h⟩ := trodAll_cons h
  obtain ⟨rfl, rfl, rfl⟩ := trodAll_nil h
  exact ⟨v0, v1, v2, v3, d0, d1, d2, d3, by cases args; simp_all, rfl, ⟨p0, r0⟩, ⟨p1, r1⟩, ⟨p2, r2⟩, ⟨p3, r3⟩⟩

theorem lifted_CodecOne (os : Os) (started : os.Started) (H : Type) (enc : TypeId × Value → H) :
    ReturnsInHanded {} Try.checked os 10 .any (Rows.codecOneSpec.pre6 enc Try.prog Try.f10 Rows.codecOneRow.domain false) (Rows.codecOneSpec.post enc Try.prog Try.f10 Rows.codecOneRow.apart Rows.codecOneRow.fresh Rows.codecOneRow.handsOn Rows.codecOneRow.again) := by
  refine returnsInHanded_of_change_sized (C := Try.checked) own started (by kernel_rfl) Try.func10
    (ChangeSpec.witness6 (enc := enc) (C := Try.checked) false ⟨#[], #[.slice none 0 0, .slice none 0 0, .slice none 0 0, .slice none 0 0], []⟩ 8 (by kernel_rfl) (by kernel_rfl) (by kernel_rfl) (by kernel_rfl)) ?_
  intro W base args ds gs before hval0 hW _ hs _
  have hval : ∀ (j : Nat) t v, Try.f10.params[j]? = some t → args[j]? = some v → Value.okWide Try.prog W .any base t v := hval0
  have hW' := hW
  obtain ⟨p, q, hA0, hV, rfl, _, _⟩ := hW
  have hA : DataW.TrodAll enc Try.prog W 0 (fun _ => true) true Try.f10.params.toList args.toList ds p := hA0
  rw [Try.params10] at hA hval
  obtain ⟨v0, v1, v2, v3, d0, d1, d2, d3, rfl, rfl, ⟨p0, r0⟩, ⟨p1, r1⟩, ⟨p2, r2⟩, ⟨p3, r3⟩⟩ := args_CodecOne hA
  obtain ⟨rfl, rfl⟩ := trodVars_none hV
  obtain ⟨z0, g0, e0, ok0, _⟩ := read_argO (f := .sl 1 [.int .u8]) (by kernel_rfl) (by kernel_rfl) (hval 0 39 v0 rfl rfl) r0
  obtain ⟨x0, l0, f0, ok0, hg0, hl0⟩ := read_view (good := fun y => 0 ≤ y ∧ y ≤ 255) g0 ok0 eB (fun el h => ⟨el.1, h.1, rfl⟩)
  rw [f0] at e0
  subst e0
  have hs0 : l0.length * 1 ≤ 140737488351232 := by
    have h := view_sized (P := Try.prog) (j := 0) hs (by rfl) (by rfl) (show Try.prog.underlying 39 = some (.slice 5) by kernel_rfl) r0 ok0
    rw [show Try.prog.bytesOf 5 = 1 by kernel_rfl] at h
    exact h
  obtain ⟨z1, g1, e1, ok1, _⟩ := read_argO (f := .sl 1 [.int .u8]) (by kernel_rfl) (by kernel_rfl) (hval 1 39 v1 rfl rfl) r1
  obtain ⟨x1, l1, f1, ok1, hg1, hl1⟩ := read_view (good := fun y => 0 ≤ y ∧ y ≤ 255) g1 ok1 eB (fun el h => ⟨el.1, h.1, rfl⟩)
  rw [f1] at e1
  subst e1
  have hs1 : l1.length * 1 ≤ 140737488351232 := by
    have h := view_sized (P := Try.prog) (j := 1) hs (by rfl) (by rfl) (show Try.prog.underlying 39 = some (.slice 5) by kernel_rfl) r1 ok1
    rw [show Try.prog.bytesOf 5 = 1 by kernel_rfl] at h
    exact h
  obtain ⟨z2, g2, e2, ok2, _⟩ := read_argO (f := .sl 1 [.int .u8]) (by kernel_rfl) (by kernel_rfl) (hval 2 39 v2 rfl rfl) r2
  obtain ⟨x2, l2, f2, ok2, hg2, hl2⟩ := read_view (good := fun y => 0 ≤ y ∧ y ≤ 255) g2 ok2 eB (fun el h => ⟨el.1, h.1, rfl⟩)
  rw [f2] at e2
  subst e2
  have hs2 : l2.length * 1 ≤ 140737488351232 := by
    have h := view_sized (P := Try.prog) (j := 2) hs (by rfl) (by rfl) (show Try.prog.underlying 39 = some (.slice 5) by kernel_rfl) r2 ok2
    rw [show Try.prog.bytesOf 5 = 1 by kernel_rfl] at h
    exact h
  obtain ⟨z3, g3, e3, ok3, _⟩ := read_argO (f := .sl 1 [.int .u8]) (by kernel_rfl) (by kernel_rfl) (hval 3 39 v3 rfl rfl) r3
  obtain ⟨x3, l3, f3, ok3, hg3, hl3⟩ := read_view (good := fun y => 0 ≤ y ∧ y ≤ 255) g3 ok3 eB (fun el h => ⟨el.1, h.1, rfl⟩)
  rw [f3] at e3
  subst e3
  have hs3 : l3.length * 1 ≤ 140737488351232 := by
    have h := view_sized (P := Try.prog) (j := 3) hs (by rfl) (by rfl) (show Try.prog.underlying 39 = some (.slice 5) by kernel_rfl) r3 ok3
    rw [show Try.prog.bytesOf 5 = 1 by kernel_rfl] at h
    exact h
  refine ((one' v0 l0 v1 l1 v2 l2 v3 l3 hl0 hg0 hs0 hl1 hg1 hs1 hl2 hg2 hs2 hl3 hg3 hs3).calls Try.call10 rfl W ?_).mono ?_
  · intro x hx
    simp only [List.mem_cons, List.not_mem_nil, or_false] at hx
    rcases hx with rfl | rfl | rfl | rfl
    · exact ok0
    · exact ok1
    · exact ok2
    · exact ok3
  · rintro e W' ⟨rfl, hos, hout, _, hb⟩
    refine ⟨_, rfl, ?_⟩
    exact post_true kids full (by rw [Try.params10]; decide) undB (by kernel_rfl) rfl rfl rfl rfl hW' hos hout hb

/-- The given statement CodecOneSaid. -/
theorem holds_CodecOne : Rows.CodecOneSaid :=
  OpenClaim.holds_of_wide 10 Try.f10 rfl rfl rfl rfl rfl rfl rfl ⟨rfl, rfl, rfl, rfl, rfl⟩ rfl rfl rfl rfl rfl (by kernel_rfl) Try.func10 (by kernel_rfl)
    (of_decide_eq_true (by kernel_rfl)) (by unfold Func.isWrapper; first | (rw [if_pos (by decide +kernel)]; kernel_rfl) | (rw [if_neg (by decide +kernel)]; exact ⟨rfl, rfl⟩))
    (fun os started H enc _ => lifted_CodecOne os started H enc)
end Go.Proofs.Ytjdlefkpoggocaa
