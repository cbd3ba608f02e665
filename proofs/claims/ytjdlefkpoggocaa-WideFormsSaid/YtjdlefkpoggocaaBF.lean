/- The given statement WideFormsSaid holds of every call: for every argument that the guards let in. -/
import Derived.Test.YtjdlefkpoggocaaQ34
import Derived.Test.YtjdlefkpoggocaaBr
namespace Go.Proofs.Ytjdlefkpoggocaa
open Go Go.Sx Go.ChangeShapes Go.WideShapes Go.ChangeAt Go.RowKit
set_option linter.unusedVariables false
set_option linter.unusedSimpArgs false
set_option maxHeartbeats 4000000
set_option maxRecDepth 100000
theorem args_WideForms {H : Type} {enc : TypeId × Value → H} {w : World} {base : Nat} {sp : Nat → Bool} {held : Bool} {t0 t1 t2 : TypeId} {args : Array Value} {ds : List (DataW H)} {ps : List MemPlace}
    (h : DataW.TrodAll enc Try.prog w base sp held [t0, t1, t2] args.toList ds ps) : ∃ v0 v1 v2 d0 d1 d2, args = #[v0, v1, v2] ∧ ds = [d0, d1, d2] ∧ (∃ p, DataW.Trod enc Try.prog w base sp held t0 v0 d0 p) ∧ (∃ p, DataW.Trod enc Try.prog w base sp held t1 v1 d1 p) ∧ (∃ p, DataW.Trod enc Try.prog w base sp held t2 v2 d2 p) := by
  obtain ⟨v0, vs, d0, ds1, p0, _, h0, rfl, rfl, r0, h⟩ := trodAll_cons h
  obtain ⟨v1, vs, d1, ds2, p1, _, rfl, rfl, rfl, r1, h⟩ := trodAll_cons h
  obtain ⟨v2, vs, d2, ds3, p2, _, rfl, rfl, rfl, r2, h⟩ := trodAll_cons h
  obtain ⟨rfl, rfl, rfl⟩ := trodAll_nil h
  exact ⟨v0, v1, v2, d0, d1, d2, by cases args; simp_all, rfl, ⟨p0, r0⟩, ⟨p1, r1⟩, ⟨p2, r2⟩⟩

theorem lifted_WideForms (os : Os) (started : os.Started) (H : Type) (enc : TypeId × Value → H) :
    ReturnsInHanded {} Try.checked os 8 .any (Rows.wideFormsSpec.pre6 enc Try.prog Try.f8 Rows.wideFormsRow.domain false) (Rows.wideFormsSpec.post enc Try.prog Try.f8 Rows.wideFormsRow.apart Rows.wideFormsRow.fresh Rows.wideFormsRow.handsOn Rows.wideFormsRow.again) := by
  refine returnsInHanded_of_change_sized (C := Try.checked) own started (by kernel_rfl) Try.func8
    (ChangeSpec.witness6 (enc := enc) (C := Try.checked) false ⟨#[], #[(w4 [0, 0, 0, 0]).den id, .slice none 0 0, .string .empty], []⟩ 8 (by kernel_rfl) (by kernel_rfl) (by kernel_rfl) (by kernel_rfl)) ?_
  intro W base args ds gs before hval0 hW _ hs _
  have hval : ∀ (j : Nat) t v, Try.f8.params[j]? = some t → args[j]? = some v → Value.okWide Try.prog W .any base t v := hval0
  have hW' := hW
  obtain ⟨p, q, hA0, hV, rfl, _, _⟩ := hW
  have hA : DataW.TrodAll enc Try.prog W 0 (fun _ => true) true Try.f8.params.toList args.toList ds p := hA0
  rw [Try.params8] at hA hval
  obtain ⟨v0, v1, v2, d0, d1, d2, rfl, rfl, ⟨p0, r0⟩, ⟨p1, r1⟩, ⟨p2, r2⟩⟩ := args_WideForms hA
  obtain ⟨rfl, rfl⟩ := trodVars_none hV
  obtain ⟨⟨a0, _⟩, g0, e0, ok0, _⟩ := read_argA (fs := [.ints .u64 4]) (by kernel_rfl) (by kernel_rfl) (hval 0 24 v0 rfl rfl) r0
  replace e0 : v0 = (w4 a0).den id := e0
  replace ok0 : (w4 a0).Ok W (fun _ => False) 0 := ok0
  subst e0
  obtain ⟨z1, g1, e1, ok1, _⟩ := read_argO (f := .sl 1 [.int .u8]) (by kernel_rfl) (by kernel_rfl) (hval 1 39 v1 rfl rfl) r1
  obtain ⟨x1, l1, f1, ok1, hg1, hl1⟩ := read_view (good := fun y => 0 ≤ y ∧ y ≤ 255) g1 ok1 eB (fun el h => ⟨el.1, h.1, rfl⟩)
  rw [f1] at e1
  subst e1
  have hs1 : l1.length * 1 ≤ 140737488351232 := by
    have h := view_sized (P := Try.prog) (j := 1) hs (by rfl) (by rfl) (show Try.prog.underlying 39 = some (.slice 5) by kernel_rfl) r1 ok1
    rw [show Try.prog.bytesOf 5 = 1 by kernel_rfl] at h
    exact h
  obtain ⟨s2, g2, e2, ok2, _⟩ := read_argO (f := .str) (by kernel_rfl) (by kernel_rfl) (hval 2 9 v2 rfl rfl) r2
  replace e2 : v2 = (str s2).den id := e2
  replace ok2 : (str s2).Ok W (fun _ => False) 0 := ok2
  subst e2
  refine ((forms' a0 v1 l1 s2 ((l4_good g0.1)) hl1 hg1 hs1 (g2)).calls Try.call8 rfl W ?_).mono ?_
  · intro x hx
    simp only [List.mem_cons, List.not_mem_nil, or_false] at hx
    rcases hx with rfl | rfl | rfl
    · exact ok0
    · exact ok1
    · exact ok2
  · rintro e W' ⟨rfl, hos, hout, _, hb⟩
    refine ⟨_, rfl, ?_⟩
    exact post_true kids full (by rw [Try.params8]; decide) undB (by kernel_rfl) rfl rfl rfl rfl hW' hos hout hb

/-- The given statement WideFormsSaid. -/
theorem holds_WideForms : Rows.WideFormsSaid :=
  OpenClaim.holds_of_wide 8 Try.f8 rfl rfl rfl rfl rfl rfl rfl ⟨rfl, rfl, rfl, rfl, rfl⟩ rfl rfl rfl rfl rfl (by kernel_rfl) Try.func8 (by kernel_rfl)
    (of_decide_eq_true (by kernel_rfl)) (by unfold Func.isWrapper; first | (rw [if_pos (by decide +kernel)]; kernel_rfl) | (rw [if_neg (by decide +kernel)]; exact ⟨rfl, rfl⟩))
    (fun os started H enc _ => lifted_WideForms os started H enc)
end Go.Proofs.Ytjdlefkpoggocaa
