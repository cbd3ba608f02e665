/- The given statement WideOrderSaid holds of every call: for every argument that the guards let in. -/
import Derived.Test.YtjdlefkpoggocaaQ34
import Derived.Test.YtjdlefkpoggocaaBr
namespace Go.Proofs.Ytjdlefkpoggocaa
open Go Go.Sx Go.ChangeShapes Go.WideShapes Go.ChangeAt Go.RowKit
set_option linter.unusedVariables false
set_option linter.unusedSimpArgs false
set_option maxHeartbeats 4000000
set_option maxRecDepth 100000
theorem args_WideOrder {H : Type} {enc : TypeId × Value → H} {w : World} {base : Nat} {sp : Nat → Bool} {held : Bool} {t0 t1 : TypeId} {args : Array Value} {ds : List (DataW H)} {ps : List MemPlace}
    (h : DataW.TrodAll enc Try.prog w base sp held [t0, t1] args.toList ds ps) : ∃ v0 v1 d0 d1, args = #[v0, v1] ∧ ds = [d0, d1] ∧ (∃ p, DataW.Trod enc Try.prog w base sp held t0 v0 d0 p) ∧ (∃ p, DataW.Trod enc Try.prog w base sp held t1 v1 d1 p) := by
  obtain ⟨v0, vs, d0, ds1, p0, _, h0, rfl, rfl, r0, h⟩ := trodAll_cons h
  obtain ⟨v1, vs, d1, ds2, p1, _, rfl, rfl, rfl, r1, h⟩ := trodAll_cons h
  obtain ⟨rfl, rfl, rfl⟩ := trodAll_nil h
  exact ⟨v0, v1, d0, d1, by cases args; simp_all, rfl, ⟨p0, r0⟩, ⟨p1, r1⟩⟩

theorem lifted_WideOrder (os : Os) (started : os.Started) (H : Type) (enc : TypeId × Value → H) :
    ReturnsInHanded {} Try.checked os 5 .any (Rows.wideOrderSpec.pre6 enc Try.prog Try.f5 Rows.wideOrderRow.domain false) (Rows.wideOrderSpec.post enc Try.prog Try.f5 Rows.wideOrderRow.apart Rows.wideOrderRow.fresh Rows.wideOrderRow.handsOn Rows.wideOrderRow.again) := by
  refine returnsInHanded_of_change (C := Try.checked) own started (by kernel_rfl) Try.func5
    (ChangeSpec.witness6 (enc := enc) (C := Try.checked) false ⟨#[], #[(w4 [0, 0, 0, 0]).den id, (w4 [0, 0, 0, 0]).den id], []⟩ 8 (by kernel_rfl) (by kernel_rfl) (by kernel_rfl) (by kernel_rfl)) ?_
  intro W base args ds gs before hval0 hW _ _
  have hval : ∀ (j : Nat) t v, Try.f5.params[j]? = some t → args[j]? = some v → Value.okWide Try.prog W .any base t v := hval0
  have hW' := hW
  obtain ⟨p, q, hA0, hV, rfl, _, _⟩ := hW
  have hA : DataW.TrodAll enc Try.prog W 0 (fun _ => true) true Try.f5.params.toList args.toList ds p := hA0
  rw [Try.params5] at hA hval
  obtain ⟨v0, v1, d0, d1, rfl, rfl, ⟨p0, r0⟩, ⟨p1, r1⟩⟩ := args_WideOrder hA
  obtain ⟨rfl, rfl⟩ := trodVars_none hV
  obtain ⟨⟨a0, _⟩, g0, e0, ok0, _⟩ := read_argA (fs := [.ints .u64 4]) (by kernel_rfl) (by kernel_rfl) (hval 0 24 v0 rfl rfl) r0
  replace e0 : v0 = (w4 a0).den id := e0
  replace ok0 : (w4 a0).Ok W (fun _ => False) 0 := ok0
  subst e0
  obtain ⟨⟨a1, _⟩, g1, e1, ok1, _⟩ := read_argA (fs := [.ints .u64 4]) (by kernel_rfl) (by kernel_rfl) (hval 1 24 v1 rfl rfl) r1
  replace e1 : v1 = (w4 a1).den id := e1
  replace ok1 : (w4 a1).Ok W (fun _ => False) 0 := ok1
  subst e1
  refine ((@order_spec a0 a1 ((l4_good g0.1)) ((l4_good g1.1))).calls Try.call5 rfl W ?_).mono ?_
  · intro x hx
    simp only [List.mem_cons, List.not_mem_nil, or_false] at hx
    rcases hx with rfl | rfl
    · exact ok0
    · exact ok1
  · rintro e W' ⟨rfl, hos, hout, _, hb⟩
    refine ⟨_, rfl, ?_⟩
    exact post_true kids full (by rw [Try.params5]; decide) undB (by kernel_rfl) rfl rfl rfl rfl hW' hos hout hb

/-- The given statement WideOrderSaid. -/
theorem holds_WideOrder : Rows.WideOrderSaid :=
  OpenClaim.holds_of_wide 5 Try.f5 rfl rfl rfl rfl rfl rfl rfl ⟨rfl, rfl, rfl, rfl, rfl⟩ rfl rfl rfl rfl rfl (by kernel_rfl) Try.func5 (by kernel_rfl)
    (of_decide_eq_true (by kernel_rfl)) (by unfold Func.isWrapper; first | (rw [if_pos (by decide +kernel)]; kernel_rfl) | (rw [if_neg (by decide +kernel)]; exact ⟨rfl, rfl⟩))
    (fun os started H enc _ => lifted_WideOrder os started H enc)
end Go.Proofs.Ytjdlefkpoggocaa
