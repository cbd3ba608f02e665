/- The given statement MachineEndsSaid holds of every call: for every argument that the guards let in. -/
import Derived.Test.YtgbikcniediomaaP11
import Derived.Test.YtgbikcniediomaaBr2
namespace Go.Proofs.Ytgbikcniediomaa
open Go Go.Sx Go.ChangeShapes Go.WideShapes Go.ChangeAt Go.RowKit
set_option linter.unusedVariables false
set_option linter.unusedSimpArgs false
set_option maxHeartbeats 4000000
set_option maxRecDepth 100000
theorem args_MachineEnds {H : Type} {enc : TypeId × Value → H} {w : World} {base : Nat} {sp : Nat → Bool} {held : Bool} {t0 t1 t2 : TypeId} {args : Array Value} {ds : List (DataW H)} {ps : List MemPlace}
    (h : DataW.TrodAll enc Try.prog w base sp held [t0, t1, t2] args.toList ds ps) : ∃ v0 v1 v2 d0 d1 d2, args = #[v0, v1, v2] ∧ ds = [d0, d1, d2] ∧ (∃ p, DataW.Trod enc Try.prog w base sp held t0 v0 d0 p) ∧ (∃ p, DataW.Trod enc Try.prog w base sp held t1 v1 d1 p) ∧ (∃ p, DataW.Trod enc Try.prog w base sp held t2 v2 d2 p) := by
  obtain ⟨v0, vs, d0, ds1, p0, _, h0, rfl, rfl, r0, h⟩ := trodAll_cons h
  obtain ⟨v1, vs, d1, ds2, p1, _, rfl, rfl, rfl, r1, h⟩ := trodAll_cons h
  obtain ⟨v2, vs, d2, ds3, p2, _, rfl, rfl, rfl, r2, h⟩ := trodAll_cons h
  obtain ⟨rfl, rfl, rfl⟩ := trodAll_nil h
  exact ⟨v0, v1, v2, d0, d1, d2, by cases args; simp_all, rfl, ⟨p0, r0⟩, ⟨p1, r1⟩, ⟨p2, r2⟩⟩

theorem lifted_MachineEnds (os : Os) (started : os.Started) (H : Type) (enc : TypeId × Value → H) :
    ReturnsInHanded {} Try.checked os 3 .any (Rows.machineEndsSpec.pre6 enc Try.prog Try.f3 Rows.machineEndsRow.domain false) (Rows.machineEndsSpec.post enc Try.prog Try.f3 Rows.machineEndsRow.apart Rows.machineEndsRow.fresh Rows.machineEndsRow.handsOn Rows.machineEndsRow.again) := by
  refine returnsInHanded_of_change_sized (C := Try.checked) own started (by kernel_rfl) Try.func3
    (ChangeSpec.witness6 (enc := enc) (C := Try.checked) false ⟨#[], #[.slice none 0 0, (M.agg [.v (.int .u64 0), .v (.int .u64 0), .v (.slice none 0 0)]).den id, .int .u64 0], []⟩ 8 (by kernel_rfl) (by kernel_rfl) (by kernel_rfl) (by kernel_rfl)) ?_
  intro W base args ds gs before hval0 hW _ hs _
  have hval : ∀ (j : Nat) t v, Try.f3.params[j]? = some t → args[j]? = some v → Value.okWide Try.prog W .any base t v := hval0
  have hW' := hW
  obtain ⟨p, q, hA0, hV, rfl, _, _⟩ := hW
  have hA : DataW.TrodAll enc Try.prog W 0 (fun _ => true) true Try.f3.params.toList args.toList ds p := hA0
  rw [Try.params3] at hA hval
  obtain ⟨v0, v1, v2, d0, d1, d2, rfl, rfl, ⟨p0, r0⟩, ⟨p1, r1⟩, ⟨p2, r2⟩⟩ := args_MachineEnds hA
  obtain ⟨rfl, rfl⟩ := trodVars_none hV
  obtain ⟨z0, g0, e0, ok0, _⟩ := read_argO (f := .sl 2 [.int .i64, .int .u64]) (by kernel_rfl) (by kernel_rfl) (hval 0 22 v0 rfl rfl) r0
  obtain ⟨x0, l0, f0, ok0, hg0, hl0⟩ := read_view (good := fun y => 0 ≤ Mach.iarg y) g0 ok0 iE (fun el h => ⟨el, (arg_good h), rfl⟩)
  rw [f0] at e0
  subst e0
  obtain ⟨y1, g1, e1, ok1, _, li1⟩ := read_argL (fs := [.int .u64, .int .u64, .sl 1 [.int .u64]]) (by kernel_rfl) (by kernel_rfl) (hval 1 26 v1 rfl rfl) r1
  have w1 := li1 (light_of (j := 1) hs (by rfl) (by rfl) (by kernel_rfl))
  subst e1
  obtain ⟨n2, g2, e2, ok2, _⟩ := read_argO (f := .int .u64) (by kernel_rfl) (by kernel_rfl) (hval 2 23 v2 rfl rfl) r2
  replace e2 : v2 = (u64 n2).den id := e2
  replace ok2 : (u64 n2).Ok W (fun _ => False) 0 := ok2
  subst e2
  refine ((ends' v0 l0 y1 n2 hl0 hg0 g1 w1 ((u64_good g2))).calls Try.call3 rfl W (fun _ _ _ h => by cases h) ?_).mono ?_
  · intro x hx
    simp only [List.mem_cons, List.not_mem_nil, or_false] at hx
    rcases hx with rfl | rfl | rfl
    · exact ok0
    · exact ok1
    · exact ok2
  · rintro e W' ⟨rfl, hos, hout, _, hb⟩
    refine ⟨_, rfl, ?_⟩
    exact post_true kids full (by rw [Try.params3]; decide) undB (by kernel_rfl) rfl rfl rfl rfl hW' hos hout hb

/-- The given statement MachineEndsSaid. -/
theorem holds_MachineEnds : Rows.MachineEndsSaid :=
  OpenClaim.holds_of_wide 3 Try.f3 rfl rfl rfl rfl rfl rfl rfl ⟨rfl, rfl, rfl, rfl, rfl⟩ rfl rfl rfl rfl rfl (by kernel_rfl) Try.func3 (by kernel_rfl)
    (of_decide_eq_true (by kernel_rfl)) (by unfold Func.isWrapper; first | (rw [if_pos (by decide +kernel)]; kernel_rfl) | (rw [if_neg (by decide +kernel)]; exact ⟨rfl, rfl⟩))
    (fun os started H enc _ => lifted_MachineEnds os started H enc)
end Go.Proofs.Ytgbikcniediomaa
