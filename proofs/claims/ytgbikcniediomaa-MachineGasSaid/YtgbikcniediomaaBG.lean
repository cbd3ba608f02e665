/- The given statement MachineGasSaid holds of every call: for every argument that the guards let in. -/
import Derived.Test.YtgbikcniediomaaP11
import Derived.Test.YtgbikcniediomaaBr2
namespace Go.Proofs.Ytgbikcniediomaa
open Go Go.Sx Go.ChangeShapes Go.WideShapes Go.ChangeAt Go.RowKit
set_option linter.unusedVariables false
set_option linter.unusedSimpArgs false
set_option maxHeartbeats 4000000
set_option maxRecDepth 100000
theorem args_MachineGas {H : Type} {enc : TypeId × Value → H} {w : World} {base : Nat} {sp : Nat → Bool} {held : Bool} {t0 t1 t2 t3 : TypeId} {args : Array Value} {ds : List (DataW H)} {ps : List MemPlace}
    (h : DataW.TrodAll enc Try.prog w base sp held [t0, t1, t2, t3] args.toList ds ps) : ∃ v0 v1 v2 v3 d0 d1 d2 d3, args = #[v0, v1, v2, v3] ∧ ds = [d0, d1, d2, d3] ∧ (∃ p, DataW.Trod enc Try.prog w base sp held t0 v0 d0 p) ∧ (∃ p, DataW.Trod enc Try.prog w base sp held t1 v1 d1 p) ∧ (∃ p, DataW.Trod enc Try.prog w base sp held t2 v2 d2 p) ∧ (∃ p, DataW.Trod enc Try.prog w base sp held t3 v3 d3 p) := by
  obtain ⟨v0, vs, d0, ds1, p0, _, h0, rfl, rfl, r0, h⟩ := trodAll_cons h
  obtain ⟨v1, vs, d1, ds2, p1, _, rfl, rfl, rfl, r1, h⟩ := trodAll_cons h
  obtain ⟨v2, vs, d2, ds3, p2, _, rfl, rfl, rfl, r2, h⟩ := trodAll_cons h
  obtain ⟨v3, vs, d3, ds4, p3, _, rfl, rfl, rfl, r3, h⟩ := trodAll_cons h
  obtain ⟨rfl, rfl, rfl⟩ := trodAll_nil h
  exact ⟨v0, v1, v2, v3, d0, d1, d2, d3, by cases args; simp_all, rfl, ⟨p0, r0⟩, ⟨p1, r1⟩, ⟨p2, r2⟩, ⟨p3, r3⟩⟩

theorem lifted_MachineGas (os : Os) (started : os.Started) (H : Type) (enc : TypeId × Value → H) :
    ReturnsInHanded {} Try.checked os 4 .any (Rows.machineGasSpec.pre6 enc Try.prog Try.f4 Rows.machineGasRow.domain false) (Rows.machineGasSpec.post enc Try.prog Try.f4 Rows.machineGasRow.apart Rows.machineGasRow.fresh Rows.machineGasRow.handsOn Rows.machineGasRow.again) := by
  refine returnsInHanded_of_change_sized (C := Try.checked) own started (by kernel_rfl) Try.func4
    (ChangeSpec.witness6 (enc := enc) (C := Try.checked) false ⟨#[], #[.slice none 0 0, (M.agg [.v (.int .u64 0), .v (.int .u64 0), .v (.slice none 0 0)]).den id, .int .u64 0, .int .u64 0], []⟩ 8 (by kernel_rfl) (by kernel_rfl) (by kernel_rfl) (by kernel_rfl)) ?_
  intro W base args ds gs before hval0 hW _ hs _
  have hval : ∀ (j : Nat) t v, Try.f4.params[j]? = some t → args[j]? = some v → Value.okWide Try.prog W .any base t v := hval0
  have hW' := hW
  obtain ⟨p, q, hA0, hV, rfl, _, _⟩ := hW
  have hA : DataW.TrodAll enc Try.prog W 0 (fun _ => true) true Try.f4.params.toList args.toList ds p := hA0
  rw [Try.params4] at hA hval
  obtain ⟨v0, v1, v2, v3, d0, d1, d2, d3, rfl, rfl, ⟨p0, r0⟩, ⟨p1, r1⟩, ⟨p2, r2⟩, ⟨p3, r3⟩⟩ := args_MachineGas hA
  obtain ⟨rfl, rfl⟩ := trodVars_none hV
  obtain ⟨z0, g0, e0, ok0, _⟩ := read_argO (f := .sl 2 [.int .i64, .int .u64]) (by kernel_rfl) (by kernel_rfl) (hval 0 22 v0 rfl rfl) r0
  obtain ⟨x0, l0, f0, ok0, hg0, hl0⟩ := read_view (good := fun y => 0 ≤ Mach.iarg y) g0 ok0 iE (fun el h => ⟨el, (arg_good h), rfl⟩)
  rw [f0] at e0
  subst e0
  obtain ⟨y1, g1, e1, ok1, _, li1⟩ := read_argL (fs := [.int .u64, .int .u64, .sl 1 [.int .u64]]) (by kernel_rfl) (by kernel_rfl) (hval 1 26 v1 rfl rfl) r1
  have w1 := li1 (light_of (j := 1) hs (by rfl) (by rfl) (by kernel_rfl))
  subst e1
  obtain ⟨n2, g2, e2, ok2, _⟩ := read_argO (f := .int .u64) (by kernel_rfl) (by kernel_rfl) (hval 2 23 v2 rfl rfl) r2
  replace e2 : v2 = (u64 n2).den id := e2
  replace ok2 : (u64 n2).Ok W (fun _ => False) 0 := ok2
  subst e2
  obtain ⟨n3, g3, e3, ok3, _⟩ := read_argO (f := .int .u64) (by kernel_rfl) (by kernel_rfl) (hval 3 23 v3 rfl rfl) r3
  replace e3 : v3 = (u64 n3).den id := e3
  replace ok3 : (u64 n3).Ok W (fun _ => False) 0 := ok3
  subst e3
  refine ((gas' v0 l0 y1 n2 n3 hl0 hg0 g1 w1 ((u64_good g2)) ((u64_good g3))).calls Try.call4 rfl W (fun _ _ _ h => by cases h) ?_).mono ?_
  · intro x hx
    simp only [List.mem_cons, List.not_mem_nil, or_false] at hx
    rcases hx with rfl | rfl | rfl | rfl
    · exact ok0
    · exact ok1
    · exact ok2
    · exact ok3
  · rintro e W' ⟨rfl, hos, hout, _, hb⟩
    refine ⟨_, rfl, ?_⟩
    exact post_true kids full (by rw [Try.params4]; decide) undB (by kernel_rfl) rfl rfl rfl rfl hW' hos hout hb

/-- The given statement MachineGasSaid. -/
theorem holds_MachineGas : Rows.MachineGasSaid :=
  OpenClaim.holds_of_wide 4 Try.f4 rfl rfl rfl rfl rfl rfl rfl ⟨rfl, rfl, rfl, rfl, rfl⟩ rfl rfl rfl rfl rfl (by kernel_rfl) Try.func4 (by kernel_rfl)
    (of_decide_eq_true (by kernel_rfl)) (by unfold Func.isWrapper; first | (rw [if_pos (by decide +kernel)]; kernel_rfl) | (rw [if_neg (by decide +kernel)]; exact ⟨rfl, rfl⟩))
    (fun os started H enc _ => lifted_MachineGas os started H enc)
end Go.Proofs.Ytgbikcniediomaa
