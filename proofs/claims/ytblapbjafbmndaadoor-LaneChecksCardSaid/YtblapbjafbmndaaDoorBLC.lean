/- The given statement LaneChecksCardSaid holds of every call: for every argument that the guards let in. -/
import Derived.Test.YtblapbjafbmndaaDoorBr6
namespace Go.Proofs.YtblapbjafbmndaaDoor
open Go Go.Sx Go.ChangeShapes Go.WideShapes Go.ChangeAt Go.RowKit
set_option linter.unusedVariables false
set_option linter.unusedSimpArgs false
set_option maxHeartbeats 4000000
set_option maxRecDepth 100000
theorem args_LaneChecks {H : Type} {enc : TypeId × Value → H} {w : World} {base : Nat} {sp : Nat → Bool} {held : Bool} {t0 t1 t2 : TypeId} {args : Array Value} {ds : List (DataW H)} {ps : List MemPlace}
    (h : DataW.TrodAll enc Tryd.prog w base sp held [t0, t1, t2] args.toList ds ps) : ∃ v0 v1 v2 d0 d1 d2, args = #[v0, v1, v2] ∧ ds = [d0, d1, d2] ∧ (∃ p, DataW.Trod enc Tryd.prog w base sp held t0 v0 d0 p) ∧ (∃ p, DataW.Trod enc Tryd.prog w base sp held t1 v1 d1 p) ∧ (∃ p, DataW.Trod enc Tryd.prog w base sp held t2 v2 d2 p) := by
  obtain ⟨v0, vs, d0, ds1, p0, _, h0, rfl, rfl, r0, h⟩ := trodAll_cons h
  obtain ⟨v1, vs, d1, ds2, p1, _, rfl, rfl, rfl, r1, h⟩ := trodAll_cons h
  obtain ⟨v2, vs, d2, ds3, p2, _, rfl, rfl, rfl, r2, h⟩ := trodAll_cons h
  obtain ⟨rfl, rfl, rfl⟩ := trodAll_nil h
  exact ⟨v0, v1, v2, d0, d1, d2, by cases args; simp_all, rfl, ⟨p0, r0⟩, ⟨p1, r1⟩, ⟨p2, r2⟩⟩

theorem lifted_LaneChecks (os : Os) (started : os.Started) (H : Type) (enc : TypeId × Value → H) :
    ReturnsInHanded {} Tryd.checked os 10 .any (fun w args => (Rows.laneChecksSpec.pre enc Tryd.prog Tryd.f10 [] false w args ∧ laidMetH Tryd.prog laidL w) ∧ sizedMet enc Tryd.prog Tryd.f10 (OpenSpec.ofChange Rows.laneChecksSpec) false w args)
      (Rows.laneChecksSpec.post enc Tryd.prog Tryd.f10 Rows.laneChecksRow.apart Rows.laneChecksRow.fresh Rows.laneChecksRow.handsOn Rows.laneChecksRow.again) := by
  refine returnsInHanded_of_change_and (C := Tryd.checked) (X := (fun w _ => laidMetH Tryd.prog laidL w)) (fun _ _ _ hh h => h.of_heap hh) own started (by kernel_rfl) Tryd.func10
    (ChangeSpec.witness_shaped (enc := enc) (C := Tryd.checked) (os := os) (X := (fun w _ => laidMetH Tryd.prog laidL w)) false (World.doorLaid Tryd.prog 19 os) #[(h32 (List.replicate 32 0)).den id, .slice none 0 0, (M.agg [.v (.int .i64 0), .v (.int .i64 0), .v (.slice none 0 0)]).den id] 8 rfl (World.shaped_of_RefB (by kernel_rfl) (by kernel_rfl)) (by kernel_rfl) (by kernel_rfl) (by kernel_rfl) (door_met os _)) ?_
  intro W base args ds gs before hval0 hW _ hs hL _
  have hval : ∀ (j : Nat) t v, Tryd.f10.params[j]? = some t → args[j]? = some v → Value.okWide Tryd.prog W .any base t v := hval0
  have hW' := hW
  obtain ⟨p, q, hA0, hV, rfl, _, _⟩ := hW
  have hA : DataW.TrodAll enc Tryd.prog W 0 (fun _ => true) true Tryd.f10.params.toList args.toList ds p := hA0
  rw [Tryd.params10] at hA hval
  obtain ⟨v0, v1, v2, d0, d1, d2, rfl, rfl, ⟨p0, r0⟩, ⟨p1, r1⟩, ⟨p2, r2⟩⟩ := args_LaneChecks hA
  obtain ⟨rfl, rfl⟩ := trodVars_none hV
  obtain ⟨⟨a0, _⟩, g0, e0, ok0, _⟩ := read_argA (fs := [.ints .u8 32]) (by kernel_rfl) (by kernel_rfl) (hval 0 26 v0 rfl rfl) r0
  replace e0 : v0 = (h32 a0).den id := e0
  replace ok0 : (h32 a0).Ok W (fun _ => False) 0 := ok0
  subst e0
  obtain ⟨z1, g1, e1, ok1, _⟩ := read_argO (f := .sl 1 [.int .u8]) (by kernel_rfl) (by kernel_rfl) (hval 1 22 v1 rfl rfl) r1
  obtain ⟨x1, l1, f1, ok1, hg1, hl1⟩ := read_view (good := fun y => 0 ≤ y ∧ y ≤ 255) g1 ok1 eB (fun el h => ⟨el.1, h.1, rfl⟩)
  rw [f1] at e1
  subst e1
  have hs1 : l1.length * 1 ≤ 140737488351232 := by
    have h := view_sized (P := Tryd.prog) (j := 1) hs (by rfl) (by rfl) (show Tryd.prog.underlying 22 = some (.slice 5) by kernel_rfl) r1 ok1
    rw [show Tryd.prog.bytesOf 5 = 1 by kernel_rfl] at h
    exact h
  obtain ⟨y2, g2, e2, ok2, _, li2⟩ := read_argL (fs := [.int .i64, .int .i64, .sl 32 [.ints .u8 32]]) (by kernel_rfl) (by kernel_rfl) (hval 2 49 v2 rfl rfl) r2
  have w2 := li2 (light_of (j := 2) hs (by rfl) (by rfl) (by kernel_rfl))
  subst e2
  refine ((lchecks' a0 v1 l1 y2 ((h_good g0.1)) hl1 hg1 hs1 g2 w2).calls Tryd.call10 rfl W (glob_of_laid hL) ?_).mono ?_
  · intro x hx
    simp only [List.mem_cons, List.not_mem_nil, or_false] at hx
    rcases hx with rfl | rfl | rfl
    · exact ok0
    · exact ok1
    · exact ok2
  · rintro e W' ⟨rfl, hos, hout, _, hb⟩
    refine ⟨_, rfl, ?_⟩
    exact post_true kids full (by rw [Tryd.params10]; decide) undB (by kernel_rfl) rfl rfl rfl rfl hW' hos hout hb

/-- The given statement LaneChecksSaid. -/
theorem row_LaneChecks : Rows.LaneChecksSaid :=
  OpenClaim.holds_of_wide 10 Tryd.f10 rfl rfl rfl rfl rfl rfl rfl ⟨rfl, rfl, rfl, rfl, rfl⟩ rfl rfl rfl rfl rfl (by kernel_rfl) Tryd.func10 (by kernel_rfl)
    (of_decide_eq_true (by kernel_rfl)) (by unfold Func.isWrapper; first | (rw [if_pos (by decide +kernel)]; kernel_rfl) | (rw [if_neg (by decide +kernel)]; exact ⟨rfl, rfl⟩))
    (fun os started H enc _ => lifted_LaneChecks os started H enc)

/-- The given statement LaneChecksCardSaid: the row, tied to the program's text. -/
theorem holds_LaneChecks : Rows.LaneChecksCardSaid :=
  Claim7.holds_tied_plain_at .later [] [.data, .data] true (true, "6d39adb181281a26e5c100cf81e318348b2fd30cefb08bebc47d9bb527c53f88") false row_LaneChecks (fun _ h => by cases h) (by kernel_rfl) (fun _ h => by cases h) laneChecks_row_tie rfl ⟨rfl, rfl⟩ (by kernel_rfl) rfl
    (fun f fn hf hfn => by
      obtain rfl : f = 10 := (Option.some.inj ((show Tryd.prog.funcNamed "bascule/basculelaw07.LaneChecks" = some 10 by kernel_rfl).symm.trans hf)).symm
      obtain rfl : fn = Tryd.f10 := (Option.some.inj (Tryd.func10.symm.trans hfn)).symm
      refine ⟨by kernel_rfl, fun j t ht => ?_⟩
      have hall : (Tryd.f10.params.toList.all fun t => !(Tryd.prog.wantsStandIn t)) = true := by kernel_rfl
      have hm : t ∈ Tryd.f10.params.toList := Array.mem_toList_iff.2 (Array.mem_of_getElem? ht)
      have h1 : (!(Tryd.prog.wantsStandIn t)) = true := List.all_eq_true.1 hall t hm
      show Tryd.prog.wantsStandIn t = false
      simpa using h1)
    (by kernel_rfl)
end Go.Proofs.YtblapbjafbmndaaDoor
