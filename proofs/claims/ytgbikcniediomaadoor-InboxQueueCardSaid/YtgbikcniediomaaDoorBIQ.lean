/- The given statement InboxQueueCardSaid holds of every call: for every argument that the guards let in. -/
import Derived.Test.YtgbikcniediomaaDoorBq2
namespace Go.Proofs.YtgbikcniediomaaDoor
open Go Go.Sx Go.ChangeShapes Go.WideShapes Go.ChangeAt Go.RowKit
set_option linter.unusedVariables false
set_option linter.unusedSimpArgs false
set_option maxHeartbeats 4000000
set_option maxRecDepth 100000
theorem args_InboxQueue {H : Type} {enc : TypeId × Value → H} {w : World} {base : Nat} {sp : Nat → Bool} {held : Bool} {t0 : TypeId} {args : Array Value} {ds : List (DataW H)} {ps : List MemPlace}
    (h : DataW.TrodAll enc Tryd.prog w base sp held [t0] args.toList ds ps) : ∃ v0 d0, args = #[v0] ∧ ds = [d0] ∧ (∃ p, DataW.Trod enc Tryd.prog w base sp held t0 v0 d0 p) := by
  obtain ⟨v0, vs, d0, ds1, p0, _, h0, rfl, rfl, r0, h⟩ := trodAll_cons h
  obtain ⟨rfl, rfl, rfl⟩ := trodAll_nil h
  exact ⟨v0, d0, by cases args; simp_all, rfl, ⟨p0, r0⟩⟩

theorem lifted_InboxQueue (os : Os) (started : os.Started) (H : Type) (enc : TypeId × Value → H) :
    ReturnsInHanded {} Tryd.checked os 4 .any (fun w args => (Rows.inboxQueueSpec.pre enc Tryd.prog Tryd.f4 [] false w args ∧ laidMetH Tryd.prog laidL w) ∧ sizedMet enc Tryd.prog Tryd.f4 (OpenSpec.ofChange Rows.inboxQueueSpec) false w args)
      (Rows.inboxQueueSpec.post enc Tryd.prog Tryd.f4 Rows.inboxQueueRow.apart Rows.inboxQueueRow.fresh Rows.inboxQueueRow.handsOn Rows.inboxQueueRow.again) := by
  refine returnsInHanded_of_change_and (C := Tryd.checked) (X := (fun w _ => laidMetH Tryd.prog laidL w)) (fun _ _ _ hh h => h.of_heap hh) own started (by kernel_rfl) Tryd.func4
    (ChangeSpec.witness_shaped (enc := enc) (C := Tryd.checked) (os := os) (X := (fun w _ => laidMetH Tryd.prog laidL w)) false (World.doorLaid Tryd.prog 19 os) #[.slice none 0 0] 8 rfl (World.shaped_of_RefB (by kernel_rfl) (by kernel_rfl)) (by kernel_rfl) (by kernel_rfl) (by kernel_rfl) (door_met os _)) ?_
  intro W base args ds gs before hval0 hW _ hs hL _
  have hval : ∀ (j : Nat) t v, Tryd.f4.params[j]? = some t → args[j]? = some v → Value.okWide Tryd.prog W .any base t v := hval0
  have hW' := hW
  obtain ⟨p, q, hA0, hV, rfl, _, _⟩ := hW
  have hA : DataW.TrodAll enc Tryd.prog W 0 (fun _ => true) true Tryd.f4.params.toList args.toList ds p := hA0
  rw [Tryd.params4] at hA hval
  obtain ⟨v0, d0, rfl, rfl, ⟨p0, r0⟩⟩ := args_InboxQueue hA
  obtain ⟨rfl, rfl⟩ := trodVars_none hV
  obtain ⟨z0, g0, e0, ok0, _, li0⟩ := read_argO (f := .sl 11 OpF) (by kernel_rfl) (by kernel_rfl) (hval 0 22 v0 rfl rfl) r0
  obtain ⟨x0, l0, f0, ok0, hg0, hl0, _⟩ := read_viewL (good := fun y => okO y) g0 (li0 (light_of (j := 0) hs (by rfl) (by rfl) (by kernel_rfl))) ok0 EO.enc (fun el h w => o_dec el h w)
  rw [f0] at e0
  subst e0
  have hs0 : l0.length * 120 ≤ 140737488351232 := by
    have h := view_sized (P := Tryd.prog) (j := 0) hs (by rfl) (by rfl) (show Tryd.prog.underlying 22 = some (.slice 35) by kernel_rfl) r0 ok0
    rw [show Tryd.prog.bytesOf 35 = 120 by kernel_rfl] at h
    exact h
  refine ((queue' v0 l0 hl0 hg0 hs0).calls Tryd.call4 rfl W (glob_of_laid hL) ?_).mono ?_
  · intro x hx
    simp only [List.mem_cons, List.not_mem_nil, or_false] at hx
    rcases hx with rfl
    · exact ok0
  · rintro e W' ⟨rfl, hos, hout, _, hb⟩
    refine ⟨_, rfl, ?_⟩
    exact post_true kids full (by rw [Tryd.params4]; decide) undB (by kernel_rfl) rfl rfl rfl rfl hW' hos hout hb

theorem row_InboxQueue : Rows.InboxQueueSaid :=
  OpenClaim.holds_of_wide 4 Tryd.f4 rfl rfl rfl rfl rfl rfl rfl ⟨rfl, rfl, rfl, rfl, rfl⟩ rfl rfl rfl rfl rfl (by kernel_rfl) Tryd.func4 (by kernel_rfl)
    (of_decide_eq_true (by kernel_rfl)) (by unfold Func.isWrapper; first | (rw [if_pos (by decide +kernel)]; kernel_rfl) | (rw [if_neg (by decide +kernel)]; exact ⟨rfl, rfl⟩))
    (fun os started H enc _ => lifted_InboxQueue os started H enc)

theorem holds_InboxQueue : Rows.InboxQueueCardSaid :=
  Claim7.holds_tied_plain_at .later [] [.data, .data] true (true, "f5fc7a0c06d7f08c86ad79a2e5b019d0b590514fdafd2ec15ea11286534cbac5") false row_InboxQueue (fun _ h => by cases h) (by kernel_rfl) (fun _ h => by cases h) inboxQueue_row_tie rfl ⟨rfl, rfl⟩ (by kernel_rfl) rfl
    (fun f fn hf hfn => by
      obtain rfl : f = 4 := (Option.some.inj ((show Tryd.prog.funcNamed "bascule/basculelaw13.InboxQueue" = some 4 by kernel_rfl).symm.trans hf)).symm
      obtain rfl : fn = Tryd.f4 := (Option.some.inj (Tryd.func4.symm.trans hfn)).symm
      refine ⟨by kernel_rfl, fun j t ht => ?_⟩
      have hall : (Tryd.f4.params.toList.all fun t => !(Tryd.prog.wantsStandIn t)) = true := by kernel_rfl
      have hm : t ∈ Tryd.f4.params.toList := Array.mem_toList_iff.2 (Array.mem_of_getElem? ht)
      have h1 : (!(Tryd.prog.wantsStandIn t)) = true := List.all_eq_true.1 hall t hm
      show Tryd.prog.wantsStandIn t = false
      simpa using h1)
    (by kernel_rfl)
end Go.Proofs.YtgbikcniediomaaDoor
