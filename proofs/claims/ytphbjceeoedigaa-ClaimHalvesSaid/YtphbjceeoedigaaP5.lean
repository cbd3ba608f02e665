import Derived.Test.YtphbjceeoedigaaP3
import Derived.Test.YtphbjceeoedigaaP4
namespace Go.Proofs.Ytphbjceeoedigaa
open Go Go.Sx Go.ChangeShapes Go.WideShapes Go.ChangeAt Go.RowKit
set_option maxHeartbeats 1600000
set_option maxRecDepth 100000
theorem args_ClaimHalves {H : Type} {enc : TypeId × Value → H} {w : World} {base : Nat} {sp : Nat → Bool} {held : Bool} {t0 t1 t2 : TypeId} {args : Array Value} {ds : List (DataW H)} {ps : List MemPlace}
    (h : DataW.TrodAll enc Try.prog w base sp held [t0, t1, t2] args.toList ds ps) : ∃ v0 v1 v2 d0 d1 d2, args = #[v0, v1, v2] ∧ ds = [d0, d1, d2] := by
  obtain ⟨v0, vs, d0, ds1, _, _, h0, rfl, rfl, _, h⟩ := trodAll_cons h
  obtain ⟨v1, vs, d1, ds2, _, _, rfl, rfl, rfl, _, h⟩ := trodAll_cons h
  obtain ⟨v2, vs, d2, ds3, _, _, rfl, rfl, rfl, _, h⟩ := trodAll_cons h
  obtain ⟨rfl, rfl, rfl⟩ := trodAll_nil h
  exact ⟨v0, v1, v2, d0, d1, d2, by cases args; simp_all, rfl⟩

theorem lifted_ClaimHalves (os : Os) (started : os.Started) (H : Type) (enc : TypeId × Value → H) :
    ReturnsInHanded {} Try.checked os 4 .any (Rows.claimHalvesSpec.pre6 enc Try.prog Try.f4 Rows.claimHalvesRow.domain false) (Rows.claimHalvesSpec.post enc Try.prog Try.f4 Rows.claimHalvesRow.apart Rows.claimHalvesRow.fresh Rows.claimHalvesRow.handsOn Rows.claimHalvesRow.again) := by
  refine returnsInHanded_of_change (C := Try.checked) own started (by kernel_rfl) Try.func4
    (ChangeSpec.witness6 (enc := enc) (C := Try.checked) false ⟨#[], #[(seg 0 0 hz hz hz false).den id, (hash hz).den id, .bool false], []⟩ 8 (by kernel_rfl) (by kernel_rfl) (by kernel_rfl) (by kernel_rfl)) ?_
  intro W base args ds gs before hval0 hW _ _
  have hval : ∀ (j : Nat) t v, Try.f4.params[j]? = some t → args[j]? = some v → Value.okWide Try.prog W .any base t v := hval0
  have hW' := hW
  obtain ⟨p, q, hA0, hV, rfl, _, _⟩ := hW
  have hA : DataW.TrodAll enc Try.prog W 0 (fun _ => true) true Try.f4.params.toList args.toList ds p := hA0
  rw [Try.params4] at hA hval
  obtain ⟨v0, v1, v2, d0, d1, d2, rfl, rfl⟩ := args_ClaimHalves hA
  obtain ⟨rfl, rfl⟩ := trodVars_none hV
  obtain ⟨lo0, hi0, f0, t0, m0, b0, rfl, hf0, ht0, hm0⟩ := read_seg (hval 0 25 v0 rfl rfl)
  obtain ⟨h1, rfl, hh1⟩ := read_hash (hval 1 23 v1 rfl rfl)
  obtain ⟨a2, rfl⟩ := read_bool (by kernel_rfl) (hval 2 4 v2 rfl rfl)
  refine ((halves_spec lo0 hi0 f0 t0 m0 b0 h1 a2 ).calls rfl W ?_).mono ?_
  · intro x hx
    simp only [List.mem_cons, List.not_mem_nil, or_false] at hx
    rcases hx with rfl | rfl | rfl
    · exact ok_seg hf0 ht0 hm0
    · exact ok_hash hh1
    · exact .one rfl (.v rfl)
  · rintro e W' ⟨rfl, hos, hout, _, hb⟩
    refine ⟨_, rfl, ?_⟩
    exact post_true kids full (by rw [Try.params4]; decide) und4 (by kernel_rfl) rfl rfl rfl rfl hW' hos hout hb

theorem holds_ClaimHalves : Rows.ClaimHalvesSaid :=
  OpenClaim.holds_of_wide 4 Try.f4 rfl rfl rfl rfl rfl rfl rfl ⟨rfl, rfl, rfl, rfl, rfl⟩ rfl rfl rfl rfl rfl (by kernel_rfl) Try.func4 (by kernel_rfl)
    (of_decide_eq_true (by kernel_rfl)) (by unfold Func.isWrapper; first | (rw [if_pos (by decide +kernel)]; kernel_rfl) | (rw [if_neg (by decide +kernel)]; exact ⟨rfl, rfl⟩))
    (fun os started H enc _ => lifted_ClaimHalves os started H enc)
end Go.Proofs.Ytphbjceeoedigaa
