/- The given statement InboxNilSaid holds of every call: for every argument that the guards let in. -/
import Derived.Test.YtgbikcniediomaaPI
import Derived.Test.YtgbikcniediomaaBi3
namespace Go.Proofs.Ytgbikcniediomaa
open Go Go.Sx Go.ChangeShapes Go.WideShapes Go.ChangeAt Go.RowKit
set_option linter.unusedVariables false
set_option linter.unusedSimpArgs false
set_option maxHeartbeats 4000000
set_option maxRecDepth 100000
theorem args_InboxNil {H : Type} {enc : TypeId × Value → H} {w : World} {base : Nat} {sp : Nat → Bool} {held : Bool} {t0 : TypeId} {args : Array Value} {ds : List (DataW H)} {ps : List MemPlace}
    (h : DataW.TrodAll enc Try.prog w base sp held [t0] args.toList ds ps) : ∃ v0 d0, args = #[v0] ∧ ds = [d0] ∧ (∃ p, DataW.Trod enc Try.prog w base sp held t0 v0 d0 p) := by
  obtain ⟨v0, vs, d0, ds1, p0, _, h0, rfl, rfl, r0, h⟩ := trodAll_cons h
  obtain ⟨rfl, rfl, rfl⟩ := trodAll_nil h
  exact ⟨v0, d0, by cases args; simp_all, rfl, ⟨p0, r0⟩⟩

theorem lifted_InboxNil (os : Os) (started : os.Started) (H : Type) (enc : TypeId × Value → H) :
    ReturnsInHanded {} Try.checked os 6 .any (Rows.inboxNilSpec.pre6 enc Try.prog Try.f6 Rows.inboxNilRow.domain false) (Rows.inboxNilSpec.post enc Try.prog Try.f6 Rows.inboxNilRow.apart Rows.inboxNilRow.fresh Rows.inboxNilRow.handsOn Rows.inboxNilRow.again) := by
  refine returnsInHanded_of_change_sized (C := Try.checked) own started (by kernel_rfl) Try.func6
    (ChangeSpec.witness6 (enc := enc) (C := Try.checked) false ⟨#[], #[(M.agg [.v (.int .i64 0), .v (.int .u64 0), .v (.int .u64 0), .v (.int .u64 0), .ints .u64 4 (List.replicate 4 0), .v (.int .u64 0), .v (.slice none 0 0), .v (.slice none 0 0)]).den id], []⟩ 8 (by kernel_rfl) (by kernel_rfl) (by kernel_rfl) (by kernel_rfl)) ?_
  intro W base args ds gs before hval0 hW _ hs _
  have hval : ∀ (j : Nat) t v, Try.f6.params[j]? = some t → args[j]? = some v → Value.okWide Try.prog W .any base t v := hval0
  have hW' := hW
  obtain ⟨p, q, hA0, hV, rfl, _, _⟩ := hW
  have hA : DataW.TrodAll enc Try.prog W 0 (fun _ => true) true Try.f6.params.toList args.toList ds p := hA0
  rw [Try.params6] at hA hval
  obtain ⟨v0, d0, rfl, rfl, ⟨p0, r0⟩⟩ := args_InboxNil hA
  obtain ⟨rfl, rfl⟩ := trodVars_none hV
  obtain ⟨y0, g0, e0, ok0, _, li0⟩ := read_argL (fs := OpF) (by kernel_rfl) (by kernel_rfl) (hval 0 60 v0 rfl rfl) r0
  have w0 := li0 (light_of (j := 0) hs (by rfl) (by rfl) (by kernel_rfl))
  subst e0
  refine ((inil' y0 g0 w0).calls Try.call6 rfl W (fun _ _ _ h => by cases h) ?_).mono ?_
  · intro x hx
    simp only [List.mem_cons, List.not_mem_nil, or_false] at hx
    rcases hx with rfl
    · exact ok0
  · rintro e W' ⟨rfl, hos, hout, _, hb⟩
    refine ⟨_, rfl, ?_⟩
    exact post_true kids full (by rw [Try.params6]; decide) undB (by kernel_rfl) rfl rfl rfl rfl hW' hos hout hb

/-- The given statement InboxNilSaid. -/
theorem holds_InboxNil : Rows.InboxNilSaid :=
  OpenClaim.holds_of_wide 6 Try.f6 rfl rfl rfl rfl rfl rfl rfl ⟨rfl, rfl, rfl, rfl, rfl⟩ rfl rfl rfl rfl rfl (by kernel_rfl) Try.func6 (by kernel_rfl)
    (of_decide_eq_true (by kernel_rfl)) (by unfold Func.isWrapper; first | (rw [if_pos (by decide +kernel)]; kernel_rfl) | (rw [if_neg (by decide +kernel)]; exact ⟨rfl, rfl⟩))
    (fun os started H enc _ => lifted_InboxNil os started H enc)
end Go.Proofs.Ytgbikcniediomaa
