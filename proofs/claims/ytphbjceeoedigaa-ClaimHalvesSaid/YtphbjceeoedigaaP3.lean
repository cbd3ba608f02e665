import Derived.Test.YtphbjceeoedigaaP2
import Derived.Test.YtphbjceeoedigaaSx20
import Derived.Test.YtphbjceeoedigaaRows
import Derived.JoinedOf
import Derived.JoinedAt
namespace Go.Proofs.Ytphbjceeoedigaa
open Go Go.Sx Go.ChangeShapes Go.WideShapes Go.ChangeAt Go.RowKit

set_option maxHeartbeats 1600000
set_option maxRecDepth 100000
theorem own : ownKnob Try.prog.godebug = none := by kernel_rfl
theorem kids : Kids Try.prog (· < Try.prog.types.size) := kids_rows (by kernel_rfl) (by kernel_rfl)
theorem full : ∀ t e, t < Try.prog.types.size → Try.prog.underlying t = some (.slice e) → 0 < Try.prog.cellsOf e := slices_full_of Try.prog (by kernel_rfl)

theorem cells25 : Try.prog.cellTypes Try.prog.depth 25 = some ([3, 3] ++ List.replicate 96 5 ++ [4]) := by kernel_rfl
theorem cells23 : Try.prog.cellTypes Try.prog.depth 23 = some (List.replicate 32 5) := by kernel_rfl
theorem und4 : Try.prog.underlying 4 = some .bool := by kernel_rfl

theorem read_seg {w : World} {r : Reach} {b : Nat} {v : Value} (hv : Value.okWide Try.prog w r b 25 v) :
    ∃ lo hi f t m p, v = (seg lo hi f t m p).den id ∧ f.length = 32 ∧ t.length = 32 ∧ m.length = 32 := by
  obtain ⟨l, h1, rfl⟩ := read_agg (fs := [.int .i64, .int .i64, .ints .u8 32, .ints .u8 32, .ints .u8 32, .bool]) (by kernel_rfl) cells25 (by kernel_rfl) (by kernel_rfl) hv
  obtain ⟨_, l1, rfl, ⟨lo, rfl, _⟩, h2⟩ := FK.all_cons h1
  obtain ⟨_, l2, rfl, ⟨hi, rfl, _⟩, h3⟩ := FK.all_cons h2
  obtain ⟨_, l3, rfl, ⟨f, rfl, hf, _⟩, h4⟩ := FK.all_cons h3
  obtain ⟨_, l4, rfl, ⟨t, rfl, ht, _⟩, h5⟩ := FK.all_cons h4
  obtain ⟨_, l5, rfl, ⟨m, rfl, hm, _⟩, h6⟩ := FK.all_cons h5
  obtain ⟨_, l6, rfl, ⟨p, rfl⟩, h7⟩ := FK.all_cons h6
  obtain rfl := FK.all_nil h7
  exact ⟨lo, hi, f, t, m, p, rfl, hf, ht, hm⟩

theorem read_hash {w : World} {r : Reach} {b : Nat} {v : Value} (hv : Value.okWide Try.prog w r b 23 v) : ∃ l, v = (hash l).den id ∧ l.length = 32 := by
  obtain ⟨l, h1, rfl⟩ := read_agg (fs := [.ints .u8 32]) (by kernel_rfl) cells23 (by kernel_rfl) (by kernel_rfl) hv
  obtain ⟨_, l1, rfl, ⟨f, rfl, hf, _⟩, h2⟩ := FK.all_cons h1
  obtain rfl := FK.all_nil h2
  exact ⟨f, rfl, hf⟩

theorem args4 {H : Type} {enc : TypeId × Value → H} {w : World} {base : Nat} {sp : Nat → Bool} {held : Bool} {t0 t1 t2 t3 : TypeId} {args : Array Value} {ds : List (DataW H)} {ps : List MemPlace}
    (h : DataW.TrodAll enc Try.prog w base sp held [t0, t1, t2, t3] args.toList ds ps) : ∃ v0 v1 v2 v3 d0 d1 d2 d3, args = #[v0, v1, v2, v3] ∧ ds = [d0, d1, d2, d3] := by
  obtain ⟨v0, vs, d0, ds1, _, _, h0, rfl, rfl, _, h⟩ := trodAll_cons h
  obtain ⟨v1, vs, d1, ds2, _, _, rfl, rfl, rfl, _, h⟩ := trodAll_cons h
  obtain ⟨v2, vs, d2, ds3, _, _, rfl, rfl, rfl, _, h⟩ := trodAll_cons h
  obtain ⟨v3, vs, d3, ds4, _, _, rfl, rfl, rfl, _, h⟩ := trodAll_cons h
  obtain ⟨rfl, rfl, rfl⟩ := trodAll_nil h
  exact ⟨v0, v1, v2, v3, d0, d1, d2, d3, by cases args; simp_all, rfl⟩

theorem ok_seg {w : World} {av : Nat → Prop} {n : Nat} {lo hi : Int} {f t m : List Int} {p : Bool} (hf : f.length = 32) (ht : t.length = 32) (hm : m.length = 32) : (seg lo hi f t m p).Ok w av n := by
  refine .agg fun s hs => ?_
  simp only [List.mem_cons, List.not_mem_nil, or_false] at hs
  rcases hs with rfl | rfl | rfl | rfl | rfl | rfl
  · exact .v rfl
  · exact .v rfl
  · exact .ints hf
  · exact .ints ht
  · exact .ints hm
  · exact .v rfl

theorem ok_hash {w : World} {av : Nat → Prop} {n : Nat} {l : List Int} (hl : l.length = 32) : (hash l).Ok w av n := by
  refine .agg fun s hs => ?_
  simp only [List.mem_cons, List.not_mem_nil, or_false] at hs
  subst hs
  exact .ints hl

theorem steps_lifted (os : Os) (started : os.Started) (H : Type) (enc : TypeId × Value → H) :
    ReturnsInHanded {} Try.checked os 3 .any (Rows.claimStepsSpec.pre6 enc Try.prog Try.f3 Rows.claimStepsRow.domain false) (Rows.claimStepsSpec.post enc Try.prog Try.f3 Rows.claimStepsRow.apart Rows.claimStepsRow.fresh Rows.claimStepsRow.handsOn Rows.claimStepsRow.again) := by
  refine returnsInHanded_of_change (C := Try.checked) own started (by kernel_rfl) Try.func3
    (ChangeSpec.witness6 (enc := enc) (C := Try.checked) false ⟨#[], #[(seg 0 0 hz hz hz false).den id, .int .i64 0, (hash hz).den id, .bool false], []⟩ 8 (by kernel_rfl) (by kernel_rfl) (by kernel_rfl) (by kernel_rfl)) ?_
  intro W base args ds gs before hval0 hW _ _
  have hval : ∀ (j : Nat) t v, Try.f3.params[j]? = some t → args[j]? = some v → Value.okWide Try.prog W .any base t v := hval0
  have hW' := hW
  obtain ⟨p, q, hA0, hV, rfl, _, _⟩ := hW
  have hA : DataW.TrodAll enc Try.prog W 0 (fun _ => true) true Try.f3.params.toList args.toList ds p := hA0
  rw [Try.params3] at hA hval
  obtain ⟨v0, v1, v2, v3, d0, d1, d2, d3, rfl, rfl⟩ := args4 hA
  obtain ⟨rfl, rfl⟩ := trodVars_none hV
  obtain ⟨lo, hi, f, t, m, b, rfl, hf, ht, hm⟩ := read_seg (hval 0 25 v0 rfl rfl)
  obtain ⟨c, rfl, _, hc⟩ := read_one (k := .i64) (by kernel_rfl) (hval 1 3 v1 rfl rfl)
  obtain ⟨mid, rfl, hmid⟩ := read_hash (hval 2 23 v2 rfl rfl)
  obtain ⟨ag, rfl⟩ := read_bool (by kernel_rfl) (hval 3 4 v3 rfl rfl)
  have hc' : c < 9223372036854775808 := by
    have : IntKind.i64.max = 9223372036854775807 := by decide
    omega
  refine ((steps_spec lo hi f t m b c mid ag hc').calls rfl W ?_).mono ?_
  · intro x hx
    simp only [List.mem_cons, List.not_mem_nil, or_false] at hx
    rcases hx with rfl | rfl | rfl | rfl
    · exact ok_seg hf ht hm
    · exact .one rfl (.v rfl)
    · exact ok_hash hmid
    · exact .one rfl (.v rfl)
  · rintro e W' ⟨rfl, hos, hout, _, hb⟩
    refine ⟨_, rfl, ?_⟩
    exact post_true kids full (by rw [Try.params3]; decide) und4 (by kernel_rfl) rfl rfl rfl rfl hW' hos hout hb

theorem steps_holds : Rows.ClaimStepsSaid :=
  OpenClaim.holds_of_wide 3 Try.f3 rfl rfl rfl rfl rfl rfl rfl ⟨rfl, rfl, rfl, rfl, rfl⟩ rfl rfl rfl rfl rfl (by kernel_rfl) Try.func3 (by kernel_rfl)
    (of_decide_eq_true (by kernel_rfl)) (by unfold Func.isWrapper; first | (rw [if_pos (by decide +kernel)]; kernel_rfl) | (rw [if_neg (by decide +kernel)]; exact ⟨rfl, rfl⟩))
    (fun os started H enc _ => steps_lifted os started H enc)
end Go.Proofs.Ytphbjceeoedigaa
