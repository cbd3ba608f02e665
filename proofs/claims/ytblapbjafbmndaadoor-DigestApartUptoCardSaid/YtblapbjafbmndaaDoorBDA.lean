/- The given statement DigestApartCardSaid holds of every call: for every argument that the guards let in. -/
import Derived.Test.YtblapbjafbmndaaDoorP17
import Derived.Test.YtblapbjafbmndaaDoorBr5
namespace Go.Proofs.YtblapbjafbmndaaDoor
open Go Go.Sx Go.ChangeShapes Go.WideShapes Go.ChangeAt Go.RowKit
set_option linter.unusedVariables false
set_option linter.unusedSimpArgs false
set_option maxHeartbeats 4000000
set_option maxRecDepth 100000
theorem args_DigestApart {H : Type} {enc : TypeId × Value → H} {w : World} {base : Nat} {sp : Nat → Bool} {held : Bool} {t0 t1 t2 t3 : TypeId} {args : Array Value} {ds : List (DataW H)} {ps : List MemPlace}
    (h : DataW.TrodAll enc Tryd.prog w base sp held [t0, t1, t2, t3] args.toList ds ps) : ∃ v0 v1 v2 v3 d0 d1 d2 d3, args = #[v0, v1, v2, v3] ∧ ds = [d0, d1, d2, d3] ∧ (∃ p, DataW.Trod enc Tryd.prog w base sp held t0 v0 d0 p) ∧ (∃ p, DataW.Trod enc Tryd.prog w base sp held t1 v1 d1 p) ∧ (∃ p, DataW.Trod enc Tryd.prog w base sp held t2 v2 d2 p) ∧ (∃ p, DataW.Trod enc Tryd.prog w base sp held t3 v3 d3 p) := by
  obtain ⟨v0, vs, d0, ds1, p0, _, h0, rfl, rfl, r0, h⟩ := trodAll_cons h
  obtain ⟨v1, vs, d1, ds2, p1, _, rfl, rfl, rfl, r1, h⟩ := trodAll_cons h
  obtain ⟨v2, vs, d2, ds3, p2, _, rfl, rfl, rfl, r2, h⟩ := trodAll_cons h
  obtain ⟨v3, vs, d3, ds4, p3, _, rfl, rfl, rfl, r3, h⟩ := trodAll_cons h
  obtain ⟨rfl, rfl, rfl⟩ := trodAll_nil h
  exact ⟨v0, v1, v2, v3, d0, d1, d2, d3, by cases args; simp_all, rfl, ⟨p0, r0⟩, ⟨p1, r1⟩, ⟨p2, r2⟩, ⟨p3, r3⟩⟩

theorem lifted_DigestApart (os : Os) (started : os.Started) (H : Type) (enc : TypeId × Value → H) (F : Stop.Interp) :
    ReturnsInHanded {} Tryd.checked os 5 .any ((Rows.OpenSpec.upto Rows.digestApartSpec).preRow enc Tryd.prog Tryd.f5 Rows.digestApartUptoRow.domain false Rows.digestApartUptoRow.laid) (((Rows.OpenSpec.upto Rows.digestApartSpec).at F).post enc Tryd.prog Tryd.f5 Rows.digestApartUptoRow.apart Rows.digestApartUptoRow.fresh Rows.digestApartUptoRow.handsOn Rows.digestApartUptoRow.again) := by
  refine returnsInHanded_of_row (C := Tryd.checked) (s := Rows.OpenSpec.upto Rows.digestApartSpec) own started (by kernel_rfl) Tryd.func5
    ⟨World.doorLaid Tryd.prog 19 os, fun _ _ => 0, ⟨#[], #[.string .empty, .slice none 0 0, .string .empty, .slice none 0 0], []⟩, rfl, World.shaped_of_RefB (by kernel_rfl) (by kernel_rfl), rfl, (Input.okWide_of_okWideB (by kernel_rfl)).2,
      OpenSpec.preRow_of_cond (x := ([.lit (.string []), .nil, .lit (.string []), .nil], [], [])) 8 (by kernel_rfl) (by kernel_rfl) (fun k hk => by cases hk; kernel_rfl) (by kernel_rfl) (door_met os _), by
        simp only [Assume.holds]
        exact ⟨by simp, by simp, fun _ => Modest.zero, by simp, by simp⟩⟩ ?_
  intro W base args ds gs before hval0 hW _ hk hs hL _ _
  have hval : ∀ (j : Nat) t v, Tryd.f5.params[j]? = some t → args[j]? = some v → Value.okWide Tryd.prog W .any base t v := hval0
  have hW' := hW
  obtain ⟨p, q, hA0, hV, rfl, _, _⟩ := hW
  have hA : DataW.TrodAll enc Tryd.prog W 0 (fun _ => true) true Tryd.f5.params.toList args.toList ds p := hA0
  rw [Tryd.params5] at hA hval
  obtain ⟨v0, v1, v2, v3, d0, d1, d2, d3, rfl, rfl, ⟨p0, r0⟩, ⟨p1, r1⟩, ⟨p2, r2⟩, ⟨p3, r3⟩⟩ := args_DigestApart hA
  obtain ⟨rfl, rfl⟩ := trodVars_none hV
  have hB := of_decide_eq_true (hk _ rfl)
  simp only [List.append_nil, Rows.uptoBulkAll] at hB
  obtain ⟨s0, g0, e0, ok0, _⟩ := read_argO (f := .str) (by kernel_rfl) (by kernel_rfl) (hval 0 9 v0 rfl rfl) r0
  replace e0 : v0 = (str s0).den id := e0
  replace ok0 : (str s0).Ok W (fun _ => False) 0 := ok0
  subst e0
  obtain ⟨z1, g1, e1, ok1, _, li1⟩ := read_argO (f := .sl 1 [.sl 1 [.int .u8]]) (by kernel_rfl) (by kernel_rfl) (hval 1 30 v1 rfl rfl) r1
  obtain ⟨x1, l1, f1, ok1, hg1, hl1, _⟩ := read_viewL (good := fun y => Go.Sha.By (bl y) ∧ (bl y).length ≤ 140737488351232) g1 (li1 (light_of (j := 1) hs (by rfl) (by rfl) (by kernel_rfl))) ok1 eBl (fun el h w => ba_dec el h w)
  rw [f1] at e1
  subst e1
  have hk1 := bulk_parts r1 ok1
  have hs1 : l1.length * 24 ≤ 140737488351232 := by
    have h := view_sized (P := Tryd.prog) (j := 1) hs (by rfl) (by rfl) (show Tryd.prog.underlying 30 = some (.slice 22) by kernel_rfl) r1 ok1
    rw [show Tryd.prog.bytesOf 22 = 24 by kernel_rfl] at h
    exact h
  obtain ⟨s2, g2, e2, ok2, _⟩ := read_argO (f := .str) (by kernel_rfl) (by kernel_rfl) (hval 2 9 v2 rfl rfl) r2
  replace e2 : v2 = (str s2).den id := e2
  replace ok2 : (str s2).Ok W (fun _ => False) 0 := ok2
  subst e2
  obtain ⟨z3, g3, e3, ok3, _, li3⟩ := read_argO (f := .sl 1 [.sl 1 [.int .u8]]) (by kernel_rfl) (by kernel_rfl) (hval 3 30 v3 rfl rfl) r3
  obtain ⟨x3, l3, f3, ok3, hg3, hl3, _⟩ := read_viewL (good := fun y => Go.Sha.By (bl y) ∧ (bl y).length ≤ 140737488351232) g3 (li3 (light_of (j := 3) hs (by rfl) (by rfl) (by kernel_rfl))) ok3 eBl (fun el h w => ba_dec el h w)
  rw [f3] at e3
  subst e3
  have hk3 := bulk_parts r3 ok3
  have hs3 : l3.length * 24 ≤ 140737488351232 := by
    have h := view_sized (P := Tryd.prog) (j := 3) hs (by rfl) (by rfl) (show Tryd.prog.underlying 30 = some (.slice 22) by kernel_rfl) r3 ok3
    rw [show Tryd.prog.bytesOf 22 = 24 by kernel_rfl] at h
    exact h
  refine ((apart' s0 v1 l1 s2 v3 l3 (g0) hl1 hg1 (by omega) hs1 (g2) hl3 hg3 (by omega) hs3).calls Tryd.call5 rfl W (glob_of_laid hL) ?_).mono ?_
  · intro x hx
    simp only [List.mem_cons, List.not_mem_nil, or_false] at hx
    rcases hx with rfl | rfl | rfl | rfl
    · exact ok0
    · exact ok1
    · exact ok2
    · exact ok3
  · rintro e W' ⟨rfl, hos, hout, _, hb⟩
    refine ⟨_, rfl, ?_⟩
    exact post_true kids full (by rw [Tryd.params5]; decide) undB (by kernel_rfl) rfl rfl rfl rfl hW' hos hout hb

/-- The given statement DigestApartSaid. -/
theorem row_DigestApart : Rows.DigestApartUptoSaid :=
  OpenClaim.holds_of_cond 5 Tryd.f5 rfl rfl rfl rfl rfl rfl rfl ⟨rfl, rfl, rfl, rfl, rfl⟩ rfl rfl rfl rfl rfl (by kernel_rfl) Tryd.func5 (by kernel_rfl)
    (of_decide_eq_true (by kernel_rfl)) (by unfold Func.isWrapper; first | (rw [if_pos (by decide +kernel)]; kernel_rfl) | (rw [if_neg (by decide +kernel)]; exact ⟨rfl, rfl⟩))
    (fun os started H enc _ F => by rw [OpenClaim.pre_eq_preRow]; exact lifted_DigestApart os started H enc F)

/-- The given statement DigestApartUptoCardSaid: the row, tied to the program's text. -/
theorem holds_DigestApart : Rows.DigestApartUptoCardSaid :=
  Claim7.holds_tied_plain_at .later [] [.data, .data] true (true, "6d39adb181281a26e5c100cf81e318348b2fd30cefb08bebc47d9bb527c53f88") false row_DigestApart (fun _ h => by cases h) (by kernel_rfl) (fun _ h => by cases h) digestApartUpto_row_tie rfl ⟨rfl, rfl⟩ (by kernel_rfl) rfl
    (fun f fn hf hfn => by
      obtain rfl : f = 5 := (Option.some.inj ((show Tryd.prog.funcNamed "bascule/basculelaw02.DigestApart" = some 5 by kernel_rfl).symm.trans hf)).symm
      obtain rfl : fn = Tryd.f5 := (Option.some.inj (Tryd.func5.symm.trans hfn)).symm
      refine ⟨by kernel_rfl, fun j t ht => ?_⟩
      have hall : (Tryd.f5.params.toList.all fun t => !(Tryd.prog.wantsStandIn t)) = true := by kernel_rfl
      have hm : t ∈ Tryd.f5.params.toList := Array.mem_toList_iff.2 (Array.mem_of_getElem? ht)
      have h1 : (!(Tryd.prog.wantsStandIn t)) = true := List.all_eq_true.1 hall t hm
      show Tryd.prog.wantsStandIn t = false
      simpa using h1)
    (by kernel_rfl)
end Go.Proofs.YtblapbjafbmndaaDoor
