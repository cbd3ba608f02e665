/- What the given condition on the package variables tells; closed facts. -/
import Derived.Test.YtgbikcniediomaaDoorPA
import Derived.Test.YtgbikcniediomaaDoorRows
import Derived.Test.YtgbikcniediomaaDoorTie
import Derived.Test.YtgbikcniediomaaDoorCards
import Derived.JoinedOf
import Derived.JoinedAt
import Derived.LaidMore
import Derived.LaidHandle
import Derived.Lib.LaidTab
import Derived.SevenTiedAt
namespace Go.Proofs.YtgbikcniediomaaDoor
open Go Go.Sx Go.ChangeShapes Go.WideShapes Go.ChangeAt Go.RowKit
set_option linter.unusedVariables false
set_option linter.unusedSimpArgs false
set_option maxHeartbeats 4000000
set_option maxRecDepth 100000
theorem own : ownKnob Tryd.prog.godebug = none := by kernel_rfl
theorem kids : Kids Tryd.prog (· < Tryd.prog.types.size) := kids_rows (by kernel_rfl) (by kernel_rfl)
theorem full : ∀ t e, t < Tryd.prog.types.size → Tryd.prog.underlying t = some (.slice e) → 0 < Tryd.prog.cellsOf e := slices_full_of Tryd.prog (by kernel_rfl)
theorem undB : Tryd.prog.underlying 4 = some .bool := by kernel_rfl

def laidL : List (String × DataW Unit) := [("bascule/digest.first", Rows.laid_bascule_digest_first), ("bascule/digest.rounds", Rows.laid_bascule_digest_rounds)]
theorem door_met (os : Os) (args : Array Value) : laidMetH Tryd.prog laidL ((World.doorLaid Tryd.prog 19 os).forCall (fun _ _ => 0) ⟨#[], args, []⟩).memory :=
  laidMetH_of_parts3 (fuel := 8) (laidMet_of_run' 8 (by kernel_rfl) (by kernel_rfl)) (by kernel_rfl) (by kernel_rfl)
theorem cell_getD {zs : List Int} {i : Nat} (hi : i < zs.length) : zs.getD i 0 = zs[i] := by
  rw [List.getD_eq_getElem?_getD, List.getElem?_eq_getElem hi]
  rfl
theorem glob_of_laid {W : World} (h : laidMetH Tryd.prog laidL W) : ∀ g k l, gget gtab g = some (k, l) → g < W.heap.size ∧ ∀ i (hi : i < l.length), W.cell? ⟨g, i, none⟩ = some (.int k l[i]) := by
  rw [MakeChecks.laidMetH_plain _ _ _ (by kernel_rfl)] at h
  have g0 : Tryd.prog.globalNamed "bascule/digest.first" = some 0 := by kernel_rfl
  have g1 : Tryd.prog.globalNamed "bascule/digest.rounds" = some 1 := by kernel_rfl
  have t0 : (Tryd.prog.globals[0]?).map (·.type) = some 99 := by kernel_rfl
  have t1 : (Tryd.prog.globals[1]?).map (·.type) = some 106 := by kernel_rfl
  have c0 : Lib.TabIs Tryd.prog W "bascule/digest.first" .u32 firstL :=
    Lib.tabIs_of_head g0 t0 (show Tryd.prog.underlying 99 = some (.array 8 98) by kernel_rfl) (show Tryd.prog.underlying 98 = some (.int .u32) by kernel_rfl) (by kernel_rfl) (by kernel_rfl) h
  have c1 : Lib.TabIs Tryd.prog W "bascule/digest.rounds" .u32 roundsL := by
    obtain ⟨ps, ⟨_, _, _, _, _, _, _, _, _, _, ⟨gg, tt, cs, fuel, p, q, hg, ht, hv, hd, _, _⟩, _⟩, _, _⟩ := h
    obtain rfl := Option.some.inj (g1.symm.trans hg)
    obtain rfl := Option.some.inj (t1.symm.trans ht)
    unfold Lib.TabIs
    have hd' : DataW.trod _ Tryd.prog W _ _ _ fuel 106 _ = some (Lib.tabData .u32 roundsL, p) := hd
    rw [hv, ← Lib.cells_of_tab (show Tryd.prog.underlying 106 = some (.array 64 98) by kernel_rfl) (show Tryd.prog.underlying 98 = some (.int .u32) by kernel_rfl) (by kernel_rfl) (by kernel_rfl) hd']
  have lt : ∀ {g v}, W.cell? ⟨g, 0, none⟩ = some v → g < W.heap.size := fun h => World.block_lt_of_cell? _ _ h
  intro g k l hg
  unfold gtab gget at hg
  cases h0 : Nat.beq 0 g with
  | true =>
    have := Nat.eq_of_beq_eq_true h0
    subst this
    cases hg
    exact ⟨lt (c0.cell g0 0 (by decide)), fun i hi => by rw [c0.cell g0 i hi, cell_getD hi]⟩
  | false =>
    rw [h0] at hg
    simp only [cond_false, gget] at hg
    cases h1 : Nat.beq 1 g with
    | true =>
      have := Nat.eq_of_beq_eq_true h1
      subst this
      cases hg
      exact ⟨lt (c1.cell g1 0 (by decide)), fun i hi => by rw [c1.cell g1 i hi, cell_getD hi]⟩
    | false => rw [h1] at hg; cases hg

end Go.Proofs.YtgbikcniediomaaDoor
