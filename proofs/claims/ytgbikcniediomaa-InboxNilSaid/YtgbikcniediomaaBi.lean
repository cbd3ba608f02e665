import Derived.Test.YtgbikcniediomaaPI
import Derived.Test.YtgbikcniediomaaRows
import Derived.JoinedOf
import Derived.JoinedAt
namespace Go.Sx
open Go.ChangeShapes Go.WideShapes Go.ChangeAt Go.RowKit
section
variable {H : Type} {enc : TypeId × Value → H} {P : Program} {w : World} {base : Nat} {spare : Nat → Bool} {held : Bool}
/-- An argument of several cells, and what is nested in it weighs. -/
theorem read_argL {r : Reach} {b : Nat} {t : TypeId} {v : Value} {d : DataW H} {p : List MemPlace} {fs : List RK} (hk : (match P.underlying t with | some (.struct _) | some (.array _ _) => true | _ => false) = true) (hs : shapeOf P 20 t = some fs)
    (hv : Value.okWide P w r b t v) (ht : DataW.Trod enc P w base spare held t v d p) : ∃ d' : RK.TL fs, RK.goods fs d' ∧ v = (M.agg (RK.svs fs d')).den id ∧ (M.agg (RK.svs fs d')).Ok w (fun _ => False) 0 ∧ (∀ s ∈ RK.svs fs d', s.isPure = true) ∧ (Light P 20 t d → RK.lights fs d') := by
  obtain ⟨fuel, ht⟩ := ht
  obtain ⟨l, h1, h2, h3, h4, h5⟩ := read_trod 20 hs ht
  have : ∃ cs, v = .agg cs := by
    unfold Value.okWide at hv
    split at hv
    · obtain ⟨cs, h, _⟩ := hv; exact ⟨cs, h⟩
    · obtain ⟨cs, h, _⟩ := hv; exact ⟨cs, h⟩
    · rename_i g1 g2
      split at hk
      · rename_i a ha; exact absurd ha (g1 a)
      · rename_i a b ha; exact absurd ha (g2 a b)
      · cases hk
  obtain ⟨cs, rfl⟩ := this
  refine ⟨l, h1, ?_, .agg h3, h4, h5⟩
  simp only [M.den, denL_pure h4 id nowhere, h2]
  simp [Value.cells]
end
end Go.Sx
namespace Go.Proofs.Ytgbikcniediomaa
open Go Go.Sx Go.ChangeShapes Go.WideShapes Go.ChangeAt Go.RowKit
set_option linter.unusedVariables false
set_option linter.unusedSimpArgs false
set_option maxHeartbeats 4000000
set_option maxRecDepth 100000
theorem own : ownKnob Try.prog.godebug = none := by kernel_rfl
theorem kids : Kids Try.prog (· < Try.prog.types.size) := kids_rows (by kernel_rfl) (by kernel_rfl)
theorem full : ∀ t e, t < Try.prog.types.size → Try.prog.underlying t = some (.slice e) → 0 < Try.prog.cellsOf e := slices_full_of Try.prog (by kernel_rfl)
theorem undB : Try.prog.underlying 4 = some .bool := by kernel_rfl
/-- An act's bytes, as numbers. -/
theorem b1_svs (l : List (RK.TL [.int .u8])) : List.map (RK.svs [.int .u8]) l = List.map eB (List.map b1 l) := by
  rw [List.map_map]
  rfl
end Go.Proofs.Ytgbikcniediomaa
