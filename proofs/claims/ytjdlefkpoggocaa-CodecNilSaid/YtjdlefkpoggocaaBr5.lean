/- An item as an argument. -/
import Derived.Test.YtjdlefkpoggocaaBr4
import Derived.Test.YtjdlefkpoggocaaQ49
namespace Go.Sx
open Go.ChangeShapes Go.WideShapes Go.ChangeAt Go.RowKit
section
variable {H : Type} {enc : TypeId × Value → H} {P : Program} {w : World} {base : Nat} {spare : Nat → Bool} {held : Bool}
/-- An argument of several cells, and what is nested in it weighs. -/
theorem read_argL {r : Reach} {b : Nat} {t : TypeId} {v : Value} {d : DataW H} {p : List MemPlace} {fs : List RK} (hk : (match P.underlying t with | some (.struct _) | some (.array _ _) => true | _ => false) = true) (hs : shapeOf P 20 t = some fs)
    (hv : Value.okWide P w r b t v) (ht : DataW.Trod enc P w base spare held t v d p) : ∃ d' : RK.TL fs, RK.goods fs d' ∧ v = (M.agg (RK.svs fs d')).den id ∧ (M.agg (RK.svs fs d')).Ok w (fun _ => False) 0 ∧ (∀ s ∈ RK.svs fs d', s.isPure = true) ∧ (Light P 20 t d → RK.lights fs d') := by
  obtain ⟨fuel, ht⟩ := ht
  obtain ⟨l, h1, h2, h3, h4, h5⟩ := read_trod 20 hs ht
  have : ∃ cs, v = .agg cs := by
    unfold Value.okWide at hv
    split at hv
    · obtain ⟨cs, h, _⟩ := hv; exact ⟨cs, h⟩
    · obtain ⟨cs, h, _⟩ := hv; exact ⟨cs, h⟩
    · rename_i g1 g2
      split at hk
      · rename_i a ha; exact absurd ha (g1 a)
      · rename_i a b ha; exact absurd ha (g2 a b)
      · cases hk
  obtain ⟨cs, rfl⟩ := this
  refine ⟨l, h1, ?_, .agg h3, h4, h5⟩
  simp only [M.den, denL_pure h4 id nowhere, h2]
  simp [Value.cells]
end
end Go.Sx
namespace Go.Proofs.Ytjdlefkpoggocaa
open Go Go.Sx Go.ChangeShapes Go.WideShapes Go.ChangeAt Go.RowKit
open Go.Wide in
theorem nil' (y : ItV) (h : RK.goods IFs y) (w : RK.lights IFs y) : SFun Try.prog 13 [.agg (RK.svs IFs y)] (bool true) :=
  (nil_spec y.2.1.1 y.2.2.1.1 y.2.2.2.1.1 y.2.2.2.2.1.1 (it_ok y h w)).seen (.cons (.agg (.refl (.view (it_u y) (.view (it_w y) (.view (it_h y) (.view (it_b y) .nil)))))) .nil)
end Go.Proofs.Ytjdlefkpoggocaa
