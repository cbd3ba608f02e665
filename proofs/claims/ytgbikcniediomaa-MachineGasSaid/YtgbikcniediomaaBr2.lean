/- The machine's laws: their arguments. -/
import Derived.Test.YtgbikcniediomaaBr
namespace Go.Sx
open Go.ChangeShapes Go.WideShapes Go.ChangeAt Go.RowKit
section
variable {H : Type} {enc : TypeId × Value → H} {P : Program} {w : World} {base : Nat} {spare : Nat → Bool} {held : Bool}
/-- An argument of several cells, and what is nested in it weighs. -/
theorem read_argL {r : Reach} {b : Nat} {t : TypeId} {v : Value} {d : DataW H} {p : List MemPlace} {fs : List RK} (hk : (match P.underlying t with | some (.struct _) | some (.array _ _) => true | _ => false) = true) (hs : shapeOf P 20 t = some fs)
    (hv : Value.okWide P w r b t v) (ht : DataW.Trod enc P w base spare held t v d p) : ∃ d' : RK.TL fs, RK.goods fs d' ∧ v = (M.agg (RK.svs fs d')).den id ∧ (M.agg (RK.svs fs d')).Ok w (fun _ => False) 0 ∧ (∀ s ∈ RK.svs fs d', s.isPure = true) ∧ (Light P 20 t d → RK.lights fs d') := by
  obtain ⟨fuel, ht⟩ := ht
  obtain ⟨l, h1, h2, h3, h4, h5⟩ := read_trod 20 hs ht
  have : ∃ cs, v = .agg cs := by
    unfold Value.okWide at hv
    split at hv
    · obtain ⟨cs, h, _⟩ := hv; exact ⟨cs, h⟩
    · obtain ⟨cs, h, _⟩ := hv; exact ⟨cs, h⟩
    · rename_i g1 g2
      split at hk
      · rename_i a ha; exact absurd ha (g1 a)
      · rename_i a b ha; exact absurd ha (g2 a b)
      · cases hk
  obtain ⟨cs, rfl⟩ := this
  refine ⟨l, h1, ?_, .agg h3, h4, h5⟩
  simp only [M.den, denL_pure h4 id nowhere, h2]
  simp [Value.cells]
end
end Go.Sx
namespace Go.Proofs.Ytgbikcniediomaa
open Go Go.Sx Go.Mach Go.ChangeShapes Go.WideShapes Go.ChangeAt Go.RowKit
set_option linter.unusedVariables false
set_option linter.unusedSimpArgs false
abbrev CxF : List RK := [.int .u64, .int .u64, .sl 1 [.int .u64]]
theorem arg_good {el : IT} (h : RK.goods [.int .i64, .int .u64] el) : 0 ≤ iarg el := by
  have h1 : IntKind.u64.min ≤ iarg el ∧ iarg el ≤ IntKind.u64.max := h.2.1
  have h2 : IntKind.u64.min = 0 := rfl
  rw [h2] at h1
  exact h1.1
theorem u64_good {n : Int} (h : RK.good (.int .u64) n) : 0 ≤ n := by
  have h1 : IntKind.u64.min ≤ n ∧ n ≤ IntKind.u64.max := h
  have h2 : IntKind.u64.min = 0 := rfl
  rw [h2] at h1
  exact h1.1
/-- A context's input, as numbers. -/
def cxIn (y : RK.TL CxF) : List Int := List.map (fun p : RK.TL [.int .u64] => (Prod.fst p : Int)) y.2.2.1.2
def cxOf (y : RK.TL CxF) : Ctx := ⟨y.1, y.2.1, cxIn y⟩
theorem cx_enc (y : RK.TL CxF) : List.map (RK.svs [.int .u64]) y.2.2.1.2 = (cxIn y).map e8 := by
  unfold cxIn
  rw [List.map_map]
  exact List.map_congr_left fun p _ => rfl
theorem gas' (x : Value) (l : List IT) (y : RK.TL CxF) (gas more : Int) (_ : l.length ≤ maxLen) (hl : ∀ y ∈ l, 0 ≤ iarg y) (_ : RK.goods CxF y) (_ : RK.lights CxF y) (hg : 0 ≤ gas) (hm : 0 ≤ more) : SFun Try.prog 4 [iV x l, .agg (RK.svs CxF y), u64 gas, u64 more] (bool true) :=
  (gas_spec x y.2.2.1.1 l (cxOf y) gas more hg hm hl).seen (.cons (.refl _) (.cons (.agg (.refl (.refl (.view (cx_enc y) .nil)))) (.cons (.refl _) (.cons (.refl _) .nil))))
end Go.Proofs.Ytgbikcniediomaa
