import Derived.Test.YtjdlefkpoggocaaQ34
import Derived.Test.YtjdlefkpoggocaaRows
import Derived.JoinedOf
import Derived.JoinedAt
namespace Go.Proofs.Ytjdlefkpoggocaa
open Go Go.Sx Go.ChangeShapes Go.WideShapes Go.ChangeAt Go.RowKit
set_option linter.unusedVariables false
set_option linter.unusedSimpArgs false
set_option maxHeartbeats 4000000
set_option maxRecDepth 100000
theorem own : ownKnob Try.prog.godebug = none := by kernel_rfl
theorem kids : Kids Try.prog (· < Try.prog.types.size) := kids_rows (by kernel_rfl) (by kernel_rfl)
theorem full : ∀ t e, t < Try.prog.types.size → Try.prog.underlying t = some (.slice e) → 0 < Try.prog.cellsOf e := slices_full_of Try.prog (by kernel_rfl)
theorem len2 {c : List Int} (h : c.length = 2) : ∃ a b, c = [a, b] := by
  match c, h with
  | [a, b], _ => exact ⟨a, b, rfl⟩
theorem undB : Try.prog.underlying 4 = some .bool := by kernel_rfl
open Go.Wide in
theorem l4_good {a : List Int} (h : RK.good (.ints .u64 4) a) : L4 a := ⟨h.1, fun x hx => by
  have h1 := h.2 x hx
  have h2 : IntKind.u64.min = 0 := rfl
  have h3 : IntKind.u64.max = 18446744073709551615 := rfl
  rw [h2, h3] at h1
  have : ((N64 : Nat) : Int) = 18446744073709551616 := rfl
  omega⟩
open Go.Wide in
theorem wd_good {n : Int} (h : RK.good (.int .u64) n) : Wd n := by
  have h1 : IntKind.u64.min ≤ n ∧ n ≤ IntKind.u64.max := h
  have h2 : IntKind.u64.min = 0 := rfl
  have h3 : IntKind.u64.max = 18446744073709551615 := rfl
  rw [h2, h3] at h1
  exact ⟨h1.1, by omega⟩
open Go.Wide in
theorem back' (a : List Int) (s : ByteArray) (ha : L4 a) (_ : s.size ≤ maxLen) : SFun Try.prog 9 [w4 a, str s] (bool true) := back_spec ha s
open Go.Wide in
theorem forms' (a : List Int) (x : Value) (b : List Int) (s : ByteArray) (ha : L4 a) (_ : b.length ≤ maxLen) (hg : ∀ y ∈ b, 0 ≤ y ∧ y ≤ 255) (hs : b.length * 1 ≤ 140737488351232) (_ : s.size ≤ maxLen) :
    SFun Try.prog 8 [w4 a, byV x b, str s] (bool true) := forms_spec ha x (fun y hy => by have := hg y hy; have : ((256 : Nat) : Int) = 256 := rfl; omega) (by omega) s
end Go.Proofs.Ytjdlefkpoggocaa
