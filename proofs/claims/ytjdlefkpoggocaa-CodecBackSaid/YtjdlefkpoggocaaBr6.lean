/- Items whose bytes are bytes: the argument of the law CodecBack. -/
import Derived.Test.YtjdlefkpoggocaaBr4
import Derived.Test.YtjdlefkpoggocaaQ52
namespace Go.Proofs.Ytjdlefkpoggocaa
open Go Go.Sx Go.ChangeShapes Go.WideShapes Go.ChangeAt Go.RowKit
set_option linter.unusedVariables false
set_option linter.unusedSimpArgs false
open Go.Wide in
theorem it_d (y : ItV) (h : RK.goods IFs y) : ItD (it y) := by
  obtain ⟨_, gu, gw, gh, gb, _⟩ := h
  have h8 : ∀ {b : Int}, RK.good (.int .u8) b → 0 ≤ b ∧ b < ((256 : Nat) : Int) := fun {b} h => by
    have h1 : IntKind.u8.min ≤ b ∧ b ≤ IntKind.u8.max := h
    have h2 : IntKind.u8.min = 0 := rfl
    have h3 : IntKind.u8.max = 255 := rfl
    rw [h2, h3] at h1
    omega
  refine ⟨fun n hn => ?_, fun a ha x hx => ?_, fun z hz x hx => ?_⟩
  · obtain ⟨p, hp, rfl⟩ := List.mem_map.1 hn
    have h1 : IntKind.u64.min ≤ u1 p ∧ u1 p ≤ IntKind.u64.max := (gu.2 p hp).1
    have h2 : IntKind.u64.min = 0 := rfl
    have h3 : IntKind.u64.max = 18446744073709551615 := rfl
    rw [h2, h3] at h1
    omega
  · obtain ⟨p, hp, rfl⟩ := List.mem_map.1 ha
    have h1 : IntKind.u8.min ≤ x ∧ x ≤ IntKind.u8.max := (gh.2 p hp).1.2 x hx
    have h2 : IntKind.u8.min = 0 := rfl
    have h3 : IntKind.u8.max = 255 := rfl
    rw [h2, h3] at h1
    omega
  · obtain ⟨p, hp, rfl⟩ := List.mem_map.1 hx
    exact h8 ((gb.2 z hz).1.2 p hp).1
theorem it_decD (y : ItV) (h : RK.goods IFs y) (w : RK.lights IFs y) : ∃ z : ItV, (ItOk (it z) ∧ ItD (it z)) ∧ itE z = RK.svs IFs y := ⟨y, ⟨it_ok y h w, it_d y h⟩, rfl⟩
theorem cback' (x : Value) (l : List ItV) (hl : l.length ≤ maxLen) (hg : ∀ y ∈ l, ItOk (it y) ∧ ItD (it y)) (hs : l.length * 104 ≤ 140737488351232) : SFun Try.prog 12 [itVw x l] (bool true) := cback_spec x hg (by omega)
end Go.Proofs.Ytjdlefkpoggocaa
