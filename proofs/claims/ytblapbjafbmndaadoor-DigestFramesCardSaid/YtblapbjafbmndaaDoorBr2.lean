/- How hashes and lists of parts are read; the laws of frames as the bridge takes them. -/
import Derived.Test.YtblapbjafbmndaaDoorBr
import Derived.Test.YtblapbjafbmndaaDoorP11
namespace Go.Proofs.YtblapbjafbmndaaDoor
open Go Go.Sx Go.ChangeShapes Go.WideShapes Go.ChangeAt Go.RowKit Go.Sha
set_option linter.unusedVariables false
set_option linter.unusedSimpArgs false
set_option maxHeartbeats 4000000
set_option maxRecDepth 100000
theorem h_good {a : List Int} (h : RK.good (.ints .u8 32) a) : a.length = 32 ∧ By a := ⟨h.1, fun x hx => by
  have h1 := h.2 x hx
  have h2 : IntKind.u8.min = 0 := rfl
  have h3 : IntKind.u8.max = 255 := rfl
  rw [h2, h3] at h1
  omega⟩
theorem ba_dec (y : BTy) (h : RK.goods [.sl 1 [.int .u8]] y) (w : RK.lights [.sl 1 [.int .u8]] y) : ∃ z : BTy, (By (bl z) ∧ (bl z).length ≤ 140737488351232) ∧ eBl z = RK.svs [.sl 1 [.int .u8]] y := by
  refine ⟨y, ⟨fun p hp => ?_, ?_⟩, rfl⟩
  · obtain ⟨q, hq, rfl⟩ := List.mem_map.1 hp
    have h1 := (h.1.2 q hq).1
    have h0 : IntKind.u8.min ≤ b1 q ∧ b1 q ≤ IntKind.u8.max := h1
    have h2 : IntKind.u8.min = 0 := rfl
    have h3 : IntKind.u8.max = 255 := rfl
    rw [h2, h3] at h0
    omega
  · have h1 : List.length y.1.2 * 1 ≤ 140737488351232 := w.1.1
    rw [bl_length]
    omega
theorem maxLen_le : maxLen ≤ 9223372036854775807 := by decide
theorem frames' (t : ByteArray) (x : Value) (l : List BTy) (a b : List Int) (_ : t.size ≤ maxLen) (hl : l.length ≤ maxLen) (hg : ∀ y ∈ l, By (bl y) ∧ (bl y).length ≤ 140737488351232) (_ : l.length * 24 ≤ 140737488351232) (ha : a.length = 32 ∧ By a) (hb : b.length = 32 ∧ By b) :
    SFun Tryd.prog 6 [str t, bV x l, h32 a, h32 b] (bool true) := frames_spec x t ha.1 hb.1 ha.2 hb.2 (by have := maxLen_le; omega) (fun y hy => (hg y hy).1)
end Go.Proofs.YtblapbjafbmndaaDoor
