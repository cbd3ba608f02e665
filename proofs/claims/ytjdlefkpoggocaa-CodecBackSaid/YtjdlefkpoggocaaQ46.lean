/- A writer, call by call. -/
import Derived.Test.YtjdlefkpoggocaaQ45
import Derived.Test.YtjdlefkpoggocaaSx24
namespace Go.Proofs.Ytjdlefkpoggocaa
open Go Go.Sx Go.Wide
set_option linter.unusedVariables false
set_option linter.unusedSimpArgs false
set_option maxRecDepth 100000
set_option maxHeartbeats 4000000

abbrev IFs : List RK := [.int .i64, .sl 1 [.int .u64], .sl 4 [.ints .u64 4], .sl 32 [.ints .u8 32], .sl 1 [.sl 1 [.int .u8]]]
abbrev ItV : Type := RK.TL IFs
def u1 (p : RK.TL [.int .u64]) : Int := Prod.fst (α := Int) (β := Unit) p
def w1 (p : RK.TL [.ints .u64 4]) : List Int := Prod.fst (α := List Int) (β := Unit) p
def h1 (p : RK.TL [.ints .u8 32]) : List Int := Prod.fst (α := List Int) (β := Unit) p
def lU (y : ItV) : List (RK.TL [.int .u64]) := y.2.1.2
def lW (y : ItV) : List (RK.TL [.ints .u64 4]) := y.2.2.1.2
def lH (y : ItV) : List (RK.TL [.ints .u8 32]) := y.2.2.2.1.2
def lB (y : ItV) : List BTy := y.2.2.2.2.1.2
/-- The item told. -/
def it (y : ItV) : It := ⟨y.1, (lU y).map u1, (lW y).map w1, (lH y).map h1, lB y⟩
theorem eU_u1 : eU ∘ u1 = RK.svs [.int .u64] := rfl
theorem eW_w1 : eW ∘ w1 = RK.svs [.ints .u64 4] := rfl
theorem eH_h1 : eH ∘ h1 = RK.svs [.ints .u8 32] := rfl
theorem it_u (y : ItV) : List.map (RK.svs [.int .u64]) (lU y) = List.map eU (it y).u := by
  show _ = List.map eU ((lU y).map u1)
  rw [List.map_map, eU_u1]
theorem it_w (y : ItV) : List.map (RK.svs [.ints .u64 4]) (lW y) = List.map eW (it y).w := by
  show _ = List.map eW ((lW y).map w1)
  rw [List.map_map, eW_w1]
theorem it_h (y : ItV) : List.map (RK.svs [.ints .u8 32]) (lH y) = List.map eH (it y).h := by
  show _ = List.map eH ((lH y).map h1)
  rw [List.map_map, eH_h1]
theorem it_b (y : ItV) : List.map (RK.svs [.sl 1 [.int .u8]]) (lB y) = List.map eBl (it y).b := rfl
def itE : ItV → List SV := RK.svs IFs
abbrev itVw (x : Value) (l : List ItV) : M := .one (.view x 5 itE l)
abbrev wrC (R : Nat) (B : List Int) (c : Nat) : Blk := .cells [.nslc R 1 B.length c, .v (.bool true), .v (.int .i64 0)]
end Go.Proofs.Ytjdlefkpoggocaa
