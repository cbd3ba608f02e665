/-
  No cell of these rows narrows 'for every input' (looked for: loops, veiled, ifaces, maps, wideKeys, modest, calm, conditions, laid).
  DERIVED. THE GIVEN ROWS OF THIS SEAT. 8 by the template 'for every input the law returns true; each argument reads behind the call as it read before'; 0 by the template 'total and deterministic' (their statements: YtphbjceeoedigaaTotals.lean).
  GIVEN WITH THE SEED: the statements are not yours to turn. If you find one false, say at which input.
  Laid BY PROGRAM, IN A SANDBOX (cutbox-rows.mjs): the forced cells as the released guide's own fill.sh prints them over the translation 3b5ba8effaaeb6ae… (all of the seat's roots in one cut). By AI agents, Wed Nov 11 2026. No macro, syntax, notation, axiom, sorry.
-/
import Derived.Test.YtphbjceeoedigaaChecked
import GoSem.Claim
import GoSem.ClaimJoined
import GoSem.ClaimMapViews
import Derived.JoinedTies
import Derived.KernelRfl
namespace Go.Proofs.Ytphbjceeoedigaa
/- THE CELL 'sum', in the pinned program and in every row, IS THE sha256 OF THE DUMP (.gsa) THAT YtphbjceeoedigaaProg.lean LOADS. Nothing in Lean hashes anything: it is a label: what it is worth is what the hold of that sum in a sandbox is worth. -/
noncomputable def Try.pinned : Pinned := { name := "ytphbjceeoedigaa", sum := "3b5ba8effaaeb6ae803e83662d4bf4d25d2a3ad3f7d5bb2ef1e607e7a50bb948", checked := Try.checked }
namespace Rows
def none {H : Type} : Left H := { results := [], args := [] }

/-- 'basculelaw16.ClaimSteps': WHATEVER THE INPUT: true; the input reads as it did. -/
def claimStepsSpec : ChangeSpec := { name := "claimSteps", fn := fun _ => fun
  | [d1, d2, d3, d4] => { results := [.lit (.bool true)], args := [d1, d2, d3, d4] }
  | _ => none }
def claimStepsRow : OpenClaim := { program := "ytphbjceeoedigaa", sum := "3b5ba8effaaeb6ae803e83662d4bf4d25d2a3ad3f7d5bb2ef1e607e7a50bb948", func := "bascule/basculelaw16.ClaimSteps", spec := "claimSteps", apart := false }
def ClaimStepsSaid : Prop := claimStepsRow.holds Try.pinned (OpenSpec.ofChange claimStepsSpec)

/-- ITS FALSE NEIGHBOUR: 'it returns false'. Refute it at one input. -/
def claimStepsWrong : ChangeSpec := { name := "claimSteps", fn := fun _ => fun
  | [d1, d2, d3, d4] => { results := [.lit (.bool false)], args := [d1, d2, d3, d4] }
  | _ => none }
def ClaimStepsWrongFalsely : Prop := claimStepsRow.holds Try.pinned (OpenSpec.ofChange claimStepsWrong)

/-- 'basculelaw16.ClaimHalves': WHATEVER THE INPUT: true; the input reads as it did. -/
def claimHalvesSpec : ChangeSpec := { name := "claimHalves", fn := fun _ => fun
  | [d1, d2, d3] => { results := [.lit (.bool true)], args := [d1, d2, d3] }
  | _ => none }
def claimHalvesRow : OpenClaim := { program := "ytphbjceeoedigaa", sum := "3b5ba8effaaeb6ae803e83662d4bf4d25d2a3ad3f7d5bb2ef1e607e7a50bb948", func := "bascule/basculelaw16.ClaimHalves", spec := "claimHalves", apart := false }
def ClaimHalvesSaid : Prop := claimHalvesRow.holds Try.pinned (OpenSpec.ofChange claimHalvesSpec)

/-- ITS FALSE NEIGHBOUR: 'it returns false'. Refute it at one input. -/
def claimHalvesWrong : ChangeSpec := { name := "claimHalves", fn := fun _ => fun
  | [d1, d2, d3] => { results := [.lit (.bool false)], args := [d1, d2, d3] }
  | _ => none }
def ClaimHalvesWrongFalsely : Prop := claimHalvesRow.holds Try.pinned (OpenSpec.ofChange claimHalvesWrong)

/-- 'basculelaw16.ClaimFinds': WHATEVER THE INPUT: true; the input reads as it did. -/
def claimFindsSpec : ChangeSpec := { name := "claimFinds", fn := fun _ => fun
  | [d1, d2, d3] => { results := [.lit (.bool true)], args := [d1, d2, d3] }
  | _ => none }
def claimFindsRow : OpenClaim := { program := "ytphbjceeoedigaa", sum := "3b5ba8effaaeb6ae803e83662d4bf4d25d2a3ad3f7d5bb2ef1e607e7a50bb948", func := "bascule/basculelaw16.ClaimFinds", spec := "claimFinds", apart := false }
def ClaimFindsSaid : Prop := claimFindsRow.holds Try.pinned (OpenSpec.ofChange claimFindsSpec)

/-- ITS FALSE NEIGHBOUR: 'it returns false'. Refute it at one input. -/
def claimFindsWrong : ChangeSpec := { name := "claimFinds", fn := fun _ => fun
  | [d1, d2, d3] => { results := [.lit (.bool false)], args := [d1, d2, d3] }
  | _ => none }
def ClaimFindsWrongFalsely : Prop := claimFindsRow.holds Try.pinned (OpenSpec.ofChange claimFindsWrong)

/-- 'basculelaw16.ClaimHolds': WHATEVER THE INPUT: true; the input reads as it did. -/
def claimHoldsSpec : ChangeSpec := { name := "claimHolds", fn := fun _ => fun
  | [d1, d2] => { results := [.lit (.bool true)], args := [d1, d2] }
  | _ => none }
def claimHoldsRow : OpenClaim := { program := "ytphbjceeoedigaa", sum := "3b5ba8effaaeb6ae803e83662d4bf4d25d2a3ad3f7d5bb2ef1e607e7a50bb948", func := "bascule/basculelaw16.ClaimHolds", spec := "claimHolds", apart := false }
def ClaimHoldsSaid : Prop := claimHoldsRow.holds Try.pinned (OpenSpec.ofChange claimHoldsSpec)

/-- ITS FALSE NEIGHBOUR: 'it returns false'. Refute it at one input. -/
def claimHoldsWrong : ChangeSpec := { name := "claimHolds", fn := fun _ => fun
  | [d1, d2] => { results := [.lit (.bool false)], args := [d1, d2] }
  | _ => none }
def ClaimHoldsWrongFalsely : Prop := claimHoldsRow.holds Try.pinned (OpenSpec.ofChange claimHoldsWrong)

/-- 'basculelaw16.ClaimMoves': WHATEVER THE INPUT: true; the input reads as it did. -/
def claimMovesSpec : ChangeSpec := { name := "claimMoves", fn := fun _ => fun
  | [d1, d2] => { results := [.lit (.bool true)], args := [d1, d2] }
  | _ => none }
def claimMovesRow : OpenClaim := { program := "ytphbjceeoedigaa", sum := "3b5ba8effaaeb6ae803e83662d4bf4d25d2a3ad3f7d5bb2ef1e607e7a50bb948", func := "bascule/basculelaw16.ClaimMoves", spec := "claimMoves", apart := false }
def ClaimMovesSaid : Prop := claimMovesRow.holds Try.pinned (OpenSpec.ofChange claimMovesSpec)

/-- ITS FALSE NEIGHBOUR: 'it returns false'. Refute it at one input. -/
def claimMovesWrong : ChangeSpec := { name := "claimMoves", fn := fun _ => fun
  | [d1, d2] => { results := [.lit (.bool false)], args := [d1, d2] }
  | _ => none }
def ClaimMovesWrongFalsely : Prop := claimMovesRow.holds Try.pinned (OpenSpec.ofChange claimMovesWrong)

/-- 'basculelaw17.GameClocks': WHATEVER THE INPUT: true; the input reads as it did. -/
def gameClocksSpec : ChangeSpec := { name := "gameClocks", fn := fun _ => fun
  | [d1, d2, d3, d4] => { results := [.lit (.bool true)], args := [d1, d2, d3, d4] }
  | _ => none }
def gameClocksRow : OpenClaim := { program := "ytphbjceeoedigaa", sum := "3b5ba8effaaeb6ae803e83662d4bf4d25d2a3ad3f7d5bb2ef1e607e7a50bb948", func := "bascule/basculelaw17.GameClocks", spec := "gameClocks", unfollowed := true, recurses := true, apart := false }
def GameClocksSaid : Prop := gameClocksRow.holds Try.pinned (OpenSpec.ofChange gameClocksSpec)

/-- ITS FALSE NEIGHBOUR: 'it returns false'. Refute it at one input. -/
def gameClocksWrong : ChangeSpec := { name := "gameClocks", fn := fun _ => fun
  | [d1, d2, d3, d4] => { results := [.lit (.bool false)], args := [d1, d2, d3, d4] }
  | _ => none }
def GameClocksWrongFalsely : Prop := gameClocksRow.holds Try.pinned (OpenSpec.ofChange gameClocksWrong)

/-- 'basculelaw17.GameBounds': WHATEVER THE INPUT: true; the input reads as it did. -/
def gameBoundsSpec : ChangeSpec := { name := "gameBounds", fn := fun _ => fun
  | [d1, d2, d3, d4] => { results := [.lit (.bool true)], args := [d1, d2, d3, d4] }
  | _ => none }
def gameBoundsRow : OpenClaim := { program := "ytphbjceeoedigaa", sum := "3b5ba8effaaeb6ae803e83662d4bf4d25d2a3ad3f7d5bb2ef1e607e7a50bb948", func := "bascule/basculelaw17.GameBounds", spec := "gameBounds", unfollowed := true, recurses := true, apart := false }
def GameBoundsSaid : Prop := gameBoundsRow.holds Try.pinned (OpenSpec.ofChange gameBoundsSpec)

/-- ITS FALSE NEIGHBOUR: 'it returns false'. Refute it at one input. -/
def gameBoundsWrong : ChangeSpec := { name := "gameBounds", fn := fun _ => fun
  | [d1, d2, d3, d4] => { results := [.lit (.bool false)], args := [d1, d2, d3, d4] }
  | _ => none }
def GameBoundsWrongFalsely : Prop := gameBoundsRow.holds Try.pinned (OpenSpec.ofChange gameBoundsWrong)

/-- 'basculelaw18.OracleRaces': WHATEVER THE INPUT: true; the input reads as it did. -/
def oracleRacesSpec : ChangeSpec := { name := "oracleRaces", fn := fun _ => fun
  | [d1, d2, d3, d4] => { results := [.lit (.bool true)], args := [d1, d2, d3, d4] }
  | _ => none }
def oracleRacesRow : OpenClaim := { program := "ytphbjceeoedigaa", sum := "3b5ba8effaaeb6ae803e83662d4bf4d25d2a3ad3f7d5bb2ef1e607e7a50bb948", func := "bascule/basculelaw18.OracleRaces", spec := "oracleRaces", unfollowed := true, recurses := true, apart := false }
def OracleRacesSaid : Prop := oracleRacesRow.holds Try.pinned (OpenSpec.ofChange oracleRacesSpec)

/-- ITS FALSE NEIGHBOUR: 'it returns false'. Refute it at one input. -/
def oracleRacesWrong : ChangeSpec := { name := "oracleRaces", fn := fun _ => fun
  | [d1, d2, d3, d4] => { results := [.lit (.bool false)], args := [d1, d2, d3, d4] }
  | _ => none }
def OracleRacesWrongFalsely : Prop := oracleRacesRow.holds Try.pinned (OpenSpec.ofChange oracleRacesWrong)

/- THE SECOND FORM. 'bulk': how many values and letters a reading holds, each counted each time it is reached (what is shared counts as often as it is met; a slice's spare places count too). A statement '..UptoSaid' is the law's where the arguments, and the package variables that the reading takes, are together of bulk at most 1048576: NARROWER than '..Said'. Prove '..Said' where nothing that the law and all that it calls make is longer than what came in: it says more and counts as full. Else prove '..UptoSaid'. A law counts once. -/
mutual
def uptoBulk {H : Type} : DataW H → Nat
  | .lit (.string bytes) => bytes.length + 1
  | .lit _ => 1
  | .nil => 1
  | .ptr d => uptoBulk d + 1
  | .slice elems spare => uptoBulkAll elems + uptoBulkAll spare + 1
  | .agg parts => uptoBulkAll parts + 1
  | .iface _ d => uptoBulk d + 1
  | .map entries => uptoBulkEntries entries + 1
  | .held _ => 1
def uptoBulkAll {H : Type} : List (DataW H) → Nat
  | [] => 0
  | d :: r => uptoBulk d + uptoBulkAll r
def uptoBulkEntries {H : Type} : List (Lit × DataW H) → Nat
  | [] => 0
  | x :: r => uptoBulkEntry x + uptoBulkEntries r
def uptoBulkEntry {H : Type} : Lit × DataW H → Nat
  | (.string bytes, d) => bytes.length + uptoBulk d + 1
  | (_, d) => uptoBulk d + 1
 end
def uptoSmall : (H : Type) → List (DataW H) → Bool := fun _ ds => decide (uptoBulkAll ds ≤ 1048576)
def OpenSpec.upto (s : _root_.Go.ChangeSpec) : _root_.Go.OpenSpec := { _root_.Go.OpenSpec.ofChange s with cond := some uptoSmall }

/-- 'basculelaw16.ClaimSteps', WHERE WHAT IT READS IS OF BULK AT MOST 1048576: true; the input reads as it did. -/
def claimStepsUptoRow : OpenClaim := { program := "ytphbjceeoedigaa", sum := "3b5ba8effaaeb6ae803e83662d4bf4d25d2a3ad3f7d5bb2ef1e607e7a50bb948", func := "bascule/basculelaw16.ClaimSteps", spec := "claimSteps", apart := false, narrowed := true }
def ClaimStepsUptoSaid : Prop := claimStepsUptoRow.holds Try.pinned (OpenSpec.upto claimStepsSpec)

/-- 'basculelaw16.ClaimHalves', WHERE WHAT IT READS IS OF BULK AT MOST 1048576: true; the input reads as it did. -/
def claimHalvesUptoRow : OpenClaim := { program := "ytphbjceeoedigaa", sum := "3b5ba8effaaeb6ae803e83662d4bf4d25d2a3ad3f7d5bb2ef1e607e7a50bb948", func := "bascule/basculelaw16.ClaimHalves", spec := "claimHalves", apart := false, narrowed := true }
def ClaimHalvesUptoSaid : Prop := claimHalvesUptoRow.holds Try.pinned (OpenSpec.upto claimHalvesSpec)

/-- 'basculelaw16.ClaimFinds', WHERE WHAT IT READS IS OF BULK AT MOST 1048576: true; the input reads as it did. -/
def claimFindsUptoRow : OpenClaim := { program := "ytphbjceeoedigaa", sum := "3b5ba8effaaeb6ae803e83662d4bf4d25d2a3ad3f7d5bb2ef1e607e7a50bb948", func := "bascule/basculelaw16.ClaimFinds", spec := "claimFinds", apart := false, narrowed := true }
def ClaimFindsUptoSaid : Prop := claimFindsUptoRow.holds Try.pinned (OpenSpec.upto claimFindsSpec)

/-- 'basculelaw16.ClaimHolds', WHERE WHAT IT READS IS OF BULK AT MOST 1048576: true; the input reads as it did. -/
def claimHoldsUptoRow : OpenClaim := { program := "ytphbjceeoedigaa", sum := "3b5ba8effaaeb6ae803e83662d4bf4d25d2a3ad3f7d5bb2ef1e607e7a50bb948", func := "bascule/basculelaw16.ClaimHolds", spec := "claimHolds", apart := false, narrowed := true }
def ClaimHoldsUptoSaid : Prop := claimHoldsUptoRow.holds Try.pinned (OpenSpec.upto claimHoldsSpec)

/-- 'basculelaw16.ClaimMoves', WHERE WHAT IT READS IS OF BULK AT MOST 1048576: true; the input reads as it did. -/
def claimMovesUptoRow : OpenClaim := { program := "ytphbjceeoedigaa", sum := "3b5ba8effaaeb6ae803e83662d4bf4d25d2a3ad3f7d5bb2ef1e607e7a50bb948", func := "bascule/basculelaw16.ClaimMoves", spec := "claimMoves", apart := false, narrowed := true }
def ClaimMovesUptoSaid : Prop := claimMovesUptoRow.holds Try.pinned (OpenSpec.upto claimMovesSpec)

/-- 'basculelaw17.GameClocks', WHERE WHAT IT READS IS OF BULK AT MOST 1048576: true; the input reads as it did. -/
def gameClocksUptoRow : OpenClaim := { program := "ytphbjceeoedigaa", sum := "3b5ba8effaaeb6ae803e83662d4bf4d25d2a3ad3f7d5bb2ef1e607e7a50bb948", func := "bascule/basculelaw17.GameClocks", spec := "gameClocks", unfollowed := true, recurses := true, apart := false, narrowed := true }
def GameClocksUptoSaid : Prop := gameClocksUptoRow.holds Try.pinned (OpenSpec.upto gameClocksSpec)

/-- 'basculelaw17.GameBounds', WHERE WHAT IT READS IS OF BULK AT MOST 1048576: true; the input reads as it did. -/
def gameBoundsUptoRow : OpenClaim := { program := "ytphbjceeoedigaa", sum := "3b5ba8effaaeb6ae803e83662d4bf4d25d2a3ad3f7d5bb2ef1e607e7a50bb948", func := "bascule/basculelaw17.GameBounds", spec := "gameBounds", unfollowed := true, recurses := true, apart := false, narrowed := true }
def GameBoundsUptoSaid : Prop := gameBoundsUptoRow.holds Try.pinned (OpenSpec.upto gameBoundsSpec)

/-- 'basculelaw18.OracleRaces', WHERE WHAT IT READS IS OF BULK AT MOST 1048576: true; the input reads as it did. -/
def oracleRacesUptoRow : OpenClaim := { program := "ytphbjceeoedigaa", sum := "3b5ba8effaaeb6ae803e83662d4bf4d25d2a3ad3f7d5bb2ef1e607e7a50bb948", func := "bascule/basculelaw18.OracleRaces", spec := "oracleRaces", unfollowed := true, recurses := true, apart := false, narrowed := true }
def OracleRacesUptoSaid : Prop := oracleRacesUptoRow.holds Try.pinned (OpenSpec.upto oracleRacesSpec)

end Rows
end Go.Proofs.Ytphbjceeoedigaa
