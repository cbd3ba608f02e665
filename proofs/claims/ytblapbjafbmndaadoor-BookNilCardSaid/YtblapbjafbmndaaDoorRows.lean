/-
  NARROWER THAN 'FOR EVERY INPUT', by the rows' own cells (each row's printed sentence says how): DigestSums: laid · DigestRoots: laid · DigestApart: laid · DigestFrames: laid · DigestTexts: laid · LaneBytes: laid · LaneRoots: laid · LaneChecks: laid · BookChecks: laid · BookPlays: laid · BookNil: laid · BookExtracts: laid.
  DERIVED. THE GIVEN ROWS OF THIS SEAT. 12 by the template 'for every input the law returns true; each argument reads behind the call as it read before'; 0 by the template 'total and deterministic' (their statements: YtblapbjafbmndaaDoorTotals.lean).
  GIVEN WITH THE SEED: the statements are not yours to turn. If you find one false, say at which input.
  Laid BY PROGRAM, IN A SANDBOX (cutbox-rows.mjs): the forced cells as the released guide's own fill.sh prints them over the translation c99601e321829f2b… (all of the seat's roots in one cut). By AI agents, Wed Nov 11 2026. No macro, syntax, notation, axiom, sorry.
-/
import Derived.Test.YtblapbjafbmndaaDoorChecked
import GoSem.Claim
import GoSem.ClaimJoined
import GoSem.ClaimMapViews
import Derived.JoinedTies
import Derived.KernelRfl
namespace Go.Proofs.YtblapbjafbmndaaDoor
/- THE CELL 'sum', in the pinned program and in every row, IS THE sha256 OF THE DUMP (.gsa) THAT YtblapbjafbmndaaDoorProg.lean LOADS. Nothing in Lean hashes anything: it is a label: what it is worth is what the hold of that sum in a sandbox is worth. -/
noncomputable def Tryd.pinned : Pinned := { name := "ytblapbjafbmndaadoor", sum := "c99601e321829f2b428da55ad4ef55410ce5b808278c83f7d4dcddbf318575c6", checked := Tryd.checked }
namespace Rows
def none {H : Type} : Left H := { results := [], args := [] }

/- WHAT THE LISTED PACKAGE-LEVEL VARIABLES READ AS WHEN THE CALL BEGINS. Each datum BY PROGRAM (the guide's laid-datum.mjs) off the statement by which the dump's own 'gosem.cut.vars' lays the variable. In a bare row this is a premise. The card (YtblapbjafbmndaaDoorCards.lean) ties it to the program's text. -/
def laid_bascule_digest_first {H : Type} : DataW H := .agg [.lit (.int .u32 1779033703), .lit (.int .u32 3144134277), .lit (.int .u32 1013904242), .lit (.int .u32 2773480762), .lit (.int .u32 1359893119), .lit (.int .u32 2600822924), .lit (.int .u32 528734635), .lit (.int .u32 1541459225)]
def laid_bascule_digest_rounds {H : Type} : DataW H := .agg [.lit (.int .u32 1116352408), .lit (.int .u32 1899447441), .lit (.int .u32 3049323471), .lit (.int .u32 3921009573), .lit (.int .u32 961987163), .lit (.int .u32 1508970993), .lit (.int .u32 2453635748), .lit (.int .u32 2870763221), .lit (.int .u32 3624381080), .lit (.int .u32 310598401), .lit (.int .u32 607225278), .lit (.int .u32 1426881987), .lit (.int .u32 1925078388), .lit (.int .u32 2162078206), .lit (.int .u32 2614888103), .lit (.int .u32 3248222580), .lit (.int .u32 3835390401), .lit (.int .u32 4022224774), .lit (.int .u32 264347078), .lit (.int .u32 604807628), .lit (.int .u32 770255983), .lit (.int .u32 1249150122), .lit (.int .u32 1555081692), .lit (.int .u32 1996064986), .lit (.int .u32 2554220882), .lit (.int .u32 2821834349), .lit (.int .u32 2952996808), .lit (.int .u32 3210313671), .lit (.int .u32 3336571891), .lit (.int .u32 3584528711), .lit (.int .u32 113926993), .lit (.int .u32 338241895), .lit (.int .u32 666307205), .lit (.int .u32 773529912), .lit (.int .u32 1294757372), .lit (.int .u32 1396182291), .lit (.int .u32 1695183700), .lit (.int .u32 1986661051), .lit (.int .u32 2177026350), .lit (.int .u32 2456956037), .lit (.int .u32 2730485921), .lit (.int .u32 2820302411), .lit (.int .u32 3259730800), .lit (.int .u32 3345764771), .lit (.int .u32 3516065817), .lit (.int .u32 3600352804), .lit (.int .u32 4094571909), .lit (.int .u32 275423344), .lit (.int .u32 430227734), .lit (.int .u32 506948616), .lit (.int .u32 659060556), .lit (.int .u32 883997877), .lit (.int .u32 958139571), .lit (.int .u32 1322822218), .lit (.int .u32 1537002063), .lit (.int .u32 1747873779), .lit (.int .u32 1955562222), .lit (.int .u32 2024104815), .lit (.int .u32 2227730452), .lit (.int .u32 2361852424), .lit (.int .u32 2428436474), .lit (.int .u32 2756734187), .lit (.int .u32 3204031479), .lit (.int .u32 3329325298)]

/-- 'basculelaw02.DigestSums': WHATEVER THE INPUT: true; the input reads as it did. -/
def digestSumsSpec : ChangeSpec := { name := "digestSums", fn := fun _ => fun
  | [d] => { results := [.lit (.bool true)], args := [d] }
  | _ => none }
def digestSumsRow : OpenClaim := { program := "ytblapbjafbmndaadoor", sum := "c99601e321829f2b428da55ad4ef55410ce5b808278c83f7d4dcddbf318575c6", func := "bascule/basculelaw02.DigestSums", spec := "digestSums", named := ["bascule/digest.first", "bascule/digest.rounds"], plainKeys := false, apart := false, laid := [("bascule/digest.first", laid_bascule_digest_first), ("bascule/digest.rounds", laid_bascule_digest_rounds)] }
def DigestSumsSaid : Prop := digestSumsRow.holds Tryd.pinned (OpenSpec.ofChange digestSumsSpec)

/-- ITS FALSE NEIGHBOUR: 'it returns false'. Refute it at one input. -/
def digestSumsWrong : ChangeSpec := { name := "digestSums", fn := fun _ => fun
  | [d] => { results := [.lit (.bool false)], args := [d] }
  | _ => none }
def DigestSumsWrongFalsely : Prop := digestSumsRow.holds Tryd.pinned (OpenSpec.ofChange digestSumsWrong)

/-- 'basculelaw02.DigestRoots': WHATEVER THE INPUT: true; the input reads as it did. -/
def digestRootsSpec : ChangeSpec := { name := "digestRoots", fn := fun _ => fun
  | [d] => { results := [.lit (.bool true)], args := [d] }
  | _ => none }
def digestRootsRow : OpenClaim := { program := "ytblapbjafbmndaadoor", sum := "c99601e321829f2b428da55ad4ef55410ce5b808278c83f7d4dcddbf318575c6", func := "bascule/basculelaw02.DigestRoots", spec := "digestRoots", named := ["bascule/digest.first", "bascule/digest.rounds"], plainKeys := false, apart := false, laid := [("bascule/digest.first", laid_bascule_digest_first), ("bascule/digest.rounds", laid_bascule_digest_rounds)] }
def DigestRootsSaid : Prop := digestRootsRow.holds Tryd.pinned (OpenSpec.ofChange digestRootsSpec)

/-- ITS FALSE NEIGHBOUR: 'it returns false'. Refute it at one input. -/
def digestRootsWrong : ChangeSpec := { name := "digestRoots", fn := fun _ => fun
  | [d] => { results := [.lit (.bool false)], args := [d] }
  | _ => none }
def DigestRootsWrongFalsely : Prop := digestRootsRow.holds Tryd.pinned (OpenSpec.ofChange digestRootsWrong)

/-- 'basculelaw02.DigestApart': WHATEVER THE INPUT: true; the input reads as it did. -/
def digestApartSpec : ChangeSpec := { name := "digestApart", fn := fun _ => fun
  | [d1, d2, d3, d4] => { results := [.lit (.bool true)], args := [d1, d2, d3, d4] }
  | _ => none }
def digestApartRow : OpenClaim := { program := "ytblapbjafbmndaadoor", sum := "c99601e321829f2b428da55ad4ef55410ce5b808278c83f7d4dcddbf318575c6", func := "bascule/basculelaw02.DigestApart", spec := "digestApart", named := ["bascule/digest.first", "bascule/digest.rounds"], plainKeys := false, apart := false, laid := [("bascule/digest.first", laid_bascule_digest_first), ("bascule/digest.rounds", laid_bascule_digest_rounds)] }
def DigestApartSaid : Prop := digestApartRow.holds Tryd.pinned (OpenSpec.ofChange digestApartSpec)

/-- ITS FALSE NEIGHBOUR: 'it returns false'. Refute it at one input. -/
def digestApartWrong : ChangeSpec := { name := "digestApart", fn := fun _ => fun
  | [d1, d2, d3, d4] => { results := [.lit (.bool false)], args := [d1, d2, d3, d4] }
  | _ => none }
def DigestApartWrongFalsely : Prop := digestApartRow.holds Tryd.pinned (OpenSpec.ofChange digestApartWrong)

/-- 'basculelaw02.DigestFrames': WHATEVER THE INPUT: true; the input reads as it did. -/
def digestFramesSpec : ChangeSpec := { name := "digestFrames", fn := fun _ => fun
  | [d1, d2, d3, d4] => { results := [.lit (.bool true)], args := [d1, d2, d3, d4] }
  | _ => none }
def digestFramesRow : OpenClaim := { program := "ytblapbjafbmndaadoor", sum := "c99601e321829f2b428da55ad4ef55410ce5b808278c83f7d4dcddbf318575c6", func := "bascule/basculelaw02.DigestFrames", spec := "digestFrames", named := ["bascule/digest.first", "bascule/digest.rounds"], plainKeys := false, apart := false, laid := [("bascule/digest.first", laid_bascule_digest_first), ("bascule/digest.rounds", laid_bascule_digest_rounds)] }
def DigestFramesSaid : Prop := digestFramesRow.holds Tryd.pinned (OpenSpec.ofChange digestFramesSpec)

/-- ITS FALSE NEIGHBOUR: 'it returns false'. Refute it at one input. -/
def digestFramesWrong : ChangeSpec := { name := "digestFrames", fn := fun _ => fun
  | [d1, d2, d3, d4] => { results := [.lit (.bool false)], args := [d1, d2, d3, d4] }
  | _ => none }
def DigestFramesWrongFalsely : Prop := digestFramesRow.holds Tryd.pinned (OpenSpec.ofChange digestFramesWrong)

/-- 'basculelaw02.DigestTexts': WHATEVER THE INPUT: true; the input reads as it did. -/
def digestTextsSpec : ChangeSpec := { name := "digestTexts", fn := fun _ => fun
  | [d1, d2] => { results := [.lit (.bool true)], args := [d1, d2] }
  | _ => none }
def digestTextsRow : OpenClaim := { program := "ytblapbjafbmndaadoor", sum := "c99601e321829f2b428da55ad4ef55410ce5b808278c83f7d4dcddbf318575c6", func := "bascule/basculelaw02.DigestTexts", spec := "digestTexts", named := ["bascule/digest.first", "bascule/digest.rounds"], plainKeys := false, apart := false, laid := [("bascule/digest.first", laid_bascule_digest_first), ("bascule/digest.rounds", laid_bascule_digest_rounds)] }
def DigestTextsSaid : Prop := digestTextsRow.holds Tryd.pinned (OpenSpec.ofChange digestTextsSpec)

/-- ITS FALSE NEIGHBOUR: 'it returns false'. Refute it at one input. -/
def digestTextsWrong : ChangeSpec := { name := "digestTexts", fn := fun _ => fun
  | [d1, d2] => { results := [.lit (.bool false)], args := [d1, d2] }
  | _ => none }
def DigestTextsWrongFalsely : Prop := digestTextsRow.holds Tryd.pinned (OpenSpec.ofChange digestTextsWrong)

/-- 'basculelaw07.LaneBytes': WHATEVER THE INPUT: true; the input reads as it did. -/
def laneBytesSpec : ChangeSpec := { name := "laneBytes", fn := fun _ => fun
  | [d1, d2] => { results := [.lit (.bool true)], args := [d1, d2] }
  | _ => none }
def laneBytesRow : OpenClaim := { program := "ytblapbjafbmndaadoor", sum := "c99601e321829f2b428da55ad4ef55410ce5b808278c83f7d4dcddbf318575c6", func := "bascule/basculelaw07.LaneBytes", spec := "laneBytes", unfollowed := true, recurses := true, named := ["bascule/digest.first", "bascule/digest.rounds"], plainKeys := false, apart := false, laid := [("bascule/digest.first", laid_bascule_digest_first), ("bascule/digest.rounds", laid_bascule_digest_rounds)] }
def LaneBytesSaid : Prop := laneBytesRow.holds Tryd.pinned (OpenSpec.ofChange laneBytesSpec)

/-- ITS FALSE NEIGHBOUR: 'it returns false'. Refute it at one input. -/
def laneBytesWrong : ChangeSpec := { name := "laneBytes", fn := fun _ => fun
  | [d1, d2] => { results := [.lit (.bool false)], args := [d1, d2] }
  | _ => none }
def LaneBytesWrongFalsely : Prop := laneBytesRow.holds Tryd.pinned (OpenSpec.ofChange laneBytesWrong)

/-- 'basculelaw07.LaneRoots': WHATEVER THE INPUT: true; the input reads as it did. -/
def laneRootsSpec : ChangeSpec := { name := "laneRoots", fn := fun _ => fun
  | [d1, d2] => { results := [.lit (.bool true)], args := [d1, d2] }
  | _ => none }
def laneRootsRow : OpenClaim := { program := "ytblapbjafbmndaadoor", sum := "c99601e321829f2b428da55ad4ef55410ce5b808278c83f7d4dcddbf318575c6", func := "bascule/basculelaw07.LaneRoots", spec := "laneRoots", unfollowed := true, recurses := true, named := ["bascule/digest.first", "bascule/digest.rounds"], plainKeys := false, apart := false, laid := [("bascule/digest.first", laid_bascule_digest_first), ("bascule/digest.rounds", laid_bascule_digest_rounds)] }
def LaneRootsSaid : Prop := laneRootsRow.holds Tryd.pinned (OpenSpec.ofChange laneRootsSpec)

/-- ITS FALSE NEIGHBOUR: 'it returns false'. Refute it at one input. -/
def laneRootsWrong : ChangeSpec := { name := "laneRoots", fn := fun _ => fun
  | [d1, d2] => { results := [.lit (.bool false)], args := [d1, d2] }
  | _ => none }
def LaneRootsWrongFalsely : Prop := laneRootsRow.holds Tryd.pinned (OpenSpec.ofChange laneRootsWrong)

/-- 'basculelaw07.LaneChecks': WHATEVER THE INPUT: true; the input reads as it did. -/
def laneChecksSpec : ChangeSpec := { name := "laneChecks", fn := fun _ => fun
  | [d1, d2, d3] => { results := [.lit (.bool true)], args := [d1, d2, d3] }
  | _ => none }
def laneChecksRow : OpenClaim := { program := "ytblapbjafbmndaadoor", sum := "c99601e321829f2b428da55ad4ef55410ce5b808278c83f7d4dcddbf318575c6", func := "bascule/basculelaw07.LaneChecks", spec := "laneChecks", unfollowed := true, recurses := true, named := ["bascule/digest.first", "bascule/digest.rounds"], plainKeys := false, apart := false, laid := [("bascule/digest.first", laid_bascule_digest_first), ("bascule/digest.rounds", laid_bascule_digest_rounds)] }
def LaneChecksSaid : Prop := laneChecksRow.holds Tryd.pinned (OpenSpec.ofChange laneChecksSpec)

/-- ITS FALSE NEIGHBOUR: 'it returns false'. Refute it at one input. -/
def laneChecksWrong : ChangeSpec := { name := "laneChecks", fn := fun _ => fun
  | [d1, d2, d3] => { results := [.lit (.bool false)], args := [d1, d2, d3] }
  | _ => none }
def LaneChecksWrongFalsely : Prop := laneChecksRow.holds Tryd.pinned (OpenSpec.ofChange laneChecksWrong)

/-- 'basculelaw04.BookChecks': WHATEVER THE INPUT: true; the input reads as it did. -/
def bookChecksSpec : ChangeSpec := { name := "bookChecks", fn := fun _ => fun
  | [d1, d2] => { results := [.lit (.bool true)], args := [d1, d2] }
  | _ => none }
def bookChecksRow : OpenClaim := { program := "ytblapbjafbmndaadoor", sum := "c99601e321829f2b428da55ad4ef55410ce5b808278c83f7d4dcddbf318575c6", func := "bascule/basculelaw04.BookChecks", spec := "bookChecks", named := ["bascule/digest.first", "bascule/digest.rounds"], plainKeys := false, apart := false, laid := [("bascule/digest.first", laid_bascule_digest_first), ("bascule/digest.rounds", laid_bascule_digest_rounds)] }
def BookChecksSaid : Prop := bookChecksRow.holds Tryd.pinned (OpenSpec.ofChange bookChecksSpec)

/-- ITS FALSE NEIGHBOUR: 'it returns false'. Refute it at one input. -/
def bookChecksWrong : ChangeSpec := { name := "bookChecks", fn := fun _ => fun
  | [d1, d2] => { results := [.lit (.bool false)], args := [d1, d2] }
  | _ => none }
def BookChecksWrongFalsely : Prop := bookChecksRow.holds Tryd.pinned (OpenSpec.ofChange bookChecksWrong)

/-- 'basculelaw04.BookPlays': WHATEVER THE INPUT: true; the input reads as it did. -/
def bookPlaysSpec : ChangeSpec := { name := "bookPlays", fn := fun _ => fun
  | [d1, d2] => { results := [.lit (.bool true)], args := [d1, d2] }
  | _ => none }
def bookPlaysRow : OpenClaim := { program := "ytblapbjafbmndaadoor", sum := "c99601e321829f2b428da55ad4ef55410ce5b808278c83f7d4dcddbf318575c6", func := "bascule/basculelaw04.BookPlays", spec := "bookPlays", named := ["bascule/digest.first", "bascule/digest.rounds"], plainKeys := false, apart := false, laid := [("bascule/digest.first", laid_bascule_digest_first), ("bascule/digest.rounds", laid_bascule_digest_rounds)] }
def BookPlaysSaid : Prop := bookPlaysRow.holds Tryd.pinned (OpenSpec.ofChange bookPlaysSpec)

/-- ITS FALSE NEIGHBOUR: 'it returns false'. Refute it at one input. -/
def bookPlaysWrong : ChangeSpec := { name := "bookPlays", fn := fun _ => fun
  | [d1, d2] => { results := [.lit (.bool false)], args := [d1, d2] }
  | _ => none }
def BookPlaysWrongFalsely : Prop := bookPlaysRow.holds Tryd.pinned (OpenSpec.ofChange bookPlaysWrong)

/-- 'basculelaw04.BookNil': WHATEVER THE INPUT: true; the input reads as it did. -/
def bookNilSpec : ChangeSpec := { name := "bookNil", fn := fun _ => fun
  | [d] => { results := [.lit (.bool true)], args := [d] }
  | _ => none }
def bookNilRow : OpenClaim := { program := "ytblapbjafbmndaadoor", sum := "c99601e321829f2b428da55ad4ef55410ce5b808278c83f7d4dcddbf318575c6", func := "bascule/basculelaw04.BookNil", spec := "bookNil", named := ["bascule/digest.first", "bascule/digest.rounds"], plainKeys := false, apart := false, laid := [("bascule/digest.first", laid_bascule_digest_first), ("bascule/digest.rounds", laid_bascule_digest_rounds)] }
def BookNilSaid : Prop := bookNilRow.holds Tryd.pinned (OpenSpec.ofChange bookNilSpec)

/-- ITS FALSE NEIGHBOUR: 'it returns false'. Refute it at one input. -/
def bookNilWrong : ChangeSpec := { name := "bookNil", fn := fun _ => fun
  | [d] => { results := [.lit (.bool false)], args := [d] }
  | _ => none }
def BookNilWrongFalsely : Prop := bookNilRow.holds Tryd.pinned (OpenSpec.ofChange bookNilWrong)

/-- 'basculelaw04.BookExtracts': WHATEVER THE INPUT: true; the input reads as it did. -/
def bookExtractsSpec : ChangeSpec := { name := "bookExtracts", fn := fun _ => fun
  | [d] => { results := [.lit (.bool true)], args := [d] }
  | _ => none }
def bookExtractsRow : OpenClaim := { program := "ytblapbjafbmndaadoor", sum := "c99601e321829f2b428da55ad4ef55410ce5b808278c83f7d4dcddbf318575c6", func := "bascule/basculelaw04.BookExtracts", spec := "bookExtracts", named := ["bascule/digest.first", "bascule/digest.rounds"], plainKeys := false, apart := false, laid := [("bascule/digest.first", laid_bascule_digest_first), ("bascule/digest.rounds", laid_bascule_digest_rounds)] }
def BookExtractsSaid : Prop := bookExtractsRow.holds Tryd.pinned (OpenSpec.ofChange bookExtractsSpec)

/-- ITS FALSE NEIGHBOUR: 'it returns false'. Refute it at one input. -/
def bookExtractsWrong : ChangeSpec := { name := "bookExtracts", fn := fun _ => fun
  | [d] => { results := [.lit (.bool false)], args := [d] }
  | _ => none }
def BookExtractsWrongFalsely : Prop := bookExtractsRow.holds Tryd.pinned (OpenSpec.ofChange bookExtractsWrong)

/- THE SECOND FORM. 'bulk': how many values and letters a reading holds, each counted each time it is reached (what is shared counts as often as it is met; a slice's spare places count too). A statement '..UptoSaid' is the law's where the arguments, and the package variables that the reading takes, are together of bulk at most 1048576: NARROWER than '..Said'. Prove '..Said' where nothing that the law and all that it calls make is longer than what came in: it says more and counts as full. Else prove '..UptoSaid'. A law counts once. -/
mutual
def uptoBulk {H : Type} : DataW H → Nat
  | .lit (.string bytes) => bytes.length + 1
  | .lit _ => 1
  | .nil => 1
  | .ptr d => uptoBulk d + 1
  | .slice elems spare => uptoBulkAll elems + uptoBulkAll spare + 1
  | .agg parts => uptoBulkAll parts + 1
  | .iface _ d => uptoBulk d + 1
  | .map entries => uptoBulkEntries entries + 1
  | .held _ => 1
def uptoBulkAll {H : Type} : List (DataW H) → Nat
  | [] => 0
  | d :: r => uptoBulk d + uptoBulkAll r
def uptoBulkEntries {H : Type} : List (Lit × DataW H) → Nat
  | [] => 0
  | x :: r => uptoBulkEntry x + uptoBulkEntries r
def uptoBulkEntry {H : Type} : Lit × DataW H → Nat
  | (.string bytes, d) => bytes.length + uptoBulk d + 1
  | (_, d) => uptoBulk d + 1
 end
def uptoSmall : (H : Type) → List (DataW H) → Bool := fun _ ds => decide (uptoBulkAll ds ≤ 1048576)
def OpenSpec.upto (s : _root_.Go.ChangeSpec) : _root_.Go.OpenSpec := { _root_.Go.OpenSpec.ofChange s with cond := some uptoSmall }

/-- 'basculelaw02.DigestSums', WHERE WHAT IT READS IS OF BULK AT MOST 1048576: true; the input reads as it did. -/
def digestSumsUptoRow : OpenClaim := { program := "ytblapbjafbmndaadoor", sum := "c99601e321829f2b428da55ad4ef55410ce5b808278c83f7d4dcddbf318575c6", func := "bascule/basculelaw02.DigestSums", spec := "digestSums", named := ["bascule/digest.first", "bascule/digest.rounds"], plainKeys := false, apart := false, laid := [("bascule/digest.first", laid_bascule_digest_first), ("bascule/digest.rounds", laid_bascule_digest_rounds)], narrowed := true }
def DigestSumsUptoSaid : Prop := digestSumsUptoRow.holds Tryd.pinned (OpenSpec.upto digestSumsSpec)

/-- 'basculelaw02.DigestRoots', WHERE WHAT IT READS IS OF BULK AT MOST 1048576: true; the input reads as it did. -/
def digestRootsUptoRow : OpenClaim := { program := "ytblapbjafbmndaadoor", sum := "c99601e321829f2b428da55ad4ef55410ce5b808278c83f7d4dcddbf318575c6", func := "bascule/basculelaw02.DigestRoots", spec := "digestRoots", named := ["bascule/digest.first", "bascule/digest.rounds"], plainKeys := false, apart := false, laid := [("bascule/digest.first", laid_bascule_digest_first), ("bascule/digest.rounds", laid_bascule_digest_rounds)], narrowed := true }
def DigestRootsUptoSaid : Prop := digestRootsUptoRow.holds Tryd.pinned (OpenSpec.upto digestRootsSpec)

/-- 'basculelaw02.DigestApart', WHERE WHAT IT READS IS OF BULK AT MOST 1048576: true; the input reads as it did. -/
def digestApartUptoRow : OpenClaim := { program := "ytblapbjafbmndaadoor", sum := "c99601e321829f2b428da55ad4ef55410ce5b808278c83f7d4dcddbf318575c6", func := "bascule/basculelaw02.DigestApart", spec := "digestApart", named := ["bascule/digest.first", "bascule/digest.rounds"], plainKeys := false, apart := false, laid := [("bascule/digest.first", laid_bascule_digest_first), ("bascule/digest.rounds", laid_bascule_digest_rounds)], narrowed := true }
def DigestApartUptoSaid : Prop := digestApartUptoRow.holds Tryd.pinned (OpenSpec.upto digestApartSpec)

/-- 'basculelaw02.DigestFrames', WHERE WHAT IT READS IS OF BULK AT MOST 1048576: true; the input reads as it did. -/
def digestFramesUptoRow : OpenClaim := { program := "ytblapbjafbmndaadoor", sum := "c99601e321829f2b428da55ad4ef55410ce5b808278c83f7d4dcddbf318575c6", func := "bascule/basculelaw02.DigestFrames", spec := "digestFrames", named := ["bascule/digest.first", "bascule/digest.rounds"], plainKeys := false, apart := false, laid := [("bascule/digest.first", laid_bascule_digest_first), ("bascule/digest.rounds", laid_bascule_digest_rounds)], narrowed := true }
def DigestFramesUptoSaid : Prop := digestFramesUptoRow.holds Tryd.pinned (OpenSpec.upto digestFramesSpec)

/-- 'basculelaw02.DigestTexts', WHERE WHAT IT READS IS OF BULK AT MOST 1048576: true; the input reads as it did. -/
def digestTextsUptoRow : OpenClaim := { program := "ytblapbjafbmndaadoor", sum := "c99601e321829f2b428da55ad4ef55410ce5b808278c83f7d4dcddbf318575c6", func := "bascule/basculelaw02.DigestTexts", spec := "digestTexts", named := ["bascule/digest.first", "bascule/digest.rounds"], plainKeys := false, apart := false, laid := [("bascule/digest.first", laid_bascule_digest_first), ("bascule/digest.rounds", laid_bascule_digest_rounds)], narrowed := true }
def DigestTextsUptoSaid : Prop := digestTextsUptoRow.holds Tryd.pinned (OpenSpec.upto digestTextsSpec)

/-- 'basculelaw07.LaneBytes', WHERE WHAT IT READS IS OF BULK AT MOST 1048576: true; the input reads as it did. -/
def laneBytesUptoRow : OpenClaim := { program := "ytblapbjafbmndaadoor", sum := "c99601e321829f2b428da55ad4ef55410ce5b808278c83f7d4dcddbf318575c6", func := "bascule/basculelaw07.LaneBytes", spec := "laneBytes", unfollowed := true, recurses := true, named := ["bascule/digest.first", "bascule/digest.rounds"], plainKeys := false, apart := false, laid := [("bascule/digest.first", laid_bascule_digest_first), ("bascule/digest.rounds", laid_bascule_digest_rounds)], narrowed := true }
def LaneBytesUptoSaid : Prop := laneBytesUptoRow.holds Tryd.pinned (OpenSpec.upto laneBytesSpec)

/-- 'basculelaw07.LaneRoots', WHERE WHAT IT READS IS OF BULK AT MOST 1048576: true; the input reads as it did. -/
def laneRootsUptoRow : OpenClaim := { program := "ytblapbjafbmndaadoor", sum := "c99601e321829f2b428da55ad4ef55410ce5b808278c83f7d4dcddbf318575c6", func := "bascule/basculelaw07.LaneRoots", spec := "laneRoots", unfollowed := true, recurses := true, named := ["bascule/digest.first", "bascule/digest.rounds"], plainKeys := false, apart := false, laid := [("bascule/digest.first", laid_bascule_digest_first), ("bascule/digest.rounds", laid_bascule_digest_rounds)], narrowed := true }
def LaneRootsUptoSaid : Prop := laneRootsUptoRow.holds Tryd.pinned (OpenSpec.upto laneRootsSpec)

/-- 'basculelaw07.LaneChecks', WHERE WHAT IT READS IS OF BULK AT MOST 1048576: true; the input reads as it did. -/
def laneChecksUptoRow : OpenClaim := { program := "ytblapbjafbmndaadoor", sum := "c99601e321829f2b428da55ad4ef55410ce5b808278c83f7d4dcddbf318575c6", func := "bascule/basculelaw07.LaneChecks", spec := "laneChecks", unfollowed := true, recurses := true, named := ["bascule/digest.first", "bascule/digest.rounds"], plainKeys := false, apart := false, laid := [("bascule/digest.first", laid_bascule_digest_first), ("bascule/digest.rounds", laid_bascule_digest_rounds)], narrowed := true }
def LaneChecksUptoSaid : Prop := laneChecksUptoRow.holds Tryd.pinned (OpenSpec.upto laneChecksSpec)

/-- 'basculelaw04.BookChecks', WHERE WHAT IT READS IS OF BULK AT MOST 1048576: true; the input reads as it did. -/
def bookChecksUptoRow : OpenClaim := { program := "ytblapbjafbmndaadoor", sum := "c99601e321829f2b428da55ad4ef55410ce5b808278c83f7d4dcddbf318575c6", func := "bascule/basculelaw04.BookChecks", spec := "bookChecks", named := ["bascule/digest.first", "bascule/digest.rounds"], plainKeys := false, apart := false, laid := [("bascule/digest.first", laid_bascule_digest_first), ("bascule/digest.rounds", laid_bascule_digest_rounds)], narrowed := true }
def BookChecksUptoSaid : Prop := bookChecksUptoRow.holds Tryd.pinned (OpenSpec.upto bookChecksSpec)

/-- 'basculelaw04.BookPlays', WHERE WHAT IT READS IS OF BULK AT MOST 1048576: true; the input reads as it did. -/
def bookPlaysUptoRow : OpenClaim := { program := "ytblapbjafbmndaadoor", sum := "c99601e321829f2b428da55ad4ef55410ce5b808278c83f7d4dcddbf318575c6", func := "bascule/basculelaw04.BookPlays", spec := "bookPlays", named := ["bascule/digest.first", "bascule/digest.rounds"], plainKeys := false, apart := false, laid := [("bascule/digest.first", laid_bascule_digest_first), ("bascule/digest.rounds", laid_bascule_digest_rounds)], narrowed := true }
def BookPlaysUptoSaid : Prop := bookPlaysUptoRow.holds Tryd.pinned (OpenSpec.upto bookPlaysSpec)

/-- 'basculelaw04.BookNil', WHERE WHAT IT READS IS OF BULK AT MOST 1048576: true; the input reads as it did. -/
def bookNilUptoRow : OpenClaim := { program := "ytblapbjafbmndaadoor", sum := "c99601e321829f2b428da55ad4ef55410ce5b808278c83f7d4dcddbf318575c6", func := "bascule/basculelaw04.BookNil", spec := "bookNil", named := ["bascule/digest.first", "bascule/digest.rounds"], plainKeys := false, apart := false, laid := [("bascule/digest.first", laid_bascule_digest_first), ("bascule/digest.rounds", laid_bascule_digest_rounds)], narrowed := true }
def BookNilUptoSaid : Prop := bookNilUptoRow.holds Tryd.pinned (OpenSpec.upto bookNilSpec)

/-- 'basculelaw04.BookExtracts', WHERE WHAT IT READS IS OF BULK AT MOST 1048576: true; the input reads as it did. -/
def bookExtractsUptoRow : OpenClaim := { program := "ytblapbjafbmndaadoor", sum := "c99601e321829f2b428da55ad4ef55410ce5b808278c83f7d4dcddbf318575c6", func := "bascule/basculelaw04.BookExtracts", spec := "bookExtracts", named := ["bascule/digest.first", "bascule/digest.rounds"], plainKeys := false, apart := false, laid := [("bascule/digest.first", laid_bascule_digest_first), ("bascule/digest.rounds", laid_bascule_digest_rounds)], narrowed := true }
def BookExtractsUptoSaid : Prop := bookExtractsUptoRow.holds Tryd.pinned (OpenSpec.upto bookExtractsSpec)

end Rows
end Go.Proofs.YtblapbjafbmndaaDoor
