/-
  DERIVED. GIVEN WITH THE SEED: THE CARDS: each row of YtblapbjafbmndaaDoorRows.lean that lists a variable, with what it lists TIED to the program's text (the seventh form; the later family's looks); each row that meets fmt, with fmt's text TOLD by the authors' own Lean function (tested against real Go, not proved from fmt's source: count such statements apart). THE CARD IS WHAT COUNTS. Prove the row's statement (the work); the ties are given (YtblapbjafbmndaaDoorTie.lean); close each card by the builder's one call (the guide's Derived/Test/ToyasCard.lean, 'card_holds'). Laid BY PROGRAM, IN A SANDBOX (cutbox-door.mjs). By AI agents, Wed Nov 11 2026. No macro, syntax, notation, axiom, sorry.
-/
import Derived.Test.YtblapbjafbmndaaDoorRows
import GoSem.ClaimSeven
namespace Go.Proofs.YtblapbjafbmndaaDoor
namespace Rows

/-- THE TIED CARD OF 'basculelaw02.DigestSums'. -/
def digestSumsCard : Claim7 := { stood := { row := digestSumsRow, standIns := [], harness := (true, "6d39adb181281a26e5c100cf81e318348b2fd30cefb08bebc47d9bb527c53f88"), looks := false }, kinds := [], alts := [], laidByText := true, laidKinds := [.data, .data], laidTests := true, laidLooks := .later }
def DigestSumsCardSaid : Prop := Claim7.holds Tryd.pinned (.plain (OpenSpec.ofChange digestSumsSpec)) digestSumsCard

/-- THE TIED CARD OF 'basculelaw02.DigestRoots'. -/
def digestRootsCard : Claim7 := { stood := { row := digestRootsRow, standIns := [], harness := (true, "6d39adb181281a26e5c100cf81e318348b2fd30cefb08bebc47d9bb527c53f88"), looks := false }, kinds := [], alts := [], laidByText := true, laidKinds := [.data, .data], laidTests := true, laidLooks := .later }
def DigestRootsCardSaid : Prop := Claim7.holds Tryd.pinned (.plain (OpenSpec.ofChange digestRootsSpec)) digestRootsCard

/-- THE TIED CARD OF 'basculelaw02.DigestApart'. -/
def digestApartCard : Claim7 := { stood := { row := digestApartRow, standIns := [], harness := (true, "6d39adb181281a26e5c100cf81e318348b2fd30cefb08bebc47d9bb527c53f88"), looks := false }, kinds := [], alts := [], laidByText := true, laidKinds := [.data, .data], laidTests := true, laidLooks := .later }
def DigestApartCardSaid : Prop := Claim7.holds Tryd.pinned (.plain (OpenSpec.ofChange digestApartSpec)) digestApartCard

/-- THE TIED CARD OF 'basculelaw02.DigestFrames'. -/
def digestFramesCard : Claim7 := { stood := { row := digestFramesRow, standIns := [], harness := (true, "6d39adb181281a26e5c100cf81e318348b2fd30cefb08bebc47d9bb527c53f88"), looks := false }, kinds := [], alts := [], laidByText := true, laidKinds := [.data, .data], laidTests := true, laidLooks := .later }
def DigestFramesCardSaid : Prop := Claim7.holds Tryd.pinned (.plain (OpenSpec.ofChange digestFramesSpec)) digestFramesCard

/-- THE TIED CARD OF 'basculelaw02.DigestTexts'. -/
def digestTextsCard : Claim7 := { stood := { row := digestTextsRow, standIns := [], harness := (true, "6d39adb181281a26e5c100cf81e318348b2fd30cefb08bebc47d9bb527c53f88"), looks := false }, kinds := [], alts := [], laidByText := true, laidKinds := [.data, .data], laidTests := true, laidLooks := .later }
def DigestTextsCardSaid : Prop := Claim7.holds Tryd.pinned (.plain (OpenSpec.ofChange digestTextsSpec)) digestTextsCard

/-- THE TIED CARD OF 'basculelaw07.LaneBytes'. -/
def laneBytesCard : Claim7 := { stood := { row := laneBytesRow, standIns := [], harness := (true, "6d39adb181281a26e5c100cf81e318348b2fd30cefb08bebc47d9bb527c53f88"), looks := false }, kinds := [], alts := [], laidByText := true, laidKinds := [.data, .data], laidTests := true, laidLooks := .later }
def LaneBytesCardSaid : Prop := Claim7.holds Tryd.pinned (.plain (OpenSpec.ofChange laneBytesSpec)) laneBytesCard

/-- THE TIED CARD OF 'basculelaw07.LaneRoots'. -/
def laneRootsCard : Claim7 := { stood := { row := laneRootsRow, standIns := [], harness := (true, "6d39adb181281a26e5c100cf81e318348b2fd30cefb08bebc47d9bb527c53f88"), looks := false }, kinds := [], alts := [], laidByText := true, laidKinds := [.data, .data], laidTests := true, laidLooks := .later }
def LaneRootsCardSaid : Prop := Claim7.holds Tryd.pinned (.plain (OpenSpec.ofChange laneRootsSpec)) laneRootsCard

/-- THE TIED CARD OF 'basculelaw07.LaneChecks'. -/
def laneChecksCard : Claim7 := { stood := { row := laneChecksRow, standIns := [], harness := (true, "6d39adb181281a26e5c100cf81e318348b2fd30cefb08bebc47d9bb527c53f88"), looks := false }, kinds := [], alts := [], laidByText := true, laidKinds := [.data, .data], laidTests := true, laidLooks := .later }
def LaneChecksCardSaid : Prop := Claim7.holds Tryd.pinned (.plain (OpenSpec.ofChange laneChecksSpec)) laneChecksCard

/-- THE TIED CARD OF 'basculelaw04.BookChecks'. -/
def bookChecksCard : Claim7 := { stood := { row := bookChecksRow, standIns := [], harness := (true, "6d39adb181281a26e5c100cf81e318348b2fd30cefb08bebc47d9bb527c53f88"), looks := false }, kinds := [], alts := [], laidByText := true, laidKinds := [.data, .data], laidTests := true, laidLooks := .later }
def BookChecksCardSaid : Prop := Claim7.holds Tryd.pinned (.plain (OpenSpec.ofChange bookChecksSpec)) bookChecksCard

/-- THE TIED CARD OF 'basculelaw04.BookPlays'. -/
def bookPlaysCard : Claim7 := { stood := { row := bookPlaysRow, standIns := [], harness := (true, "6d39adb181281a26e5c100cf81e318348b2fd30cefb08bebc47d9bb527c53f88"), looks := false }, kinds := [], alts := [], laidByText := true, laidKinds := [.data, .data], laidTests := true, laidLooks := .later }
def BookPlaysCardSaid : Prop := Claim7.holds Tryd.pinned (.plain (OpenSpec.ofChange bookPlaysSpec)) bookPlaysCard

/-- THE TIED CARD OF 'basculelaw04.BookNil'. -/
def bookNilCard : Claim7 := { stood := { row := bookNilRow, standIns := [], harness := (true, "6d39adb181281a26e5c100cf81e318348b2fd30cefb08bebc47d9bb527c53f88"), looks := false }, kinds := [], alts := [], laidByText := true, laidKinds := [.data, .data], laidTests := true, laidLooks := .later }
def BookNilCardSaid : Prop := Claim7.holds Tryd.pinned (.plain (OpenSpec.ofChange bookNilSpec)) bookNilCard

/-- THE TIED CARD OF 'basculelaw04.BookExtracts'. -/
def bookExtractsCard : Claim7 := { stood := { row := bookExtractsRow, standIns := [], harness := (true, "6d39adb181281a26e5c100cf81e318348b2fd30cefb08bebc47d9bb527c53f88"), looks := false }, kinds := [], alts := [], laidByText := true, laidKinds := [.data, .data], laidTests := true, laidLooks := .later }
def BookExtractsCardSaid : Prop := Claim7.holds Tryd.pinned (.plain (OpenSpec.ofChange bookExtractsSpec)) bookExtractsCard

/-- THE SECOND FORM's CARD OF 'basculelaw02.DigestSums'. -/
def digestSumsUptoCard : Claim7 := { stood := { row := digestSumsUptoRow, standIns := [], harness := (true, "6d39adb181281a26e5c100cf81e318348b2fd30cefb08bebc47d9bb527c53f88"), looks := false }, kinds := [], alts := [], laidByText := true, laidKinds := [.data, .data], laidTests := true, laidLooks := .later }
def DigestSumsUptoCardSaid : Prop := Claim7.holds Tryd.pinned (.plain (OpenSpec.upto digestSumsSpec)) digestSumsUptoCard

/-- THE SECOND FORM's CARD OF 'basculelaw02.DigestRoots'. -/
def digestRootsUptoCard : Claim7 := { stood := { row := digestRootsUptoRow, standIns := [], harness := (true, "6d39adb181281a26e5c100cf81e318348b2fd30cefb08bebc47d9bb527c53f88"), looks := false }, kinds := [], alts := [], laidByText := true, laidKinds := [.data, .data], laidTests := true, laidLooks := .later }
def DigestRootsUptoCardSaid : Prop := Claim7.holds Tryd.pinned (.plain (OpenSpec.upto digestRootsSpec)) digestRootsUptoCard

/-- THE SECOND FORM's CARD OF 'basculelaw02.DigestApart'. -/
def digestApartUptoCard : Claim7 := { stood := { row := digestApartUptoRow, standIns := [], harness := (true, "6d39adb181281a26e5c100cf81e318348b2fd30cefb08bebc47d9bb527c53f88"), looks := false }, kinds := [], alts := [], laidByText := true, laidKinds := [.data, .data], laidTests := true, laidLooks := .later }
def DigestApartUptoCardSaid : Prop := Claim7.holds Tryd.pinned (.plain (OpenSpec.upto digestApartSpec)) digestApartUptoCard

/-- THE SECOND FORM's CARD OF 'basculelaw02.DigestFrames'. -/
def digestFramesUptoCard : Claim7 := { stood := { row := digestFramesUptoRow, standIns := [], harness := (true, "6d39adb181281a26e5c100cf81e318348b2fd30cefb08bebc47d9bb527c53f88"), looks := false }, kinds := [], alts := [], laidByText := true, laidKinds := [.data, .data], laidTests := true, laidLooks := .later }
def DigestFramesUptoCardSaid : Prop := Claim7.holds Tryd.pinned (.plain (OpenSpec.upto digestFramesSpec)) digestFramesUptoCard

/-- THE SECOND FORM's CARD OF 'basculelaw02.DigestTexts'. -/
def digestTextsUptoCard : Claim7 := { stood := { row := digestTextsUptoRow, standIns := [], harness := (true, "6d39adb181281a26e5c100cf81e318348b2fd30cefb08bebc47d9bb527c53f88"), looks := false }, kinds := [], alts := [], laidByText := true, laidKinds := [.data, .data], laidTests := true, laidLooks := .later }
def DigestTextsUptoCardSaid : Prop := Claim7.holds Tryd.pinned (.plain (OpenSpec.upto digestTextsSpec)) digestTextsUptoCard

/-- THE SECOND FORM's CARD OF 'basculelaw07.LaneBytes'. -/
def laneBytesUptoCard : Claim7 := { stood := { row := laneBytesUptoRow, standIns := [], harness := (true, "6d39adb181281a26e5c100cf81e318348b2fd30cefb08bebc47d9bb527c53f88"), looks := false }, kinds := [], alts := [], laidByText := true, laidKinds := [.data, .data], laidTests := true, laidLooks := .later }
def LaneBytesUptoCardSaid : Prop := Claim7.holds Tryd.pinned (.plain (OpenSpec.upto laneBytesSpec)) laneBytesUptoCard

/-- THE SECOND FORM's CARD OF 'basculelaw07.LaneRoots'. -/
def laneRootsUptoCard : Claim7 := { stood := { row := laneRootsUptoRow, standIns := [], harness := (true, "6d39adb181281a26e5c100cf81e318348b2fd30cefb08bebc47d9bb527c53f88"), looks := false }, kinds := [], alts := [], laidByText := true, laidKinds := [.data, .data], laidTests := true, laidLooks := .later }
def LaneRootsUptoCardSaid : Prop := Claim7.holds Tryd.pinned (.plain (OpenSpec.upto laneRootsSpec)) laneRootsUptoCard

/-- THE SECOND FORM's CARD OF 'basculelaw07.LaneChecks'. -/
def laneChecksUptoCard : Claim7 := { stood := { row := laneChecksUptoRow, standIns := [], harness := (true, "6d39adb181281a26e5c100cf81e318348b2fd30cefb08bebc47d9bb527c53f88"), looks := false }, kinds := [], alts := [], laidByText := true, laidKinds := [.data, .data], laidTests := true, laidLooks := .later }
def LaneChecksUptoCardSaid : Prop := Claim7.holds Tryd.pinned (.plain (OpenSpec.upto laneChecksSpec)) laneChecksUptoCard

/-- THE SECOND FORM's CARD OF 'basculelaw04.BookChecks'. -/
def bookChecksUptoCard : Claim7 := { stood := { row := bookChecksUptoRow, standIns := [], harness := (true, "6d39adb181281a26e5c100cf81e318348b2fd30cefb08bebc47d9bb527c53f88"), looks := false }, kinds := [], alts := [], laidByText := true, laidKinds := [.data, .data], laidTests := true, laidLooks := .later }
def BookChecksUptoCardSaid : Prop := Claim7.holds Tryd.pinned (.plain (OpenSpec.upto bookChecksSpec)) bookChecksUptoCard

/-- THE SECOND FORM's CARD OF 'basculelaw04.BookPlays'. -/
def bookPlaysUptoCard : Claim7 := { stood := { row := bookPlaysUptoRow, standIns := [], harness := (true, "6d39adb181281a26e5c100cf81e318348b2fd30cefb08bebc47d9bb527c53f88"), looks := false }, kinds := [], alts := [], laidByText := true, laidKinds := [.data, .data], laidTests := true, laidLooks := .later }
def BookPlaysUptoCardSaid : Prop := Claim7.holds Tryd.pinned (.plain (OpenSpec.upto bookPlaysSpec)) bookPlaysUptoCard

/-- THE SECOND FORM's CARD OF 'basculelaw04.BookNil'. -/
def bookNilUptoCard : Claim7 := { stood := { row := bookNilUptoRow, standIns := [], harness := (true, "6d39adb181281a26e5c100cf81e318348b2fd30cefb08bebc47d9bb527c53f88"), looks := false }, kinds := [], alts := [], laidByText := true, laidKinds := [.data, .data], laidTests := true, laidLooks := .later }
def BookNilUptoCardSaid : Prop := Claim7.holds Tryd.pinned (.plain (OpenSpec.upto bookNilSpec)) bookNilUptoCard

/-- THE SECOND FORM's CARD OF 'basculelaw04.BookExtracts'. -/
def bookExtractsUptoCard : Claim7 := { stood := { row := bookExtractsUptoRow, standIns := [], harness := (true, "6d39adb181281a26e5c100cf81e318348b2fd30cefb08bebc47d9bb527c53f88"), looks := false }, kinds := [], alts := [], laidByText := true, laidKinds := [.data, .data], laidTests := true, laidLooks := .later }
def BookExtractsUptoCardSaid : Prop := Claim7.holds Tryd.pinned (.plain (OpenSpec.upto bookExtractsSpec)) bookExtractsUptoCard
end Rows
end Go.Proofs.YtblapbjafbmndaaDoor
