/-
  DERIVED. GIVEN WITH THE SEED: THE CARDS: each row of YtgbikcniediomaaDoorRows.lean that lists a variable, with what it lists TIED to the program's text (the seventh form; the later family's looks); each row that meets fmt, with fmt's text TOLD by the authors' own Lean function (tested against real Go, not proved from fmt's source: count such statements apart). THE CARD IS WHAT COUNTS. Prove the row's statement (the work); the ties are given (YtgbikcniediomaaDoorTie.lean); close each card by the builder's one call (the guide's Derived/Test/ToyasCard.lean, 'card_holds'). Laid BY PROGRAM, IN A SANDBOX (cutbox-door.mjs). By AI agents, Wed Nov 11 2026. No macro, syntax, notation, axiom, sorry.
-/
import Derived.Test.YtgbikcniediomaaDoorRows
import GoSem.ClaimSeven
namespace Go.Proofs.YtgbikcniediomaaDoor
namespace Rows

/-- THE TIED CARD OF 'basculelaw13.InboxClones'. -/
def inboxClonesCard : Claim7 := { stood := { row := inboxClonesRow, standIns := [], harness := (true, "f5fc7a0c06d7f08c86ad79a2e5b019d0b590514fdafd2ec15ea11286534cbac5"), looks := false }, kinds := [], alts := [], laidByText := true, laidKinds := [.data, .data], laidTests := true, laidLooks := .later }
def InboxClonesCardSaid : Prop := Claim7.holds Tryd.pinned (.plain (OpenSpec.ofChange inboxClonesSpec)) inboxClonesCard

/-- THE TIED CARD OF 'basculelaw13.InboxQueue'. -/
def inboxQueueCard : Claim7 := { stood := { row := inboxQueueRow, standIns := [], harness := (true, "f5fc7a0c06d7f08c86ad79a2e5b019d0b590514fdafd2ec15ea11286534cbac5"), looks := false }, kinds := [], alts := [], laidByText := true, laidKinds := [.data, .data], laidTests := true, laidLooks := .later }
def InboxQueueCardSaid : Prop := Claim7.holds Tryd.pinned (.plain (OpenSpec.ofChange inboxQueueSpec)) inboxQueueCard

/-- THE SECOND FORM's CARD OF 'basculelaw13.InboxClones'. -/
def inboxClonesUptoCard : Claim7 := { stood := { row := inboxClonesUptoRow, standIns := [], harness := (true, "f5fc7a0c06d7f08c86ad79a2e5b019d0b590514fdafd2ec15ea11286534cbac5"), looks := false }, kinds := [], alts := [], laidByText := true, laidKinds := [.data, .data], laidTests := true, laidLooks := .later }
def InboxClonesUptoCardSaid : Prop := Claim7.holds Tryd.pinned (.plain (OpenSpec.upto inboxClonesSpec)) inboxClonesUptoCard

/-- THE SECOND FORM's CARD OF 'basculelaw13.InboxQueue'. -/
def inboxQueueUptoCard : Claim7 := { stood := { row := inboxQueueUptoRow, standIns := [], harness := (true, "f5fc7a0c06d7f08c86ad79a2e5b019d0b590514fdafd2ec15ea11286534cbac5"), looks := false }, kinds := [], alts := [], laidByText := true, laidKinds := [.data, .data], laidTests := true, laidLooks := .later }
def InboxQueueUptoCardSaid : Prop := Claim7.holds Tryd.pinned (.plain (OpenSpec.upto inboxQueueSpec)) inboxQueueUptoCard
end Rows
end Go.Proofs.YtgbikcniediomaaDoor
