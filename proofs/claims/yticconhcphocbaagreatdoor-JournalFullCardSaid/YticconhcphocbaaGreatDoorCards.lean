/-
  DERIVED. GIVEN WITH THE SEED: THE CARDS: each row of YticconhcphocbaaGreatDoorRows.lean that lists a variable, with what it lists TIED to the program's text (the seventh form; the later family's looks); each row that meets fmt, with fmt's text TOLD by the authors' own Lean function (tested against real Go, not proved from fmt's source: count such statements apart). THE CARD IS WHAT COUNTS. Prove the row's statement (the work); the ties are given (YticconhcphocbaaGreatDoorTie.lean); close each card by the builder's one call (the guide's Derived/Test/ToyasCard.lean, 'card_holds'). Laid BY PROGRAM, IN A SANDBOX (cutbox-door.mjs). By AI agents, Wed Nov 11 2026. No macro, syntax, notation, axiom, sorry.
-/
import Derived.Test.YticconhcphocbaaGreatDoorRows
import GoSem.ClaimSeven
namespace Go.Proofs.YticconhcphocbaaGreatDoor
namespace Rows

/-- THE TIED CARD OF 'merestonelaw26.JournalFull'. -/
def journalFullCard : Claim7 := { stood := { row := journalFullRow, standIns := [], harness := (true, "5270f592efaca80f291506f542a4919dc50efae1dc59576b866dfa2de7f1cdef"), looks := true }, kinds := [], alts := [], laidByText := true, laidKinds := [.data, .data, .data], laidTests := true, laidLooks := .later }
def JournalFullCardSaid : Prop := Claim7.holds Tryz.pinned (.plain (OpenSpec.ofChange journalFullSpec)) journalFullCard

/-- THE TIED CARD OF 'merestonelaw26.JournalPlays'. -/
def journalPlaysCard : Claim7 := { stood := { row := journalPlaysRow, standIns := [], harness := (true, "5270f592efaca80f291506f542a4919dc50efae1dc59576b866dfa2de7f1cdef"), looks := true }, kinds := [], alts := [], laidByText := true, laidKinds := [.data, .data, .data], laidTests := true, laidLooks := .later }
def JournalPlaysCardSaid : Prop := Claim7.holds Tryz.pinned (.plain (OpenSpec.ofChange journalPlaysSpec)) journalPlaysCard

/-- THE TIED CARD OF 'merestonelaw26.JournalCopies'. -/
def journalCopiesCard : Claim7 := { stood := { row := journalCopiesRow, standIns := [], harness := (true, "5270f592efaca80f291506f542a4919dc50efae1dc59576b866dfa2de7f1cdef"), looks := true }, kinds := [], alts := [], laidByText := true, laidKinds := [.data, .data, .data], laidTests := true, laidLooks := .later }
def JournalCopiesCardSaid : Prop := Claim7.holds Tryz.pinned (.plain (OpenSpec.ofChange journalCopiesSpec)) journalCopiesCard

/-- THE SECOND FORM's CARD OF 'merestonelaw26.JournalFull'. -/
def journalFullUptoCard : Claim7 := { stood := { row := journalFullUptoRow, standIns := [], harness := (true, "5270f592efaca80f291506f542a4919dc50efae1dc59576b866dfa2de7f1cdef"), looks := true }, kinds := [], alts := [], laidByText := true, laidKinds := [.data, .data, .data], laidTests := true, laidLooks := .later }
def JournalFullUptoCardSaid : Prop := Claim7.holds Tryz.pinned (.plain (OpenSpec.upto journalFullSpec)) journalFullUptoCard

/-- THE SECOND FORM's CARD OF 'merestonelaw26.JournalPlays'. -/
def journalPlaysUptoCard : Claim7 := { stood := { row := journalPlaysUptoRow, standIns := [], harness := (true, "5270f592efaca80f291506f542a4919dc50efae1dc59576b866dfa2de7f1cdef"), looks := true }, kinds := [], alts := [], laidByText := true, laidKinds := [.data, .data, .data], laidTests := true, laidLooks := .later }
def JournalPlaysUptoCardSaid : Prop := Claim7.holds Tryz.pinned (.plain (OpenSpec.upto journalPlaysSpec)) journalPlaysUptoCard

/-- THE SECOND FORM's CARD OF 'merestonelaw26.JournalCopies'. -/
def journalCopiesUptoCard : Claim7 := { stood := { row := journalCopiesUptoRow, standIns := [], harness := (true, "5270f592efaca80f291506f542a4919dc50efae1dc59576b866dfa2de7f1cdef"), looks := true }, kinds := [], alts := [], laidByText := true, laidKinds := [.data, .data, .data], laidTests := true, laidLooks := .later }
def JournalCopiesUptoCardSaid : Prop := Claim7.holds Tryz.pinned (.plain (OpenSpec.upto journalCopiesSpec)) journalCopiesUptoCard
end Rows
end Go.Proofs.YticconhcphocbaaGreatDoor
