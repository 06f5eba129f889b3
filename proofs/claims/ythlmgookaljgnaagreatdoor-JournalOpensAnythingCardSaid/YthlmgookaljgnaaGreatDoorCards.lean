/-
  DERIVED. GIVEN WITH THE SEED: THE CARDS: each row of YthlmgookaljgnaaGreatDoorRows.lean that lists a variable, with what it lists TIED to the program's text (the seventh form; the later family's looks); each row that meets fmt, with fmt's text TOLD by the authors' own Lean function (tested against real Go, not proved from fmt's source: count such statements apart). THE CARD IS WHAT COUNTS. Prove the row's statement (the work); the ties are given (YthlmgookaljgnaaGreatDoorTie.lean); close each card by the builder's one call (the guide's Derived/Test/ToyasCard.lean, 'card_holds'). Laid BY PROGRAM, IN A SANDBOX (cutbox-door.mjs). By AI agents, Wed Nov 11 2026. No macro, syntax, notation, axiom, sorry.
-/
import Derived.Test.YthlmgookaljgnaaGreatDoorRows
import GoSem.ClaimSeven
namespace Go.Proofs.YthlmgookaljgnaaGreatDoor
namespace Rows

/-- THE TIED CARD OF 'workpiecelaw26.JournalOpensAnything'. -/
def journalOpensAnythingCard : Claim7 := { stood := { row := journalOpensAnythingRow, standIns := [], harness := (true, "ba0e8a870642988516961b4ae455e282e715f098f4d432551ccfe45685060f15"), looks := true }, kinds := [], alts := [], laidByText := true, laidKinds := [.data, .data, .sentinel, .pinned], laidTests := true, laidLooks := .later }
def JournalOpensAnythingCardSaid : Prop := Claim7.holds Tryz.pinned (.plain (OpenSpec.ofChange journalOpensAnythingSpec)) journalOpensAnythingCard

/-- THE TIED CARD OF 'workpiecelaw26.JournalMatchesReference'. -/
def journalMatchesReferenceCard : Claim7 := { stood := { row := journalMatchesReferenceRow, standIns := [], harness := (true, "ba0e8a870642988516961b4ae455e282e715f098f4d432551ccfe45685060f15"), looks := true }, kinds := [], alts := [], laidByText := true, laidKinds := [.data, .data, .sentinel, .pinned], laidTests := true, laidLooks := .later }
def JournalMatchesReferenceCardSaid : Prop := Claim7.holds Tryz.pinned (.plain (OpenSpec.ofChange journalMatchesReferenceSpec)) journalMatchesReferenceCard

/-- THE SECOND FORM's CARD OF 'workpiecelaw26.JournalOpensAnything'. -/
def journalOpensAnythingUptoCard : Claim7 := { stood := { row := journalOpensAnythingUptoRow, standIns := [], harness := (true, "ba0e8a870642988516961b4ae455e282e715f098f4d432551ccfe45685060f15"), looks := true }, kinds := [], alts := [], laidByText := true, laidKinds := [.data, .data, .sentinel, .pinned], laidTests := true, laidLooks := .later }
def JournalOpensAnythingUptoCardSaid : Prop := Claim7.holds Tryz.pinned (.plain (OpenSpec.upto journalOpensAnythingSpec)) journalOpensAnythingUptoCard

/-- THE SECOND FORM's CARD OF 'workpiecelaw26.JournalMatchesReference'. -/
def journalMatchesReferenceUptoCard : Claim7 := { stood := { row := journalMatchesReferenceUptoRow, standIns := [], harness := (true, "ba0e8a870642988516961b4ae455e282e715f098f4d432551ccfe45685060f15"), looks := true }, kinds := [], alts := [], laidByText := true, laidKinds := [.data, .data, .sentinel, .pinned], laidTests := true, laidLooks := .later }
def JournalMatchesReferenceUptoCardSaid : Prop := Claim7.holds Tryz.pinned (.plain (OpenSpec.upto journalMatchesReferenceSpec)) journalMatchesReferenceUptoCard
end Rows
end Go.Proofs.YthlmgookaljgnaaGreatDoor
