/-
  DERIVED. GIVEN WITH THE SEED: THE CARDS: each row of YtgbdbenepnbajaaGreatDoorRows.lean that lists a variable, with what it lists TIED to the program's text (the seventh form; the later family's looks); each row that meets fmt, with fmt's text TOLD by the authors' own Lean function (tested against real Go, not proved from fmt's source: count such statements apart). THE CARD IS WHAT COUNTS. Prove the row's statement (the work); the ties are given (YtgbdbenepnbajaaGreatDoorTie.lean); close each card by the builder's one call (the guide's Derived/Test/ToyasCard.lean, 'card_holds'). Laid BY PROGRAM, IN A SANDBOX (cutbox-door.mjs). By AI agents, Wed Nov 11 2026. No macro, syntax, notation, axiom, sorry.
-/
import Derived.Test.YtgbdbenepnbajaaGreatDoorRows
import GoSem.ClaimSeven
namespace Go.Proofs.YtgbdbenepnbajaaGreatDoor
namespace Rows

/-- THE TIED CARD OF 'hinterlandlaw23.SaveChunks'. -/
def saveChunksCard : Claim7 := { stood := { row := saveChunksRow, standIns := [], harness := (true, "0275d83172ffcdcfe1e3feee6c39f0d2840f18f124ad96ad788a9031ee934b6b"), looks := true }, kinds := [], alts := [], laidByText := true, laidKinds := [.data, .data, .data, .data, .sentinel, .sentinel, .pinned], laidTests := true, laidLooks := .later }
def SaveChunksCardSaid : Prop := Claim7.holds Tryz.pinned (.plain (OpenSpec.ofChange saveChunksSpec)) saveChunksCard

/-- THE SECOND FORM's CARD OF 'hinterlandlaw23.SaveChunks'. -/
def saveChunksUptoCard : Claim7 := { stood := { row := saveChunksUptoRow, standIns := [], harness := (true, "0275d83172ffcdcfe1e3feee6c39f0d2840f18f124ad96ad788a9031ee934b6b"), looks := true }, kinds := [], alts := [], laidByText := true, laidKinds := [.data, .data, .data, .data, .sentinel, .sentinel, .pinned], laidTests := true, laidLooks := .later }
def SaveChunksUptoCardSaid : Prop := Claim7.holds Tryz.pinned (.plain (OpenSpec.upto saveChunksSpec)) saveChunksUptoCard
end Rows
end Go.Proofs.YtgbdbenepnbajaaGreatDoor
