/-
  DERIVED. GIVEN WITH THE SEED: THE CARDS: each row of YtbaoaodimbcebaaDoorRows.lean that lists a variable, with what it lists TIED to the program's text (the seventh form; the later family's looks); each row that meets fmt, with fmt's text TOLD by the authors' own Lean function (tested against real Go, not proved from fmt's source: count such statements apart). THE CARD IS WHAT COUNTS. Prove the row's statement (the work); the ties are given (YtbaoaodimbcebaaDoorTie.lean); close each card by the builder's one call (the guide's Derived/Test/ToyasCard.lean, 'card_holds'). Laid BY PROGRAM, IN A SANDBOX (cutbox-door.mjs). By AI agents, Wed Nov 11 2026. No macro, syntax, notation, axiom, sorry.
-/
import Derived.Test.YtbaoaodimbcebaaDoorRows
import GoSem.ClaimSeven
namespace Go.Proofs.YtbaoaodimbcebaaDoor
namespace Rows

/-- THE TIED CARD OF 'hinterlandlaw25.ViewWraps'. -/
def viewWrapsCard : Claim7 := { stood := { row := viewWrapsRow, standIns := [], harness := (true, "6f9cda06aa984b482d159a9dcb8db3ae329ce2c00f96b9475a76615add93c2f1"), looks := false }, kinds := [], alts := [], laidByText := true, laidKinds := [.data, .pinned], laidTests := true, laidLooks := .later }
def ViewWrapsCardSaid : Prop := Claim7.holds Tryd.pinned (.plain (OpenSpec.ofChange viewWrapsSpec)) viewWrapsCard

/-- THE TIED CARD OF 'hinterlandlaw25.ViewWrapped'. -/
def viewWrappedCard : Claim7 := { stood := { row := viewWrappedRow, standIns := [], harness := (true, "6f9cda06aa984b482d159a9dcb8db3ae329ce2c00f96b9475a76615add93c2f1"), looks := false }, kinds := [], alts := [], laidByText := true, laidKinds := [.data, .pinned], laidTests := true, laidLooks := .later }
def ViewWrappedCardSaid : Prop := Claim7.holds Tryd.pinned (.plain (OpenSpec.ofChange viewWrappedSpec)) viewWrappedCard

/-- THE TIED CARD OF 'hinterlandlaw25.ViewColumns'. -/
def viewColumnsCard : Claim7 := { stood := { row := viewColumnsRow, standIns := [], harness := (true, "6f9cda06aa984b482d159a9dcb8db3ae329ce2c00f96b9475a76615add93c2f1"), looks := false }, kinds := [], alts := [], laidByText := true, laidKinds := [.data, .pinned], laidTests := true, laidLooks := .later }
def ViewColumnsCardSaid : Prop := Claim7.holds Tryd.pinned (.plain (OpenSpec.ofChange viewColumnsSpec)) viewColumnsCard

/-- THE SECOND FORM's CARD OF 'hinterlandlaw25.ViewWraps'. -/
def viewWrapsUptoCard : Claim7 := { stood := { row := viewWrapsUptoRow, standIns := [], harness := (true, "6f9cda06aa984b482d159a9dcb8db3ae329ce2c00f96b9475a76615add93c2f1"), looks := false }, kinds := [], alts := [], laidByText := true, laidKinds := [.data, .pinned], laidTests := true, laidLooks := .later }
def ViewWrapsUptoCardSaid : Prop := Claim7.holds Tryd.pinned (.plain (OpenSpec.upto viewWrapsSpec)) viewWrapsUptoCard

/-- THE SECOND FORM's CARD OF 'hinterlandlaw25.ViewWrapped'. -/
def viewWrappedUptoCard : Claim7 := { stood := { row := viewWrappedUptoRow, standIns := [], harness := (true, "6f9cda06aa984b482d159a9dcb8db3ae329ce2c00f96b9475a76615add93c2f1"), looks := false }, kinds := [], alts := [], laidByText := true, laidKinds := [.data, .pinned], laidTests := true, laidLooks := .later }
def ViewWrappedUptoCardSaid : Prop := Claim7.holds Tryd.pinned (.plain (OpenSpec.upto viewWrappedSpec)) viewWrappedUptoCard

/-- THE SECOND FORM's CARD OF 'hinterlandlaw25.ViewColumns'. -/
def viewColumnsUptoCard : Claim7 := { stood := { row := viewColumnsUptoRow, standIns := [], harness := (true, "6f9cda06aa984b482d159a9dcb8db3ae329ce2c00f96b9475a76615add93c2f1"), looks := false }, kinds := [], alts := [], laidByText := true, laidKinds := [.data, .pinned], laidTests := true, laidLooks := .later }
def ViewColumnsUptoCardSaid : Prop := Claim7.holds Tryd.pinned (.plain (OpenSpec.upto viewColumnsSpec)) viewColumnsUptoCard
end Rows
end Go.Proofs.YtbaoaodimbcebaaDoor
