/-
  DERIVED. GIVEN WITH THE SEED: THE CARDS: each row of YtmpcjfkfgjpebaaGreatDoorRows.lean that lists a variable, with what it lists TIED to the program's text (the seventh form; the later family's looks); each row that meets fmt, with fmt's text TOLD by the authors' own Lean function (tested against real Go, not proved from fmt's source: count such statements apart). THE CARD IS WHAT COUNTS. Prove the row's statement (the work); the ties are given (YtmpcjfkfgjpebaaGreatDoorTie.lean); close each card by the builder's one call (the guide's Derived/Test/ToyasCard.lean, 'card_holds'). Laid BY PROGRAM, IN A SANDBOX (cutbox-door.mjs). By AI agents, Wed Nov 11 2026. No macro, syntax, notation, axiom, sorry.
-/
import Derived.Test.YtmpcjfkfgjpebaaGreatDoorRows
import GoSem.ClaimSeven
namespace Go.Proofs.YtmpcjfkfgjpebaaGreatDoor
namespace Rows

/-- THE TIED CARD OF 'hinterlandlaw21.ScriptCompiled'. -/
def scriptCompiledCard : Claim7 := { stood := { row := scriptCompiledRow, standIns := [], harness := (true, "1b7c2c7ce08af3db897e86fff9c454364185ea257dd9d56070052d54b61eab31"), looks := true }, kinds := [], alts := [], laidByText := true, laidKinds := [.data, .data, .data, .data, .sentinel, .sentinel, .pinned], laidTests := true, laidLooks := .later }
def ScriptCompiledCardSaid : Prop := Claim7.holds Tryz.pinned (.plain (OpenSpec.ofChange scriptCompiledSpec)) scriptCompiledCard

/-- THE TIED CARD OF 'hinterlandlaw21.ScriptPlays'. -/
def scriptPlaysCard : Claim7 := { stood := { row := scriptPlaysRow, standIns := [], harness := (true, "1b7c2c7ce08af3db897e86fff9c454364185ea257dd9d56070052d54b61eab31"), looks := true }, kinds := [], alts := [], laidByText := true, laidKinds := [.data, .data, .data, .data, .sentinel, .sentinel, .pinned], laidTests := true, laidLooks := .later }
def ScriptPlaysCardSaid : Prop := Claim7.holds Tryz.pinned (.plain (OpenSpec.ofChange scriptPlaysSpec)) scriptPlaysCard

/-- THE TIED CARD OF 'hinterlandlaw21.ScriptCut'. -/
def scriptCutCard : Claim7 := { stood := { row := scriptCutRow, standIns := [], harness := (true, "1b7c2c7ce08af3db897e86fff9c454364185ea257dd9d56070052d54b61eab31"), looks := true }, kinds := [], alts := [], laidByText := true, laidKinds := [.data, .data, .data, .data, .sentinel, .sentinel, .pinned], laidTests := true, laidLooks := .later }
def ScriptCutCardSaid : Prop := Claim7.holds Tryz.pinned (.plain (OpenSpec.ofChange scriptCutSpec)) scriptCutCard

/-- THE SECOND FORM's CARD OF 'hinterlandlaw21.ScriptCompiled'. -/
def scriptCompiledUptoCard : Claim7 := { stood := { row := scriptCompiledUptoRow, standIns := [], harness := (true, "1b7c2c7ce08af3db897e86fff9c454364185ea257dd9d56070052d54b61eab31"), looks := true }, kinds := [], alts := [], laidByText := true, laidKinds := [.data, .data, .data, .data, .sentinel, .sentinel, .pinned], laidTests := true, laidLooks := .later }
def ScriptCompiledUptoCardSaid : Prop := Claim7.holds Tryz.pinned (.plain (OpenSpec.upto scriptCompiledSpec)) scriptCompiledUptoCard

/-- THE SECOND FORM's CARD OF 'hinterlandlaw21.ScriptPlays'. -/
def scriptPlaysUptoCard : Claim7 := { stood := { row := scriptPlaysUptoRow, standIns := [], harness := (true, "1b7c2c7ce08af3db897e86fff9c454364185ea257dd9d56070052d54b61eab31"), looks := true }, kinds := [], alts := [], laidByText := true, laidKinds := [.data, .data, .data, .data, .sentinel, .sentinel, .pinned], laidTests := true, laidLooks := .later }
def ScriptPlaysUptoCardSaid : Prop := Claim7.holds Tryz.pinned (.plain (OpenSpec.upto scriptPlaysSpec)) scriptPlaysUptoCard

/-- THE SECOND FORM's CARD OF 'hinterlandlaw21.ScriptCut'. -/
def scriptCutUptoCard : Claim7 := { stood := { row := scriptCutUptoRow, standIns := [], harness := (true, "1b7c2c7ce08af3db897e86fff9c454364185ea257dd9d56070052d54b61eab31"), looks := true }, kinds := [], alts := [], laidByText := true, laidKinds := [.data, .data, .data, .data, .sentinel, .sentinel, .pinned], laidTests := true, laidLooks := .later }
def ScriptCutUptoCardSaid : Prop := Claim7.holds Tryz.pinned (.plain (OpenSpec.upto scriptCutSpec)) scriptCutUptoCard
end Rows
end Go.Proofs.YtmpcjfkfgjpebaaGreatDoor
