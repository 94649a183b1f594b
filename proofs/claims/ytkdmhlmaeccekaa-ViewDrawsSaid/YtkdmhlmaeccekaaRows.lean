/-
  No cell of these rows narrows 'for every input' (looked for: loops, veiled, ifaces, maps, wideKeys, modest, calm, conditions, laid).
  DERIVED. THE GIVEN ROWS OF THIS SEAT. 7 by the template 'for every input the law returns true; each argument reads behind the call as it read before'; 0 by the template 'total and deterministic' (their statements: YtkdmhlmaeccekaaTotals.lean).
  GIVEN WITH THE SEED: the statements are not yours to turn. If you find one false, say at which input.
  Laid BY PROGRAM, IN A SANDBOX (cutbox-rows.mjs): the forced cells as the released guide's own fill.sh prints them over the translation b5919292d19bb96e… (all of the seat's roots in one cut). By AI agents, Wed Nov 11 2026. No macro, syntax, notation, axiom, sorry.
-/
import Derived.Test.YtkdmhlmaeccekaaChecked
import GoSem.Claim
import GoSem.ClaimJoined
import GoSem.ClaimMapViews
import Derived.JoinedTies
import Derived.KernelRfl
namespace Go.Proofs.Ytkdmhlmaeccekaa
/- THE CELL 'sum', in the pinned program and in every row, IS THE sha256 OF THE DUMP (.gsa) THAT YtkdmhlmaeccekaaProg.lean LOADS. Nothing in Lean hashes anything: it is a label: what it is worth is what the hold of that sum in a sandbox is worth. -/
noncomputable def Try.pinned : Pinned := { name := "ytkdmhlmaeccekaa", sum := "b5919292d19bb96e6bbfae1122095d314caa4c4fe6632d6fd67736324ae731b0", checked := Try.checked }
namespace Rows
def none {H : Type} : Left H := { results := [], args := [] }

/-- 'hinterlandlaw25.ViewValidates': WHATEVER THE INPUT: true; the input reads as it did. -/
def viewValidatesSpec : ChangeSpec := { name := "viewValidates", fn := fun _ => fun
  | [d] => { results := [.lit (.bool true)], args := [d] }
  | _ => none }
def viewValidatesRow : OpenClaim := { program := "ytkdmhlmaeccekaa", sum := "b5919292d19bb96e6bbfae1122095d314caa4c4fe6632d6fd67736324ae731b0", func := "hinterland/hinterlandlaw25.ViewValidates", spec := "viewValidates", unfollowed := true, recurses := true, apart := false }
def ViewValidatesSaid : Prop := viewValidatesRow.holds Try.pinned (OpenSpec.ofChange viewValidatesSpec)

/-- ITS FALSE NEIGHBOUR: 'it returns false'. Refute it at one input. -/
def viewValidatesWrong : ChangeSpec := { name := "viewValidates", fn := fun _ => fun
  | [d] => { results := [.lit (.bool false)], args := [d] }
  | _ => none }
def ViewValidatesWrongFalsely : Prop := viewValidatesRow.holds Try.pinned (OpenSpec.ofChange viewValidatesWrong)

/-- 'hinterlandlaw25.ViewSorts': WHATEVER THE INPUT: true; the input reads as it did. -/
def viewSortsSpec : ChangeSpec := { name := "viewSorts", fn := fun _ => fun
  | [d] => { results := [.lit (.bool true)], args := [d] }
  | _ => none }
def viewSortsRow : OpenClaim := { program := "ytkdmhlmaeccekaa", sum := "b5919292d19bb96e6bbfae1122095d314caa4c4fe6632d6fd67736324ae731b0", func := "hinterland/hinterlandlaw25.ViewSorts", spec := "viewSorts", unfollowed := true, recurses := true, apart := false }
def ViewSortsSaid : Prop := viewSortsRow.holds Try.pinned (OpenSpec.ofChange viewSortsSpec)

/-- ITS FALSE NEIGHBOUR: 'it returns false'. Refute it at one input. -/
def viewSortsWrong : ChangeSpec := { name := "viewSorts", fn := fun _ => fun
  | [d] => { results := [.lit (.bool false)], args := [d] }
  | _ => none }
def ViewSortsWrongFalsely : Prop := viewSortsRow.holds Try.pinned (OpenSpec.ofChange viewSortsWrong)

/-- 'hinterlandlaw25.ViewBehind': WHATEVER THE INPUT: true; the input reads as it did. -/
def viewBehindSpec : ChangeSpec := { name := "viewBehind", fn := fun _ => fun
  | [d1, d2] => { results := [.lit (.bool true)], args := [d1, d2] }
  | _ => none }
def viewBehindRow : OpenClaim := { program := "ytkdmhlmaeccekaa", sum := "b5919292d19bb96e6bbfae1122095d314caa4c4fe6632d6fd67736324ae731b0", func := "hinterland/hinterlandlaw25.ViewBehind", spec := "viewBehind", unfollowed := true, recurses := true, apart := false }
def ViewBehindSaid : Prop := viewBehindRow.holds Try.pinned (OpenSpec.ofChange viewBehindSpec)

/-- ITS FALSE NEIGHBOUR: 'it returns false'. Refute it at one input. -/
def viewBehindWrong : ChangeSpec := { name := "viewBehind", fn := fun _ => fun
  | [d1, d2] => { results := [.lit (.bool false)], args := [d1, d2] }
  | _ => none }
def ViewBehindWrongFalsely : Prop := viewBehindRow.holds Try.pinned (OpenSpec.ofChange viewBehindWrong)

/-- 'hinterlandlaw25.ViewDraws': WHATEVER THE INPUT: true; the input reads as it did. -/
def viewDrawsSpec : ChangeSpec := { name := "viewDraws", fn := fun _ => fun
  | [d] => { results := [.lit (.bool true)], args := [d] }
  | _ => none }
def viewDrawsRow : OpenClaim := { program := "ytkdmhlmaeccekaa", sum := "b5919292d19bb96e6bbfae1122095d314caa4c4fe6632d6fd67736324ae731b0", func := "hinterland/hinterlandlaw25.ViewDraws", spec := "viewDraws", unfollowed := true, recurses := true, apart := false }
def ViewDrawsSaid : Prop := viewDrawsRow.holds Try.pinned (OpenSpec.ofChange viewDrawsSpec)

/-- ITS FALSE NEIGHBOUR: 'it returns false'. Refute it at one input. -/
def viewDrawsWrong : ChangeSpec := { name := "viewDraws", fn := fun _ => fun
  | [d] => { results := [.lit (.bool false)], args := [d] }
  | _ => none }
def ViewDrawsWrongFalsely : Prop := viewDrawsRow.holds Try.pinned (OpenSpec.ofChange viewDrawsWrong)

/-- 'hinterlandlaw25.ViewPoints': WHATEVER THE INPUT: true; the input reads as it did. -/
def viewPointsSpec : ChangeSpec := { name := "viewPoints", fn := fun _ => fun
  | [d1, d2] => { results := [.lit (.bool true)], args := [d1, d2] }
  | _ => none }
def viewPointsRow : OpenClaim := { program := "ytkdmhlmaeccekaa", sum := "b5919292d19bb96e6bbfae1122095d314caa4c4fe6632d6fd67736324ae731b0", func := "hinterland/hinterlandlaw25.ViewPoints", spec := "viewPoints", unfollowed := true, recurses := true, apart := false }
def ViewPointsSaid : Prop := viewPointsRow.holds Try.pinned (OpenSpec.ofChange viewPointsSpec)

/-- ITS FALSE NEIGHBOUR: 'it returns false'. Refute it at one input. -/
def viewPointsWrong : ChangeSpec := { name := "viewPoints", fn := fun _ => fun
  | [d1, d2] => { results := [.lit (.bool false)], args := [d1, d2] }
  | _ => none }
def ViewPointsWrongFalsely : Prop := viewPointsRow.holds Try.pinned (OpenSpec.ofChange viewPointsWrong)

/-- 'hinterlandlaw25.ViewRotates': WHATEVER THE INPUT: true; the input reads as it did. -/
def viewRotatesSpec : ChangeSpec := { name := "viewRotates", fn := fun _ => fun
  | [d1, d2, d3, d4] => { results := [.lit (.bool true)], args := [d1, d2, d3, d4] }
  | _ => none }
def viewRotatesRow : OpenClaim := { program := "ytkdmhlmaeccekaa", sum := "b5919292d19bb96e6bbfae1122095d314caa4c4fe6632d6fd67736324ae731b0", func := "hinterland/hinterlandlaw25.ViewRotates", spec := "viewRotates", unfollowed := true, recurses := true, apart := false }
def ViewRotatesSaid : Prop := viewRotatesRow.holds Try.pinned (OpenSpec.ofChange viewRotatesSpec)

/-- ITS FALSE NEIGHBOUR: 'it returns false'. Refute it at one input. -/
def viewRotatesWrong : ChangeSpec := { name := "viewRotates", fn := fun _ => fun
  | [d1, d2, d3, d4] => { results := [.lit (.bool false)], args := [d1, d2, d3, d4] }
  | _ => none }
def ViewRotatesWrongFalsely : Prop := viewRotatesRow.holds Try.pinned (OpenSpec.ofChange viewRotatesWrong)

/-- 'hinterlandlaw25.ViewTurns': WHATEVER THE INPUT: true; the input reads as it did. -/
def viewTurnsSpec : ChangeSpec := { name := "viewTurns", fn := fun _ => fun
  | [d1, d2, d3, d4, d5] => { results := [.lit (.bool true)], args := [d1, d2, d3, d4, d5] }
  | _ => none }
def viewTurnsRow : OpenClaim := { program := "ytkdmhlmaeccekaa", sum := "b5919292d19bb96e6bbfae1122095d314caa4c4fe6632d6fd67736324ae731b0", func := "hinterland/hinterlandlaw25.ViewTurns", spec := "viewTurns", unfollowed := true, recurses := true, apart := false }
def ViewTurnsSaid : Prop := viewTurnsRow.holds Try.pinned (OpenSpec.ofChange viewTurnsSpec)

/-- ITS FALSE NEIGHBOUR: 'it returns false'. Refute it at one input. -/
def viewTurnsWrong : ChangeSpec := { name := "viewTurns", fn := fun _ => fun
  | [d1, d2, d3, d4, d5] => { results := [.lit (.bool false)], args := [d1, d2, d3, d4, d5] }
  | _ => none }
def ViewTurnsWrongFalsely : Prop := viewTurnsRow.holds Try.pinned (OpenSpec.ofChange viewTurnsWrong)

/- THE SECOND FORM. 'bulk': how many values and letters a reading holds, each counted each time it is reached (what is shared counts as often as it is met; a slice's spare places count too). A statement '..UptoSaid' is the law's where the arguments, and the package variables that the reading takes, are together of bulk at most 1048576: NARROWER than '..Said'. Prove '..Said' where nothing that the law and all that it calls make is longer than what came in: it says more and counts as full. Else prove '..UptoSaid'. A law counts once. -/
mutual
def uptoBulk {H : Type} : DataW H → Nat
  | .lit (.string bytes) => bytes.length + 1
  | .lit _ => 1
  | .nil => 1
  | .ptr d => uptoBulk d + 1
  | .slice elems spare => uptoBulkAll elems + uptoBulkAll spare + 1
  | .agg parts => uptoBulkAll parts + 1
  | .iface _ d => uptoBulk d + 1
  | .map entries => uptoBulkEntries entries + 1
  | .held _ => 1
def uptoBulkAll {H : Type} : List (DataW H) → Nat
  | [] => 0
  | d :: r => uptoBulk d + uptoBulkAll r
def uptoBulkEntries {H : Type} : List (Lit × DataW H) → Nat
  | [] => 0
  | x :: r => uptoBulkEntry x + uptoBulkEntries r
def uptoBulkEntry {H : Type} : Lit × DataW H → Nat
  | (.string bytes, d) => bytes.length + uptoBulk d + 1
  | (_, d) => uptoBulk d + 1
 end
def uptoSmall : (H : Type) → List (DataW H) → Bool := fun _ ds => decide (uptoBulkAll ds ≤ 1048576)
def OpenSpec.upto (s : _root_.Go.ChangeSpec) : _root_.Go.OpenSpec := { _root_.Go.OpenSpec.ofChange s with cond := some uptoSmall }

/-- 'hinterlandlaw25.ViewValidates', WHERE WHAT IT READS IS OF BULK AT MOST 1048576: true; the input reads as it did. -/
def viewValidatesUptoRow : OpenClaim := { program := "ytkdmhlmaeccekaa", sum := "b5919292d19bb96e6bbfae1122095d314caa4c4fe6632d6fd67736324ae731b0", func := "hinterland/hinterlandlaw25.ViewValidates", spec := "viewValidates", unfollowed := true, recurses := true, apart := false, narrowed := true }
def ViewValidatesUptoSaid : Prop := viewValidatesUptoRow.holds Try.pinned (OpenSpec.upto viewValidatesSpec)

/-- 'hinterlandlaw25.ViewSorts', WHERE WHAT IT READS IS OF BULK AT MOST 1048576: true; the input reads as it did. -/
def viewSortsUptoRow : OpenClaim := { program := "ytkdmhlmaeccekaa", sum := "b5919292d19bb96e6bbfae1122095d314caa4c4fe6632d6fd67736324ae731b0", func := "hinterland/hinterlandlaw25.ViewSorts", spec := "viewSorts", unfollowed := true, recurses := true, apart := false, narrowed := true }
def ViewSortsUptoSaid : Prop := viewSortsUptoRow.holds Try.pinned (OpenSpec.upto viewSortsSpec)

/-- 'hinterlandlaw25.ViewBehind', WHERE WHAT IT READS IS OF BULK AT MOST 1048576: true; the input reads as it did. -/
def viewBehindUptoRow : OpenClaim := { program := "ytkdmhlmaeccekaa", sum := "b5919292d19bb96e6bbfae1122095d314caa4c4fe6632d6fd67736324ae731b0", func := "hinterland/hinterlandlaw25.ViewBehind", spec := "viewBehind", unfollowed := true, recurses := true, apart := false, narrowed := true }
def ViewBehindUptoSaid : Prop := viewBehindUptoRow.holds Try.pinned (OpenSpec.upto viewBehindSpec)

/-- 'hinterlandlaw25.ViewDraws', WHERE WHAT IT READS IS OF BULK AT MOST 1048576: true; the input reads as it did. -/
def viewDrawsUptoRow : OpenClaim := { program := "ytkdmhlmaeccekaa", sum := "b5919292d19bb96e6bbfae1122095d314caa4c4fe6632d6fd67736324ae731b0", func := "hinterland/hinterlandlaw25.ViewDraws", spec := "viewDraws", unfollowed := true, recurses := true, apart := false, narrowed := true }
def ViewDrawsUptoSaid : Prop := viewDrawsUptoRow.holds Try.pinned (OpenSpec.upto viewDrawsSpec)

/-- 'hinterlandlaw25.ViewPoints', WHERE WHAT IT READS IS OF BULK AT MOST 1048576: true; the input reads as it did. -/
def viewPointsUptoRow : OpenClaim := { program := "ytkdmhlmaeccekaa", sum := "b5919292d19bb96e6bbfae1122095d314caa4c4fe6632d6fd67736324ae731b0", func := "hinterland/hinterlandlaw25.ViewPoints", spec := "viewPoints", unfollowed := true, recurses := true, apart := false, narrowed := true }
def ViewPointsUptoSaid : Prop := viewPointsUptoRow.holds Try.pinned (OpenSpec.upto viewPointsSpec)

/-- 'hinterlandlaw25.ViewRotates', WHERE WHAT IT READS IS OF BULK AT MOST 1048576: true; the input reads as it did. -/
def viewRotatesUptoRow : OpenClaim := { program := "ytkdmhlmaeccekaa", sum := "b5919292d19bb96e6bbfae1122095d314caa4c4fe6632d6fd67736324ae731b0", func := "hinterland/hinterlandlaw25.ViewRotates", spec := "viewRotates", unfollowed := true, recurses := true, apart := false, narrowed := true }
def ViewRotatesUptoSaid : Prop := viewRotatesUptoRow.holds Try.pinned (OpenSpec.upto viewRotatesSpec)

/-- 'hinterlandlaw25.ViewTurns', WHERE WHAT IT READS IS OF BULK AT MOST 1048576: true; the input reads as it did. -/
def viewTurnsUptoRow : OpenClaim := { program := "ytkdmhlmaeccekaa", sum := "b5919292d19bb96e6bbfae1122095d314caa4c4fe6632d6fd67736324ae731b0", func := "hinterland/hinterlandlaw25.ViewTurns", spec := "viewTurns", unfollowed := true, recurses := true, apart := false, narrowed := true }
def ViewTurnsUptoSaid : Prop := viewTurnsUptoRow.holds Try.pinned (OpenSpec.upto viewTurnsSpec)

end Rows
end Go.Proofs.Ytkdmhlmaeccekaa
