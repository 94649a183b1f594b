/-
  No cell of these rows narrows 'for every input' (looked for: loops, veiled, ifaces, maps, wideKeys, modest, calm, conditions, laid).
  DERIVED. THE GIVEN ROWS OF THIS SEAT. 16 by the template 'for every input the law returns true; each argument reads behind the call as it read before'; 0 by the template 'total and deterministic' (their statements: YtdckleaemkcapaaTotals.lean).
  GIVEN WITH THE SEED: the statements are not yours to turn. If you find one false, say at which input.
  Laid BY PROGRAM, IN A SANDBOX (cutbox-rows.mjs): the forced cells as the released guide's own fill.sh prints them over the translation e52dcbcc2309556c… (all of the seat's roots in one cut). By AI agents, Wed Nov 11 2026. No macro, syntax, notation, axiom, sorry.
-/
import Derived.Test.YtdckleaemkcapaaChecked
import GoSem.Claim
import GoSem.ClaimJoined
import GoSem.ClaimMapViews
import Derived.JoinedTies
import Derived.KernelRfl
namespace Go.Proofs.Ytdckleaemkcapaa
/- THE CELL 'sum', in the pinned program and in every row, IS THE sha256 OF THE DUMP (.gsa) THAT YtdckleaemkcapaaProg.lean LOADS. Nothing in Lean hashes anything: it is a label: what it is worth is what the hold of that sum in a sandbox is worth. -/
noncomputable def Try.pinned : Pinned := { name := "ytdckleaemkcapaa", sum := "e52dcbcc2309556c3c5f83dac256a875c080156064a7ca4211afc72b5c9bc0f4", checked := Try.checked }
namespace Rows
def none {H : Type} : Left H := { results := [], args := [] }

/-- 'hinterlandlaw19.BankValidates': WHATEVER THE INPUT: true; the input reads as it did. -/
def bankValidatesSpec : ChangeSpec := { name := "bankValidates", fn := fun _ => fun
  | [d] => { results := [.lit (.bool true)], args := [d] }
  | _ => none }
def bankValidatesRow : OpenClaim := { program := "ytdckleaemkcapaa", sum := "e52dcbcc2309556c3c5f83dac256a875c080156064a7ca4211afc72b5c9bc0f4", func := "hinterland/hinterlandlaw19.BankValidates", spec := "bankValidates", unfollowed := true, recurses := true, apart := false }
def BankValidatesSaid : Prop := bankValidatesRow.holds Try.pinned (OpenSpec.ofChange bankValidatesSpec)

/-- ITS FALSE NEIGHBOUR: 'it returns false'. Refute it at one input. -/
def bankValidatesWrong : ChangeSpec := { name := "bankValidates", fn := fun _ => fun
  | [d] => { results := [.lit (.bool false)], args := [d] }
  | _ => none }
def BankValidatesWrongFalsely : Prop := bankValidatesRow.holds Try.pinned (OpenSpec.ofChange bankValidatesWrong)

/-- 'hinterlandlaw19.BankNews': WHATEVER THE INPUT: true; the input reads as it did. -/
def bankNewsSpec : ChangeSpec := { name := "bankNews", fn := fun _ => fun
  | [d1, d2] => { results := [.lit (.bool true)], args := [d1, d2] }
  | _ => none }
def bankNewsRow : OpenClaim := { program := "ytdckleaemkcapaa", sum := "e52dcbcc2309556c3c5f83dac256a875c080156064a7ca4211afc72b5c9bc0f4", func := "hinterland/hinterlandlaw19.BankNews", spec := "bankNews", unfollowed := true, recurses := true, apart := false }
def BankNewsSaid : Prop := bankNewsRow.holds Try.pinned (OpenSpec.ofChange bankNewsSpec)

/-- ITS FALSE NEIGHBOUR: 'it returns false'. Refute it at one input. -/
def bankNewsWrong : ChangeSpec := { name := "bankNews", fn := fun _ => fun
  | [d1, d2] => { results := [.lit (.bool false)], args := [d1, d2] }
  | _ => none }
def BankNewsWrongFalsely : Prop := bankNewsRow.holds Try.pinned (OpenSpec.ofChange bankNewsWrong)

/-- 'hinterlandlaw19.BankFounds': WHATEVER THE INPUT: true; the input reads as it did. -/
def bankFoundsSpec : ChangeSpec := { name := "bankFounds", fn := fun _ => fun
  | [d1, d2] => { results := [.lit (.bool true)], args := [d1, d2] }
  | _ => none }
def bankFoundsRow : OpenClaim := { program := "ytdckleaemkcapaa", sum := "e52dcbcc2309556c3c5f83dac256a875c080156064a7ca4211afc72b5c9bc0f4", func := "hinterland/hinterlandlaw19.BankFounds", spec := "bankFounds", unfollowed := true, recurses := true, apart := false }
def BankFoundsSaid : Prop := bankFoundsRow.holds Try.pinned (OpenSpec.ofChange bankFoundsSpec)

/-- ITS FALSE NEIGHBOUR: 'it returns false'. Refute it at one input. -/
def bankFoundsWrong : ChangeSpec := { name := "bankFounds", fn := fun _ => fun
  | [d1, d2] => { results := [.lit (.bool false)], args := [d1, d2] }
  | _ => none }
def BankFoundsWrongFalsely : Prop := bankFoundsRow.holds Try.pinned (OpenSpec.ofChange bankFoundsWrong)

/-- 'hinterlandlaw19.BankWorths': WHATEVER THE INPUT: true; the input reads as it did. -/
def bankWorthsSpec : ChangeSpec := { name := "bankWorths", fn := fun _ => fun
  | [d1, d2, d3] => { results := [.lit (.bool true)], args := [d1, d2, d3] }
  | _ => none }
def bankWorthsRow : OpenClaim := { program := "ytdckleaemkcapaa", sum := "e52dcbcc2309556c3c5f83dac256a875c080156064a7ca4211afc72b5c9bc0f4", func := "hinterland/hinterlandlaw19.BankWorths", spec := "bankWorths", unfollowed := true, recurses := true, apart := false }
def BankWorthsSaid : Prop := bankWorthsRow.holds Try.pinned (OpenSpec.ofChange bankWorthsSpec)

/-- ITS FALSE NEIGHBOUR: 'it returns false'. Refute it at one input. -/
def bankWorthsWrong : ChangeSpec := { name := "bankWorths", fn := fun _ => fun
  | [d1, d2, d3] => { results := [.lit (.bool false)], args := [d1, d2, d3] }
  | _ => none }
def BankWorthsWrongFalsely : Prop := bankWorthsRow.holds Try.pinned (OpenSpec.ofChange bankWorthsWrong)

/-- 'hinterlandlaw19.BankPrices': WHATEVER THE INPUT: true; the input reads as it did. -/
def bankPricesSpec : ChangeSpec := { name := "bankPrices", fn := fun _ => fun
  | [d1, d2] => { results := [.lit (.bool true)], args := [d1, d2] }
  | _ => none }
def bankPricesRow : OpenClaim := { program := "ytdckleaemkcapaa", sum := "e52dcbcc2309556c3c5f83dac256a875c080156064a7ca4211afc72b5c9bc0f4", func := "hinterland/hinterlandlaw19.BankPrices", spec := "bankPrices", unfollowed := true, recurses := true, apart := false }
def BankPricesSaid : Prop := bankPricesRow.holds Try.pinned (OpenSpec.ofChange bankPricesSpec)

/-- ITS FALSE NEIGHBOUR: 'it returns false'. Refute it at one input. -/
def bankPricesWrong : ChangeSpec := { name := "bankPrices", fn := fun _ => fun
  | [d1, d2] => { results := [.lit (.bool false)], args := [d1, d2] }
  | _ => none }
def BankPricesWrongFalsely : Prop := bankPricesRow.holds Try.pinned (OpenSpec.ofChange bankPricesWrong)

/-- 'hinterlandlaw19.BankTotals': WHATEVER THE INPUT: true; the input reads as it did. -/
def bankTotalsSpec : ChangeSpec := { name := "bankTotals", fn := fun _ => fun
  | [d1, d2] => { results := [.lit (.bool true)], args := [d1, d2] }
  | _ => none }
def bankTotalsRow : OpenClaim := { program := "ytdckleaemkcapaa", sum := "e52dcbcc2309556c3c5f83dac256a875c080156064a7ca4211afc72b5c9bc0f4", func := "hinterland/hinterlandlaw19.BankTotals", spec := "bankTotals", unfollowed := true, recurses := true, apart := false }
def BankTotalsSaid : Prop := bankTotalsRow.holds Try.pinned (OpenSpec.ofChange bankTotalsSpec)

/-- ITS FALSE NEIGHBOUR: 'it returns false'. Refute it at one input. -/
def bankTotalsWrong : ChangeSpec := { name := "bankTotals", fn := fun _ => fun
  | [d1, d2] => { results := [.lit (.bool false)], args := [d1, d2] }
  | _ => none }
def BankTotalsWrongFalsely : Prop := bankTotalsRow.holds Try.pinned (OpenSpec.ofChange bankTotalsWrong)

/-- 'hinterlandlaw19.BankPays': WHATEVER THE INPUT: true; the input reads as it did. -/
def bankPaysSpec : ChangeSpec := { name := "bankPays", fn := fun _ => fun
  | [d1, d2, d3, d4] => { results := [.lit (.bool true)], args := [d1, d2, d3, d4] }
  | _ => none }
def bankPaysRow : OpenClaim := { program := "ytdckleaemkcapaa", sum := "e52dcbcc2309556c3c5f83dac256a875c080156064a7ca4211afc72b5c9bc0f4", func := "hinterland/hinterlandlaw19.BankPays", spec := "bankPays", unfollowed := true, recurses := true, apart := false }
def BankPaysSaid : Prop := bankPaysRow.holds Try.pinned (OpenSpec.ofChange bankPaysSpec)

/-- ITS FALSE NEIGHBOUR: 'it returns false'. Refute it at one input. -/
def bankPaysWrong : ChangeSpec := { name := "bankPays", fn := fun _ => fun
  | [d1, d2, d3, d4] => { results := [.lit (.bool false)], args := [d1, d2, d3, d4] }
  | _ => none }
def BankPaysWrongFalsely : Prop := bankPaysRow.holds Try.pinned (OpenSpec.ofChange bankPaysWrong)

/-- 'hinterlandlaw19.BankCharges': WHATEVER THE INPUT: true; the input reads as it did. -/
def bankChargesSpec : ChangeSpec := { name := "bankCharges", fn := fun _ => fun
  | [d1, d2, d3, d4] => { results := [.lit (.bool true)], args := [d1, d2, d3, d4] }
  | _ => none }
def bankChargesRow : OpenClaim := { program := "ytdckleaemkcapaa", sum := "e52dcbcc2309556c3c5f83dac256a875c080156064a7ca4211afc72b5c9bc0f4", func := "hinterland/hinterlandlaw19.BankCharges", spec := "bankCharges", unfollowed := true, recurses := true, apart := false }
def BankChargesSaid : Prop := bankChargesRow.holds Try.pinned (OpenSpec.ofChange bankChargesSpec)

/-- ITS FALSE NEIGHBOUR: 'it returns false'. Refute it at one input. -/
def bankChargesWrong : ChangeSpec := { name := "bankCharges", fn := fun _ => fun
  | [d1, d2, d3, d4] => { results := [.lit (.bool false)], args := [d1, d2, d3, d4] }
  | _ => none }
def BankChargesWrongFalsely : Prop := bankChargesRow.holds Try.pinned (OpenSpec.ofChange bankChargesWrong)

/-- 'hinterlandlaw19.BankBorrows': WHATEVER THE INPUT: true; the input reads as it did. -/
def bankBorrowsSpec : ChangeSpec := { name := "bankBorrows", fn := fun _ => fun
  | [d1, d2, d3] => { results := [.lit (.bool true)], args := [d1, d2, d3] }
  | _ => none }
def bankBorrowsRow : OpenClaim := { program := "ytdckleaemkcapaa", sum := "e52dcbcc2309556c3c5f83dac256a875c080156064a7ca4211afc72b5c9bc0f4", func := "hinterland/hinterlandlaw19.BankBorrows", spec := "bankBorrows", unfollowed := true, recurses := true, apart := false }
def BankBorrowsSaid : Prop := bankBorrowsRow.holds Try.pinned (OpenSpec.ofChange bankBorrowsSpec)

/-- ITS FALSE NEIGHBOUR: 'it returns false'. Refute it at one input. -/
def bankBorrowsWrong : ChangeSpec := { name := "bankBorrows", fn := fun _ => fun
  | [d1, d2, d3] => { results := [.lit (.bool false)], args := [d1, d2, d3] }
  | _ => none }
def BankBorrowsWrongFalsely : Prop := bankBorrowsRow.holds Try.pinned (OpenSpec.ofChange bankBorrowsWrong)

/-- 'hinterlandlaw19.BankQuarters': WHATEVER THE INPUT: true; the input reads as it did. -/
def bankQuartersSpec : ChangeSpec := { name := "bankQuarters", fn := fun _ => fun
  | [d1, d2] => { results := [.lit (.bool true)], args := [d1, d2] }
  | _ => none }
def bankQuartersRow : OpenClaim := { program := "ytdckleaemkcapaa", sum := "e52dcbcc2309556c3c5f83dac256a875c080156064a7ca4211afc72b5c9bc0f4", func := "hinterland/hinterlandlaw19.BankQuarters", spec := "bankQuarters", unfollowed := true, recurses := true, apart := false }
def BankQuartersSaid : Prop := bankQuartersRow.holds Try.pinned (OpenSpec.ofChange bankQuartersSpec)

/-- ITS FALSE NEIGHBOUR: 'it returns false'. Refute it at one input. -/
def bankQuartersWrong : ChangeSpec := { name := "bankQuarters", fn := fun _ => fun
  | [d1, d2] => { results := [.lit (.bool false)], args := [d1, d2] }
  | _ => none }
def BankQuartersWrongFalsely : Prop := bankQuartersRow.holds Try.pinned (OpenSpec.ofChange bankQuartersWrong)

/-- 'hinterlandlaw19.BankPaidBack': WHATEVER THE INPUT: true; the input reads as it did. -/
def bankPaidBackSpec : ChangeSpec := { name := "bankPaidBack", fn := fun _ => fun
  | [d1, d2, d3] => { results := [.lit (.bool true)], args := [d1, d2, d3] }
  | _ => none }
def bankPaidBackRow : OpenClaim := { program := "ytdckleaemkcapaa", sum := "e52dcbcc2309556c3c5f83dac256a875c080156064a7ca4211afc72b5c9bc0f4", func := "hinterland/hinterlandlaw19.BankPaidBack", spec := "bankPaidBack", unfollowed := true, recurses := true, apart := false }
def BankPaidBackSaid : Prop := bankPaidBackRow.holds Try.pinned (OpenSpec.ofChange bankPaidBackSpec)

/-- ITS FALSE NEIGHBOUR: 'it returns false'. Refute it at one input. -/
def bankPaidBackWrong : ChangeSpec := { name := "bankPaidBack", fn := fun _ => fun
  | [d1, d2, d3] => { results := [.lit (.bool false)], args := [d1, d2, d3] }
  | _ => none }
def BankPaidBackWrongFalsely : Prop := bankPaidBackRow.holds Try.pinned (OpenSpec.ofChange bankPaidBackWrong)

/-- 'hinterlandlaw19.BankMonths': WHATEVER THE INPUT: true; the input reads as it did. -/
def bankMonthsSpec : ChangeSpec := { name := "bankMonths", fn := fun _ => fun
  | [d] => { results := [.lit (.bool true)], args := [d] }
  | _ => none }
def bankMonthsRow : OpenClaim := { program := "ytdckleaemkcapaa", sum := "e52dcbcc2309556c3c5f83dac256a875c080156064a7ca4211afc72b5c9bc0f4", func := "hinterland/hinterlandlaw19.BankMonths", spec := "bankMonths", unfollowed := true, recurses := true, apart := false }
def BankMonthsSaid : Prop := bankMonthsRow.holds Try.pinned (OpenSpec.ofChange bankMonthsSpec)

/-- ITS FALSE NEIGHBOUR: 'it returns false'. Refute it at one input. -/
def bankMonthsWrong : ChangeSpec := { name := "bankMonths", fn := fun _ => fun
  | [d] => { results := [.lit (.bool false)], args := [d] }
  | _ => none }
def BankMonthsWrongFalsely : Prop := bankMonthsRow.holds Try.pinned (OpenSpec.ofChange bankMonthsWrong)

/-- 'hinterlandlaw19.BankMerges': WHATEVER THE INPUT: true; the input reads as it did. -/
def bankMergesSpec : ChangeSpec := { name := "bankMerges", fn := fun _ => fun
  | [d1, d2, d3] => { results := [.lit (.bool true)], args := [d1, d2, d3] }
  | _ => none }
def bankMergesRow : OpenClaim := { program := "ytdckleaemkcapaa", sum := "e52dcbcc2309556c3c5f83dac256a875c080156064a7ca4211afc72b5c9bc0f4", func := "hinterland/hinterlandlaw19.BankMerges", spec := "bankMerges", unfollowed := true, recurses := true, apart := false }
def BankMergesSaid : Prop := bankMergesRow.holds Try.pinned (OpenSpec.ofChange bankMergesSpec)

/-- ITS FALSE NEIGHBOUR: 'it returns false'. Refute it at one input. -/
def bankMergesWrong : ChangeSpec := { name := "bankMerges", fn := fun _ => fun
  | [d1, d2, d3] => { results := [.lit (.bool false)], args := [d1, d2, d3] }
  | _ => none }
def BankMergesWrongFalsely : Prop := bankMergesRow.holds Try.pinned (OpenSpec.ofChange bankMergesWrong)

/-- 'hinterlandlaw19.BankBuys': WHATEVER THE INPUT: true; the input reads as it did. -/
def bankBuysSpec : ChangeSpec := { name := "bankBuys", fn := fun _ => fun
  | [d1, d2, d3, d4] => { results := [.lit (.bool true)], args := [d1, d2, d3, d4] }
  | _ => none }
def bankBuysRow : OpenClaim := { program := "ytdckleaemkcapaa", sum := "e52dcbcc2309556c3c5f83dac256a875c080156064a7ca4211afc72b5c9bc0f4", func := "hinterland/hinterlandlaw19.BankBuys", spec := "bankBuys", unfollowed := true, recurses := true, apart := false }
def BankBuysSaid : Prop := bankBuysRow.holds Try.pinned (OpenSpec.ofChange bankBuysSpec)

/-- ITS FALSE NEIGHBOUR: 'it returns false'. Refute it at one input. -/
def bankBuysWrong : ChangeSpec := { name := "bankBuys", fn := fun _ => fun
  | [d1, d2, d3, d4] => { results := [.lit (.bool false)], args := [d1, d2, d3, d4] }
  | _ => none }
def BankBuysWrongFalsely : Prop := bankBuysRow.holds Try.pinned (OpenSpec.ofChange bankBuysWrong)

/-- 'hinterlandlaw19.BankPlays': WHATEVER THE INPUT: true; the input reads as it did. -/
def bankPlaysSpec : ChangeSpec := { name := "bankPlays", fn := fun _ => fun
  | [d1, d2, d3] => { results := [.lit (.bool true)], args := [d1, d2, d3] }
  | _ => none }
def bankPlaysRow : OpenClaim := { program := "ytdckleaemkcapaa", sum := "e52dcbcc2309556c3c5f83dac256a875c080156064a7ca4211afc72b5c9bc0f4", func := "hinterland/hinterlandlaw19.BankPlays", spec := "bankPlays", unfollowed := true, recurses := true, apart := false }
def BankPlaysSaid : Prop := bankPlaysRow.holds Try.pinned (OpenSpec.ofChange bankPlaysSpec)

/-- ITS FALSE NEIGHBOUR: 'it returns false'. Refute it at one input. -/
def bankPlaysWrong : ChangeSpec := { name := "bankPlays", fn := fun _ => fun
  | [d1, d2, d3] => { results := [.lit (.bool false)], args := [d1, d2, d3] }
  | _ => none }
def BankPlaysWrongFalsely : Prop := bankPlaysRow.holds Try.pinned (OpenSpec.ofChange bankPlaysWrong)

/-- 'hinterlandlaw19.BankAdds': WHATEVER THE INPUT: true; the input reads as it did. -/
def bankAddsSpec : ChangeSpec := { name := "bankAdds", fn := fun _ => fun
  | [d1, d2, d3] => { results := [.lit (.bool true)], args := [d1, d2, d3] }
  | _ => none }
def bankAddsRow : OpenClaim := { program := "ytdckleaemkcapaa", sum := "e52dcbcc2309556c3c5f83dac256a875c080156064a7ca4211afc72b5c9bc0f4", func := "hinterland/hinterlandlaw19.BankAdds", spec := "bankAdds", unfollowed := true, recurses := true, apart := false }
def BankAddsSaid : Prop := bankAddsRow.holds Try.pinned (OpenSpec.ofChange bankAddsSpec)

/-- ITS FALSE NEIGHBOUR: 'it returns false'. Refute it at one input. -/
def bankAddsWrong : ChangeSpec := { name := "bankAdds", fn := fun _ => fun
  | [d1, d2, d3] => { results := [.lit (.bool false)], args := [d1, d2, d3] }
  | _ => none }
def BankAddsWrongFalsely : Prop := bankAddsRow.holds Try.pinned (OpenSpec.ofChange bankAddsWrong)

/- THE SECOND FORM. 'bulk': how many values and letters a reading holds, each counted each time it is reached (what is shared counts as often as it is met; a slice's spare places count too). A statement '..UptoSaid' is the law's where the arguments, and the package variables that the reading takes, are together of bulk at most 1048576: NARROWER than '..Said'. Prove '..Said' where nothing that the law and all that it calls make is longer than what came in: it says more and counts as full. Else prove '..UptoSaid'. A law counts once. -/
mutual
def uptoBulk {H : Type} : DataW H → Nat
  | .lit (.string bytes) => bytes.length + 1
  | .lit _ => 1
  | .nil => 1
  | .ptr d => uptoBulk d + 1
  | .slice elems spare => uptoBulkAll elems + uptoBulkAll spare + 1
  | .agg parts => uptoBulkAll parts + 1
  | .iface _ d => uptoBulk d + 1
  | .map entries => uptoBulkEntries entries + 1
  | .held _ => 1
def uptoBulkAll {H : Type} : List (DataW H) → Nat
  | [] => 0
  | d :: r => uptoBulk d + uptoBulkAll r
def uptoBulkEntries {H : Type} : List (Lit × DataW H) → Nat
  | [] => 0
  | x :: r => uptoBulkEntry x + uptoBulkEntries r
def uptoBulkEntry {H : Type} : Lit × DataW H → Nat
  | (.string bytes, d) => bytes.length + uptoBulk d + 1
  | (_, d) => uptoBulk d + 1
 end
def uptoSmall : (H : Type) → List (DataW H) → Bool := fun _ ds => decide (uptoBulkAll ds ≤ 1048576)
def OpenSpec.upto (s : _root_.Go.ChangeSpec) : _root_.Go.OpenSpec := { _root_.Go.OpenSpec.ofChange s with cond := some uptoSmall }

/-- 'hinterlandlaw19.BankValidates', WHERE WHAT IT READS IS OF BULK AT MOST 1048576: true; the input reads as it did. -/
def bankValidatesUptoRow : OpenClaim := { program := "ytdckleaemkcapaa", sum := "e52dcbcc2309556c3c5f83dac256a875c080156064a7ca4211afc72b5c9bc0f4", func := "hinterland/hinterlandlaw19.BankValidates", spec := "bankValidates", unfollowed := true, recurses := true, apart := false, narrowed := true }
def BankValidatesUptoSaid : Prop := bankValidatesUptoRow.holds Try.pinned (OpenSpec.upto bankValidatesSpec)

/-- 'hinterlandlaw19.BankNews', WHERE WHAT IT READS IS OF BULK AT MOST 1048576: true; the input reads as it did. -/
def bankNewsUptoRow : OpenClaim := { program := "ytdckleaemkcapaa", sum := "e52dcbcc2309556c3c5f83dac256a875c080156064a7ca4211afc72b5c9bc0f4", func := "hinterland/hinterlandlaw19.BankNews", spec := "bankNews", unfollowed := true, recurses := true, apart := false, narrowed := true }
def BankNewsUptoSaid : Prop := bankNewsUptoRow.holds Try.pinned (OpenSpec.upto bankNewsSpec)

/-- 'hinterlandlaw19.BankFounds', WHERE WHAT IT READS IS OF BULK AT MOST 1048576: true; the input reads as it did. -/
def bankFoundsUptoRow : OpenClaim := { program := "ytdckleaemkcapaa", sum := "e52dcbcc2309556c3c5f83dac256a875c080156064a7ca4211afc72b5c9bc0f4", func := "hinterland/hinterlandlaw19.BankFounds", spec := "bankFounds", unfollowed := true, recurses := true, apart := false, narrowed := true }
def BankFoundsUptoSaid : Prop := bankFoundsUptoRow.holds Try.pinned (OpenSpec.upto bankFoundsSpec)

/-- 'hinterlandlaw19.BankWorths', WHERE WHAT IT READS IS OF BULK AT MOST 1048576: true; the input reads as it did. -/
def bankWorthsUptoRow : OpenClaim := { program := "ytdckleaemkcapaa", sum := "e52dcbcc2309556c3c5f83dac256a875c080156064a7ca4211afc72b5c9bc0f4", func := "hinterland/hinterlandlaw19.BankWorths", spec := "bankWorths", unfollowed := true, recurses := true, apart := false, narrowed := true }
def BankWorthsUptoSaid : Prop := bankWorthsUptoRow.holds Try.pinned (OpenSpec.upto bankWorthsSpec)

/-- 'hinterlandlaw19.BankPrices', WHERE WHAT IT READS IS OF BULK AT MOST 1048576: true; the input reads as it did. -/
def bankPricesUptoRow : OpenClaim := { program := "ytdckleaemkcapaa", sum := "e52dcbcc2309556c3c5f83dac256a875c080156064a7ca4211afc72b5c9bc0f4", func := "hinterland/hinterlandlaw19.BankPrices", spec := "bankPrices", unfollowed := true, recurses := true, apart := false, narrowed := true }
def BankPricesUptoSaid : Prop := bankPricesUptoRow.holds Try.pinned (OpenSpec.upto bankPricesSpec)

/-- 'hinterlandlaw19.BankTotals', WHERE WHAT IT READS IS OF BULK AT MOST 1048576: true; the input reads as it did. -/
def bankTotalsUptoRow : OpenClaim := { program := "ytdckleaemkcapaa", sum := "e52dcbcc2309556c3c5f83dac256a875c080156064a7ca4211afc72b5c9bc0f4", func := "hinterland/hinterlandlaw19.BankTotals", spec := "bankTotals", unfollowed := true, recurses := true, apart := false, narrowed := true }
def BankTotalsUptoSaid : Prop := bankTotalsUptoRow.holds Try.pinned (OpenSpec.upto bankTotalsSpec)

/-- 'hinterlandlaw19.BankPays', WHERE WHAT IT READS IS OF BULK AT MOST 1048576: true; the input reads as it did. -/
def bankPaysUptoRow : OpenClaim := { program := "ytdckleaemkcapaa", sum := "e52dcbcc2309556c3c5f83dac256a875c080156064a7ca4211afc72b5c9bc0f4", func := "hinterland/hinterlandlaw19.BankPays", spec := "bankPays", unfollowed := true, recurses := true, apart := false, narrowed := true }
def BankPaysUptoSaid : Prop := bankPaysUptoRow.holds Try.pinned (OpenSpec.upto bankPaysSpec)

/-- 'hinterlandlaw19.BankCharges', WHERE WHAT IT READS IS OF BULK AT MOST 1048576: true; the input reads as it did. -/
def bankChargesUptoRow : OpenClaim := { program := "ytdckleaemkcapaa", sum := "e52dcbcc2309556c3c5f83dac256a875c080156064a7ca4211afc72b5c9bc0f4", func := "hinterland/hinterlandlaw19.BankCharges", spec := "bankCharges", unfollowed := true, recurses := true, apart := false, narrowed := true }
def BankChargesUptoSaid : Prop := bankChargesUptoRow.holds Try.pinned (OpenSpec.upto bankChargesSpec)

/-- 'hinterlandlaw19.BankBorrows', WHERE WHAT IT READS IS OF BULK AT MOST 1048576: true; the input reads as it did. -/
def bankBorrowsUptoRow : OpenClaim := { program := "ytdckleaemkcapaa", sum := "e52dcbcc2309556c3c5f83dac256a875c080156064a7ca4211afc72b5c9bc0f4", func := "hinterland/hinterlandlaw19.BankBorrows", spec := "bankBorrows", unfollowed := true, recurses := true, apart := false, narrowed := true }
def BankBorrowsUptoSaid : Prop := bankBorrowsUptoRow.holds Try.pinned (OpenSpec.upto bankBorrowsSpec)

/-- 'hinterlandlaw19.BankQuarters', WHERE WHAT IT READS IS OF BULK AT MOST 1048576: true; the input reads as it did. -/
def bankQuartersUptoRow : OpenClaim := { program := "ytdckleaemkcapaa", sum := "e52dcbcc2309556c3c5f83dac256a875c080156064a7ca4211afc72b5c9bc0f4", func := "hinterland/hinterlandlaw19.BankQuarters", spec := "bankQuarters", unfollowed := true, recurses := true, apart := false, narrowed := true }
def BankQuartersUptoSaid : Prop := bankQuartersUptoRow.holds Try.pinned (OpenSpec.upto bankQuartersSpec)

/-- 'hinterlandlaw19.BankPaidBack', WHERE WHAT IT READS IS OF BULK AT MOST 1048576: true; the input reads as it did. -/
def bankPaidBackUptoRow : OpenClaim := { program := "ytdckleaemkcapaa", sum := "e52dcbcc2309556c3c5f83dac256a875c080156064a7ca4211afc72b5c9bc0f4", func := "hinterland/hinterlandlaw19.BankPaidBack", spec := "bankPaidBack", unfollowed := true, recurses := true, apart := false, narrowed := true }
def BankPaidBackUptoSaid : Prop := bankPaidBackUptoRow.holds Try.pinned (OpenSpec.upto bankPaidBackSpec)

/-- 'hinterlandlaw19.BankMonths', WHERE WHAT IT READS IS OF BULK AT MOST 1048576: true; the input reads as it did. -/
def bankMonthsUptoRow : OpenClaim := { program := "ytdckleaemkcapaa", sum := "e52dcbcc2309556c3c5f83dac256a875c080156064a7ca4211afc72b5c9bc0f4", func := "hinterland/hinterlandlaw19.BankMonths", spec := "bankMonths", unfollowed := true, recurses := true, apart := false, narrowed := true }
def BankMonthsUptoSaid : Prop := bankMonthsUptoRow.holds Try.pinned (OpenSpec.upto bankMonthsSpec)

/-- 'hinterlandlaw19.BankMerges', WHERE WHAT IT READS IS OF BULK AT MOST 1048576: true; the input reads as it did. -/
def bankMergesUptoRow : OpenClaim := { program := "ytdckleaemkcapaa", sum := "e52dcbcc2309556c3c5f83dac256a875c080156064a7ca4211afc72b5c9bc0f4", func := "hinterland/hinterlandlaw19.BankMerges", spec := "bankMerges", unfollowed := true, recurses := true, apart := false, narrowed := true }
def BankMergesUptoSaid : Prop := bankMergesUptoRow.holds Try.pinned (OpenSpec.upto bankMergesSpec)

/-- 'hinterlandlaw19.BankBuys', WHERE WHAT IT READS IS OF BULK AT MOST 1048576: true; the input reads as it did. -/
def bankBuysUptoRow : OpenClaim := { program := "ytdckleaemkcapaa", sum := "e52dcbcc2309556c3c5f83dac256a875c080156064a7ca4211afc72b5c9bc0f4", func := "hinterland/hinterlandlaw19.BankBuys", spec := "bankBuys", unfollowed := true, recurses := true, apart := false, narrowed := true }
def BankBuysUptoSaid : Prop := bankBuysUptoRow.holds Try.pinned (OpenSpec.upto bankBuysSpec)

/-- 'hinterlandlaw19.BankPlays', WHERE WHAT IT READS IS OF BULK AT MOST 1048576: true; the input reads as it did. -/
def bankPlaysUptoRow : OpenClaim := { program := "ytdckleaemkcapaa", sum := "e52dcbcc2309556c3c5f83dac256a875c080156064a7ca4211afc72b5c9bc0f4", func := "hinterland/hinterlandlaw19.BankPlays", spec := "bankPlays", unfollowed := true, recurses := true, apart := false, narrowed := true }
def BankPlaysUptoSaid : Prop := bankPlaysUptoRow.holds Try.pinned (OpenSpec.upto bankPlaysSpec)

/-- 'hinterlandlaw19.BankAdds', WHERE WHAT IT READS IS OF BULK AT MOST 1048576: true; the input reads as it did. -/
def bankAddsUptoRow : OpenClaim := { program := "ytdckleaemkcapaa", sum := "e52dcbcc2309556c3c5f83dac256a875c080156064a7ca4211afc72b5c9bc0f4", func := "hinterland/hinterlandlaw19.BankAdds", spec := "bankAdds", unfollowed := true, recurses := true, apart := false, narrowed := true }
def BankAddsUptoSaid : Prop := bankAddsUptoRow.holds Try.pinned (OpenSpec.upto bankAddsSpec)

end Rows
end Go.Proofs.Ytdckleaemkcapaa
