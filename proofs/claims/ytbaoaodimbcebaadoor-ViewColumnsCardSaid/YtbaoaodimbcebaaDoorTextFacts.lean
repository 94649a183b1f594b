/- What the interpreter asks of the types of this seat. -/
import Derived.Test.YtbaoaodimbcebaaDoorProg
import Derived.Test.YtbaoaodimbcebaaDoorAmLoop
import Derived.KernelRfl
namespace Go.Proofs.YtbaoaodimbcebaaDoor.AM
open Go Go.Proofs

@[simp] theorem szT_3 : szT Tryd.prog 3 = some 1 := by kernel_rfl
@[simp] theorem byT_3 : byT Tryd.prog 3 = some 8 := by kernel_rfl
@[simp] theorem aggT_3 : aggT Tryd.prog 3 = some false := by kernel_rfl
@[simp] theorem slT_3 : slT Tryd.prog 3 = none := by kernel_rfl
@[simp] theorem arT_3 : arT Tryd.prog 3 = none := by kernel_rfl
@[simp] theorem stT_3 : stT Tryd.prog 3 = false := by kernel_rfl
@[simp] theorem boT_3 : boT Tryd.prog 3 = false := by kernel_rfl
@[simp] theorem inT_3 : inT Tryd.prog 3 = false := by kernel_rfl
@[simp] theorem zeT_3 : zeT Tryd.prog 3 = some [AV.val (Value.int IntKind.i64 0)] := by kernel_rfl
@[simp] theorem ptT_3 : ptT Tryd.prog 3 = none := by kernel_rfl
@[simp] theorem usT_3 : usT Tryd.prog 3 = false := by kernel_rfl
@[simp] theorem szT_4 : szT Tryd.prog 4 = some 1 := by kernel_rfl
@[simp] theorem byT_4 : byT Tryd.prog 4 = some 1 := by kernel_rfl
@[simp] theorem aggT_4 : aggT Tryd.prog 4 = some false := by kernel_rfl
@[simp] theorem slT_4 : slT Tryd.prog 4 = none := by kernel_rfl
@[simp] theorem arT_4 : arT Tryd.prog 4 = none := by kernel_rfl
@[simp] theorem stT_4 : stT Tryd.prog 4 = false := by kernel_rfl
@[simp] theorem boT_4 : boT Tryd.prog 4 = true := by kernel_rfl
@[simp] theorem inT_4 : inT Tryd.prog 4 = false := by kernel_rfl
@[simp] theorem zeT_4 : zeT Tryd.prog 4 = some [AV.val (Value.bool false)] := by kernel_rfl
@[simp] theorem ptT_4 : ptT Tryd.prog 4 = none := by kernel_rfl
@[simp] theorem usT_4 : usT Tryd.prog 4 = false := by kernel_rfl
@[simp] theorem szT_5 : szT Tryd.prog 5 = some 1 := by kernel_rfl
@[simp] theorem byT_5 : byT Tryd.prog 5 = some 1 := by kernel_rfl
@[simp] theorem aggT_5 : aggT Tryd.prog 5 = some false := by kernel_rfl
@[simp] theorem slT_5 : slT Tryd.prog 5 = none := by kernel_rfl
@[simp] theorem arT_5 : arT Tryd.prog 5 = none := by kernel_rfl
@[simp] theorem stT_5 : stT Tryd.prog 5 = false := by kernel_rfl
@[simp] theorem boT_5 : boT Tryd.prog 5 = false := by kernel_rfl
@[simp] theorem inT_5 : inT Tryd.prog 5 = false := by kernel_rfl
@[simp] theorem zeT_5 : zeT Tryd.prog 5 = some [AV.val (Value.int IntKind.u8 0)] := by kernel_rfl
@[simp] theorem ptT_5 : ptT Tryd.prog 5 = none := by kernel_rfl
@[simp] theorem usT_5 : usT Tryd.prog 5 = false := by kernel_rfl
@[simp] theorem szT_9 : szT Tryd.prog 9 = some 1 := by kernel_rfl
@[simp] theorem byT_9 : byT Tryd.prog 9 = some 16 := by kernel_rfl
@[simp] theorem aggT_9 : aggT Tryd.prog 9 = some false := by kernel_rfl
@[simp] theorem slT_9 : slT Tryd.prog 9 = none := by kernel_rfl
@[simp] theorem arT_9 : arT Tryd.prog 9 = none := by kernel_rfl
@[simp] theorem stT_9 : stT Tryd.prog 9 = true := by kernel_rfl
@[simp] theorem boT_9 : boT Tryd.prog 9 = false := by kernel_rfl
@[simp] theorem inT_9 : inT Tryd.prog 9 = false := by kernel_rfl
@[simp] theorem zeT_9 : zeT Tryd.prog 9 = some [AV.val (Value.string { data := { toList := [] } })] := by kernel_rfl
@[simp] theorem ptT_9 : ptT Tryd.prog 9 = none := by kernel_rfl
@[simp] theorem usT_9 : usT Tryd.prog 9 = false := by kernel_rfl
@[simp] theorem szT_22 : szT Tryd.prog 22 = some 1 := by kernel_rfl
@[simp] theorem byT_22 : byT Tryd.prog 22 = some 8 := by kernel_rfl
@[simp] theorem aggT_22 : aggT Tryd.prog 22 = some false := by kernel_rfl
@[simp] theorem slT_22 : slT Tryd.prog 22 = none := by kernel_rfl
@[simp] theorem arT_22 : arT Tryd.prog 22 = none := by kernel_rfl
@[simp] theorem stT_22 : stT Tryd.prog 22 = false := by kernel_rfl
@[simp] theorem boT_22 : boT Tryd.prog 22 = false := by kernel_rfl
@[simp] theorem inT_22 : inT Tryd.prog 22 = false := by kernel_rfl
@[simp] theorem zeT_22 : zeT Tryd.prog 22 = some [AV.val Value.nilFunc] := by kernel_rfl
@[simp] theorem ptT_22 : ptT Tryd.prog 22 = none := by kernel_rfl
@[simp] theorem usT_22 : usT Tryd.prog 22 = false := by kernel_rfl
@[simp] theorem szT_23 : szT Tryd.prog 23 = some 1 := by kernel_rfl
@[simp] theorem byT_23 : byT Tryd.prog 23 = some 24 := by kernel_rfl
@[simp] theorem aggT_23 : aggT Tryd.prog 23 = some false := by kernel_rfl
@[simp] theorem slT_23 : slT Tryd.prog 23 = some 9 := by kernel_rfl
@[simp] theorem arT_23 : arT Tryd.prog 23 = none := by kernel_rfl
@[simp] theorem stT_23 : stT Tryd.prog 23 = false := by kernel_rfl
@[simp] theorem boT_23 : boT Tryd.prog 23 = false := by kernel_rfl
@[simp] theorem inT_23 : inT Tryd.prog 23 = false := by kernel_rfl
@[simp] theorem zeT_23 : zeT Tryd.prog 23 = some [AV.ro true []] := by kernel_rfl
@[simp] theorem ptT_23 : ptT Tryd.prog 23 = none := by kernel_rfl
@[simp] theorem usT_23 : usT Tryd.prog 23 = false := by kernel_rfl
@[simp] theorem szT_24 : szT Tryd.prog 24 = some 1 := by kernel_rfl
@[simp] theorem byT_24 : byT Tryd.prog 24 = some 8 := by kernel_rfl
@[simp] theorem aggT_24 : aggT Tryd.prog 24 = some false := by kernel_rfl
@[simp] theorem slT_24 : slT Tryd.prog 24 = none := by kernel_rfl
@[simp] theorem arT_24 : arT Tryd.prog 24 = none := by kernel_rfl
@[simp] theorem stT_24 : stT Tryd.prog 24 = false := by kernel_rfl
@[simp] theorem boT_24 : boT Tryd.prog 24 = false := by kernel_rfl
@[simp] theorem inT_24 : inT Tryd.prog 24 = false := by kernel_rfl
@[simp] theorem zeT_24 : zeT Tryd.prog 24 = some [AV.val (Value.int IntKind.i64 0)] := by kernel_rfl
@[simp] theorem ptT_24 : ptT Tryd.prog 24 = none := by kernel_rfl
@[simp] theorem usT_24 : usT Tryd.prog 24 = false := by kernel_rfl
@[simp] theorem szT_29 : szT Tryd.prog 29 = some 1 := by kernel_rfl
@[simp] theorem byT_29 : byT Tryd.prog 29 = some 24 := by kernel_rfl
@[simp] theorem aggT_29 : aggT Tryd.prog 29 = some false := by kernel_rfl
@[simp] theorem slT_29 : slT Tryd.prog 29 = some 5 := by kernel_rfl
@[simp] theorem arT_29 : arT Tryd.prog 29 = none := by kernel_rfl
@[simp] theorem stT_29 : stT Tryd.prog 29 = false := by kernel_rfl
@[simp] theorem boT_29 : boT Tryd.prog 29 = false := by kernel_rfl
@[simp] theorem inT_29 : inT Tryd.prog 29 = false := by kernel_rfl
@[simp] theorem zeT_29 : zeT Tryd.prog 29 = some [AV.ro true []] := by kernel_rfl
@[simp] theorem ptT_29 : ptT Tryd.prog 29 = none := by kernel_rfl
@[simp] theorem usT_29 : usT Tryd.prog 29 = false := by kernel_rfl
@[simp] theorem szT_31 : szT Tryd.prog 31 = some 1 := by kernel_rfl
@[simp] theorem byT_31 : byT Tryd.prog 31 = some 24 := by kernel_rfl
@[simp] theorem aggT_31 : aggT Tryd.prog 31 = some false := by kernel_rfl
@[simp] theorem slT_31 : slT Tryd.prog 31 = some 23 := by kernel_rfl
@[simp] theorem arT_31 : arT Tryd.prog 31 = none := by kernel_rfl
@[simp] theorem stT_31 : stT Tryd.prog 31 = false := by kernel_rfl
@[simp] theorem boT_31 : boT Tryd.prog 31 = false := by kernel_rfl
@[simp] theorem inT_31 : inT Tryd.prog 31 = false := by kernel_rfl
@[simp] theorem zeT_31 : zeT Tryd.prog 31 = some [AV.ro true []] := by kernel_rfl
@[simp] theorem ptT_31 : ptT Tryd.prog 31 = none := by kernel_rfl
@[simp] theorem usT_31 : usT Tryd.prog 31 = false := by kernel_rfl
@[simp] theorem szT_36 : szT Tryd.prog 36 = some 7 := by kernel_rfl
@[simp] theorem byT_36 : byT Tryd.prog 36 = some 56 := by kernel_rfl
@[simp] theorem aggT_36 : aggT Tryd.prog 36 = some true := by kernel_rfl
@[simp] theorem slT_36 : slT Tryd.prog 36 = none := by kernel_rfl
@[simp] theorem arT_36 : arT Tryd.prog 36 = none := by kernel_rfl
@[simp] theorem stT_36 : stT Tryd.prog 36 = false := by kernel_rfl
@[simp] theorem boT_36 : boT Tryd.prog 36 = false := by kernel_rfl
@[simp] theorem inT_36 : inT Tryd.prog 36 = true := by kernel_rfl
@[simp] theorem zeT_36 : zeT Tryd.prog 36 = some [AV.val (Value.int IntKind.i64 0), AV.val (Value.int IntKind.i64 0), AV.val (Value.int IntKind.i64 0), AV.val (Value.int IntKind.i64 0), AV.val (Value.int IntKind.i64 0), AV.val (Value.int IntKind.i64 0), AV.val (Value.int IntKind.i64 0)] := by kernel_rfl
@[simp] theorem blT_36 : blT Tryd.prog 36 = true := by kernel_rfl
@[simp] theorem ptT_36 : ptT Tryd.prog 36 = none := by kernel_rfl
@[simp] theorem usT_36 : usT Tryd.prog 36 = false := by kernel_rfl
@[simp] theorem szT_37 : szT Tryd.prog 37 = some 7 := by kernel_rfl
@[simp] theorem byT_37 : byT Tryd.prog 37 = some 56 := by kernel_rfl
@[simp] theorem aggT_37 : aggT Tryd.prog 37 = some true := by kernel_rfl
@[simp] theorem slT_37 : slT Tryd.prog 37 = none := by kernel_rfl
@[simp] theorem arT_37 : arT Tryd.prog 37 = none := by kernel_rfl
@[simp] theorem stT_37 : stT Tryd.prog 37 = false := by kernel_rfl
@[simp] theorem boT_37 : boT Tryd.prog 37 = false := by kernel_rfl
@[simp] theorem inT_37 : inT Tryd.prog 37 = true := by kernel_rfl
@[simp] theorem zeT_37 : zeT Tryd.prog 37 = some [AV.val (Value.int IntKind.i64 0), AV.val (Value.int IntKind.i64 0), AV.val (Value.int IntKind.i64 0), AV.val (Value.int IntKind.i64 0), AV.val (Value.int IntKind.i64 0), AV.val (Value.int IntKind.i64 0), AV.val (Value.int IntKind.i64 0)] := by kernel_rfl
@[simp] theorem blT_37 : blT Tryd.prog 37 = true := by kernel_rfl
@[simp] theorem ptT_37 : ptT Tryd.prog 37 = none := by kernel_rfl
@[simp] theorem usT_37 : usT Tryd.prog 37 = false := by kernel_rfl
@[simp] theorem szT_38 : szT Tryd.prog 38 = some 1 := by kernel_rfl
@[simp] theorem byT_38 : byT Tryd.prog 38 = some 24 := by kernel_rfl
@[simp] theorem aggT_38 : aggT Tryd.prog 38 = some false := by kernel_rfl
@[simp] theorem slT_38 : slT Tryd.prog 38 = some 37 := by kernel_rfl
@[simp] theorem arT_38 : arT Tryd.prog 38 = none := by kernel_rfl
@[simp] theorem stT_38 : stT Tryd.prog 38 = false := by kernel_rfl
@[simp] theorem boT_38 : boT Tryd.prog 38 = false := by kernel_rfl
@[simp] theorem inT_38 : inT Tryd.prog 38 = false := by kernel_rfl
@[simp] theorem zeT_38 : zeT Tryd.prog 38 = some [AV.ro true []] := by kernel_rfl
@[simp] theorem ptT_38 : ptT Tryd.prog 38 = none := by kernel_rfl
@[simp] theorem usT_38 : usT Tryd.prog 38 = false := by kernel_rfl
@[simp] theorem szT_39 : szT Tryd.prog 39 = some 1 := by kernel_rfl
@[simp] theorem byT_39 : byT Tryd.prog 39 = some 24 := by kernel_rfl
@[simp] theorem aggT_39 : aggT Tryd.prog 39 = some false := by kernel_rfl
@[simp] theorem slT_39 : slT Tryd.prog 39 = some 3 := by kernel_rfl
@[simp] theorem arT_39 : arT Tryd.prog 39 = none := by kernel_rfl
@[simp] theorem stT_39 : stT Tryd.prog 39 = false := by kernel_rfl
@[simp] theorem boT_39 : boT Tryd.prog 39 = false := by kernel_rfl
@[simp] theorem inT_39 : inT Tryd.prog 39 = false := by kernel_rfl
@[simp] theorem zeT_39 : zeT Tryd.prog 39 = some [AV.ro true []] := by kernel_rfl
@[simp] theorem ptT_39 : ptT Tryd.prog 39 = none := by kernel_rfl
@[simp] theorem usT_39 : usT Tryd.prog 39 = false := by kernel_rfl
@[simp] theorem szT_51 : szT Tryd.prog 51 = some 1 := by kernel_rfl
@[simp] theorem byT_51 : byT Tryd.prog 51 = some 8 := by kernel_rfl
@[simp] theorem aggT_51 : aggT Tryd.prog 51 = some false := by kernel_rfl
@[simp] theorem slT_51 : slT Tryd.prog 51 = none := by kernel_rfl
@[simp] theorem arT_51 : arT Tryd.prog 51 = none := by kernel_rfl
@[simp] theorem stT_51 : stT Tryd.prog 51 = false := by kernel_rfl
@[simp] theorem boT_51 : boT Tryd.prog 51 = false := by kernel_rfl
@[simp] theorem inT_51 : inT Tryd.prog 51 = false := by kernel_rfl
@[simp] theorem zeT_51 : zeT Tryd.prog 51 = some [AV.val (Value.pointer none)] := by kernel_rfl
@[simp] theorem ptT_51 : ptT Tryd.prog 51 = some 53 := by kernel_rfl
@[simp] theorem usT_51 : usT Tryd.prog 51 = false := by kernel_rfl
@[simp] theorem szT_53 : szT Tryd.prog 53 = some 2 := by kernel_rfl
@[simp] theorem byT_53 : byT Tryd.prog 53 = some 32 := by kernel_rfl
@[simp] theorem aggT_53 : aggT Tryd.prog 53 = some true := by kernel_rfl
@[simp] theorem slT_53 : slT Tryd.prog 53 = none := by kernel_rfl
@[simp] theorem arT_53 : arT Tryd.prog 53 = none := by kernel_rfl
@[simp] theorem stT_53 : stT Tryd.prog 53 = false := by kernel_rfl
@[simp] theorem boT_53 : boT Tryd.prog 53 = false := by kernel_rfl
@[simp] theorem inT_53 : inT Tryd.prog 53 = false := by kernel_rfl
@[simp] theorem zeT_53 : zeT Tryd.prog 53 = some [AV.val (Value.pointer none), AV.ro true []] := by kernel_rfl
@[simp] theorem blT_53 : blT Tryd.prog 53 = true := by kernel_rfl
@[simp] theorem ptT_53 : ptT Tryd.prog 53 = none := by kernel_rfl
@[simp] theorem usT_53 : usT Tryd.prog 53 = false := by kernel_rfl
@[simp] theorem szT_85 : szT Tryd.prog 85 = some 1 := by kernel_rfl
@[simp] theorem byT_85 : byT Tryd.prog 85 = some 8 := by kernel_rfl
@[simp] theorem aggT_85 : aggT Tryd.prog 85 = some false := by kernel_rfl
@[simp] theorem slT_85 : slT Tryd.prog 85 = none := by kernel_rfl
@[simp] theorem arT_85 : arT Tryd.prog 85 = none := by kernel_rfl
@[simp] theorem stT_85 : stT Tryd.prog 85 = false := by kernel_rfl
@[simp] theorem boT_85 : boT Tryd.prog 85 = false := by kernel_rfl
@[simp] theorem inT_85 : inT Tryd.prog 85 = false := by kernel_rfl
@[simp] theorem zeT_85 : zeT Tryd.prog 85 = some [AV.val (Value.pointer none)] := by kernel_rfl
@[simp] theorem ptT_85 : ptT Tryd.prog 85 = some 5 := by kernel_rfl
@[simp] theorem usT_85 : usT Tryd.prog 85 = false := by kernel_rfl
@[simp] theorem szT_94 : szT Tryd.prog 94 = some 1 := by kernel_rfl
@[simp] theorem byT_94 : byT Tryd.prog 94 = some 8 := by kernel_rfl
@[simp] theorem aggT_94 : aggT Tryd.prog 94 = some false := by kernel_rfl
@[simp] theorem slT_94 : slT Tryd.prog 94 = none := by kernel_rfl
@[simp] theorem arT_94 : arT Tryd.prog 94 = none := by kernel_rfl
@[simp] theorem stT_94 : stT Tryd.prog 94 = false := by kernel_rfl
@[simp] theorem boT_94 : boT Tryd.prog 94 = false := by kernel_rfl
@[simp] theorem inT_94 : inT Tryd.prog 94 = false := by kernel_rfl
@[simp] theorem zeT_94 : zeT Tryd.prog 94 = some [AV.val (Value.pointer none)] := by kernel_rfl
@[simp] theorem ptT_94 : ptT Tryd.prog 94 = none := by kernel_rfl
@[simp] theorem usT_94 : usT Tryd.prog 94 = true := by kernel_rfl
@[simp] theorem fdT_36_0 : fdT Tryd.prog 36 0 = some (0, 3) := by kernel_rfl
@[simp] theorem fdT_36_1 : fdT Tryd.prog 36 1 = some (1, 3) := by kernel_rfl
@[simp] theorem fdT_36_2 : fdT Tryd.prog 36 2 = some (2, 3) := by kernel_rfl
@[simp] theorem fdT_36_3 : fdT Tryd.prog 36 3 = some (3, 3) := by kernel_rfl
@[simp] theorem fdT_36_4 : fdT Tryd.prog 36 4 = some (4, 3) := by kernel_rfl
@[simp] theorem fdT_36_5 : fdT Tryd.prog 36 5 = some (5, 3) := by kernel_rfl
@[simp] theorem fdT_36_6 : fdT Tryd.prog 36 6 = some (6, 3) := by kernel_rfl
@[simp] theorem fdT_37_0 : fdT Tryd.prog 37 0 = some (0, 3) := by kernel_rfl
@[simp] theorem fdT_37_1 : fdT Tryd.prog 37 1 = some (1, 3) := by kernel_rfl
@[simp] theorem fdT_37_2 : fdT Tryd.prog 37 2 = some (2, 3) := by kernel_rfl
@[simp] theorem fdT_37_3 : fdT Tryd.prog 37 3 = some (3, 3) := by kernel_rfl
@[simp] theorem fdT_37_4 : fdT Tryd.prog 37 4 = some (4, 3) := by kernel_rfl
@[simp] theorem fdT_37_5 : fdT Tryd.prog 37 5 = some (5, 3) := by kernel_rfl
@[simp] theorem fdT_37_6 : fdT Tryd.prog 37 6 = some (6, 3) := by kernel_rfl
@[simp] theorem fdT_53_0 : fdT Tryd.prog 53 0 = some (0, 51) := by kernel_rfl
@[simp] theorem fdT_53_1 : fdT Tryd.prog 53 1 = some (1, 29) := by kernel_rfl

end Go.Proofs.YtbaoaodimbcebaaDoor.AM
