/- What the interpreter asks of the types of this seat. -/
import Derived.Test.YtmpcjfkfgjpebaaGreatDoorProg
import Derived.Test.YtmpcjfkfgjpebaaGreatDoorAmLoop
import Derived.KernelRfl
namespace Go.Proofs.YtmpcjfkfgjpebaaGreatDoor.AM
open Go Go.Proofs

@[simp] theorem szT_2 : szT Tryz.prog 2 = some 1 := by kernel_rfl
@[simp] theorem byT_2 : byT Tryz.prog 2 = some 8 := by kernel_rfl
@[simp] theorem aggT_2 : aggT Tryz.prog 2 = some false := by kernel_rfl
@[simp] theorem slT_2 : slT Tryz.prog 2 = none := by kernel_rfl
@[simp] theorem arT_2 : arT Tryz.prog 2 = none := by kernel_rfl
@[simp] theorem stT_2 : stT Tryz.prog 2 = false := by kernel_rfl
@[simp] theorem boT_2 : boT Tryz.prog 2 = false := by kernel_rfl
@[simp] theorem inT_2 : inT Tryz.prog 2 = false := by kernel_rfl
@[simp] theorem zeT_2 : zeT Tryz.prog 2 = some [AV.val (Value.int IntKind.i64 0)] := by kernel_rfl
@[simp] theorem ptT_2 : ptT Tryz.prog 2 = none := by kernel_rfl
@[simp] theorem usT_2 : usT Tryz.prog 2 = false := by kernel_rfl
@[simp] theorem ziT_2 : ziT Tryz.prog 2 = some (AV.val (Value.int IntKind.i64 0)) := by kernel_rfl
@[simp] theorem coT_2 : coT Tryz.prog 2 = true := by kernel_rfl
@[simp] theorem szT_3 : szT Tryz.prog 3 = some 1 := by kernel_rfl
@[simp] theorem byT_3 : byT Tryz.prog 3 = some 8 := by kernel_rfl
@[simp] theorem aggT_3 : aggT Tryz.prog 3 = some false := by kernel_rfl
@[simp] theorem slT_3 : slT Tryz.prog 3 = none := by kernel_rfl
@[simp] theorem arT_3 : arT Tryz.prog 3 = none := by kernel_rfl
@[simp] theorem stT_3 : stT Tryz.prog 3 = false := by kernel_rfl
@[simp] theorem boT_3 : boT Tryz.prog 3 = false := by kernel_rfl
@[simp] theorem inT_3 : inT Tryz.prog 3 = false := by kernel_rfl
@[simp] theorem zeT_3 : zeT Tryz.prog 3 = some [AV.val (Value.int IntKind.i64 0)] := by kernel_rfl
@[simp] theorem ptT_3 : ptT Tryz.prog 3 = none := by kernel_rfl
@[simp] theorem usT_3 : usT Tryz.prog 3 = false := by kernel_rfl
@[simp] theorem ziT_3 : ziT Tryz.prog 3 = some (AV.val (Value.int IntKind.i64 0)) := by kernel_rfl
@[simp] theorem coT_3 : coT Tryz.prog 3 = true := by kernel_rfl
@[simp] theorem szT_4 : szT Tryz.prog 4 = some 1 := by kernel_rfl
@[simp] theorem byT_4 : byT Tryz.prog 4 = some 1 := by kernel_rfl
@[simp] theorem aggT_4 : aggT Tryz.prog 4 = some false := by kernel_rfl
@[simp] theorem slT_4 : slT Tryz.prog 4 = none := by kernel_rfl
@[simp] theorem arT_4 : arT Tryz.prog 4 = none := by kernel_rfl
@[simp] theorem stT_4 : stT Tryz.prog 4 = false := by kernel_rfl
@[simp] theorem boT_4 : boT Tryz.prog 4 = true := by kernel_rfl
@[simp] theorem inT_4 : inT Tryz.prog 4 = false := by kernel_rfl
@[simp] theorem zeT_4 : zeT Tryz.prog 4 = some [AV.val (Value.bool false)] := by kernel_rfl
@[simp] theorem ptT_4 : ptT Tryz.prog 4 = none := by kernel_rfl
@[simp] theorem usT_4 : usT Tryz.prog 4 = false := by kernel_rfl
@[simp] theorem coT_4 : coT Tryz.prog 4 = true := by kernel_rfl
@[simp] theorem szT_5 : szT Tryz.prog 5 = some 1 := by kernel_rfl
@[simp] theorem byT_5 : byT Tryz.prog 5 = some 1 := by kernel_rfl
@[simp] theorem aggT_5 : aggT Tryz.prog 5 = some false := by kernel_rfl
@[simp] theorem slT_5 : slT Tryz.prog 5 = none := by kernel_rfl
@[simp] theorem arT_5 : arT Tryz.prog 5 = none := by kernel_rfl
@[simp] theorem stT_5 : stT Tryz.prog 5 = false := by kernel_rfl
@[simp] theorem boT_5 : boT Tryz.prog 5 = false := by kernel_rfl
@[simp] theorem inT_5 : inT Tryz.prog 5 = false := by kernel_rfl
@[simp] theorem zeT_5 : zeT Tryz.prog 5 = some [AV.val (Value.int IntKind.u8 0)] := by kernel_rfl
@[simp] theorem ptT_5 : ptT Tryz.prog 5 = none := by kernel_rfl
@[simp] theorem usT_5 : usT Tryz.prog 5 = false := by kernel_rfl
@[simp] theorem ziT_5 : ziT Tryz.prog 5 = some (AV.val (Value.int IntKind.u8 0)) := by kernel_rfl
@[simp] theorem coT_5 : coT Tryz.prog 5 = true := by kernel_rfl
@[simp] theorem szT_9 : szT Tryz.prog 9 = some 1 := by kernel_rfl
@[simp] theorem byT_9 : byT Tryz.prog 9 = some 16 := by kernel_rfl
@[simp] theorem aggT_9 : aggT Tryz.prog 9 = some false := by kernel_rfl
@[simp] theorem slT_9 : slT Tryz.prog 9 = none := by kernel_rfl
@[simp] theorem arT_9 : arT Tryz.prog 9 = none := by kernel_rfl
@[simp] theorem stT_9 : stT Tryz.prog 9 = true := by kernel_rfl
@[simp] theorem boT_9 : boT Tryz.prog 9 = false := by kernel_rfl
@[simp] theorem inT_9 : inT Tryz.prog 9 = false := by kernel_rfl
@[simp] theorem zeT_9 : zeT Tryz.prog 9 = some [AV.val (Value.string { data := { toList := [] } })] := by kernel_rfl
@[simp] theorem ptT_9 : ptT Tryz.prog 9 = none := by kernel_rfl
@[simp] theorem usT_9 : usT Tryz.prog 9 = false := by kernel_rfl
@[simp] theorem coT_9 : coT Tryz.prog 9 = true := by kernel_rfl
@[simp] theorem szT_20 : szT Tryz.prog 20 = some 1 := by kernel_rfl
@[simp] theorem byT_20 : byT Tryz.prog 20 = some 16 := by kernel_rfl
@[simp] theorem aggT_20 : aggT Tryz.prog 20 = some false := by kernel_rfl
@[simp] theorem slT_20 : slT Tryz.prog 20 = none := by kernel_rfl
@[simp] theorem arT_20 : arT Tryz.prog 20 = none := by kernel_rfl
@[simp] theorem stT_20 : stT Tryz.prog 20 = false := by kernel_rfl
@[simp] theorem boT_20 : boT Tryz.prog 20 = false := by kernel_rfl
@[simp] theorem inT_20 : inT Tryz.prog 20 = false := by kernel_rfl
@[simp] theorem zeT_20 : zeT Tryz.prog 20 = some [AV.val Value.nilIface] := by kernel_rfl
@[simp] theorem ptT_20 : ptT Tryz.prog 20 = none := by kernel_rfl
@[simp] theorem usT_20 : usT Tryz.prog 20 = false := by kernel_rfl
@[simp] theorem ifT_20 : ifT Tryz.prog 20 = true := by kernel_rfl
@[simp] theorem szT_23 : szT Tryz.prog 23 = some 1 := by kernel_rfl
@[simp] theorem byT_23 : byT Tryz.prog 23 = some 24 := by kernel_rfl
@[simp] theorem aggT_23 : aggT Tryz.prog 23 = some false := by kernel_rfl
@[simp] theorem slT_23 : slT Tryz.prog 23 = some 9 := by kernel_rfl
@[simp] theorem arT_23 : arT Tryz.prog 23 = none := by kernel_rfl
@[simp] theorem stT_23 : stT Tryz.prog 23 = false := by kernel_rfl
@[simp] theorem boT_23 : boT Tryz.prog 23 = false := by kernel_rfl
@[simp] theorem inT_23 : inT Tryz.prog 23 = false := by kernel_rfl
@[simp] theorem zeT_23 : zeT Tryz.prog 23 = some [AV.ro true []] := by kernel_rfl
@[simp] theorem ptT_23 : ptT Tryz.prog 23 = none := by kernel_rfl
@[simp] theorem usT_23 : usT Tryz.prog 23 = false := by kernel_rfl
@[simp] theorem coT_23 : coT Tryz.prog 23 = true := by kernel_rfl
@[simp] theorem szT_24 : szT Tryz.prog 24 = some 1 := by kernel_rfl
@[simp] theorem byT_24 : byT Tryz.prog 24 = some 24 := by kernel_rfl
@[simp] theorem aggT_24 : aggT Tryz.prog 24 = some false := by kernel_rfl
@[simp] theorem slT_24 : slT Tryz.prog 24 = some 52 := by kernel_rfl
@[simp] theorem arT_24 : arT Tryz.prog 24 = none := by kernel_rfl
@[simp] theorem stT_24 : stT Tryz.prog 24 = false := by kernel_rfl
@[simp] theorem boT_24 : boT Tryz.prog 24 = false := by kernel_rfl
@[simp] theorem inT_24 : inT Tryz.prog 24 = false := by kernel_rfl
@[simp] theorem zeT_24 : zeT Tryz.prog 24 = some [AV.ro true []] := by kernel_rfl
@[simp] theorem ptT_24 : ptT Tryz.prog 24 = none := by kernel_rfl
@[simp] theorem usT_24 : usT Tryz.prog 24 = false := by kernel_rfl
@[simp] theorem coT_24 : coT Tryz.prog 24 = true := by kernel_rfl
@[simp] theorem szT_26 : szT Tryz.prog 26 = some 2 := by kernel_rfl
@[simp] theorem byT_26 : byT Tryz.prog 26 = some 48 := by kernel_rfl
@[simp] theorem aggT_26 : aggT Tryz.prog 26 = some true := by kernel_rfl
@[simp] theorem slT_26 : slT Tryz.prog 26 = none := by kernel_rfl
@[simp] theorem arT_26 : arT Tryz.prog 26 = none := by kernel_rfl
@[simp] theorem stT_26 : stT Tryz.prog 26 = false := by kernel_rfl
@[simp] theorem boT_26 : boT Tryz.prog 26 = false := by kernel_rfl
@[simp] theorem inT_26 : inT Tryz.prog 26 = false := by kernel_rfl
@[simp] theorem zeT_26 : zeT Tryz.prog 26 = some [AV.ro true [], AV.ro true []] := by kernel_rfl
@[simp] theorem blT_26 : blT Tryz.prog 26 = true := by kernel_rfl
@[simp] theorem ptT_26 : ptT Tryz.prog 26 = none := by kernel_rfl
@[simp] theorem usT_26 : usT Tryz.prog 26 = false := by kernel_rfl
@[simp] theorem coT_26 : coT Tryz.prog 26 = true := by kernel_rfl
@[simp] theorem szT_27 : szT Tryz.prog 27 = some 1 := by kernel_rfl
@[simp] theorem byT_27 : byT Tryz.prog 27 = some 8 := by kernel_rfl
@[simp] theorem aggT_27 : aggT Tryz.prog 27 = some false := by kernel_rfl
@[simp] theorem slT_27 : slT Tryz.prog 27 = none := by kernel_rfl
@[simp] theorem arT_27 : arT Tryz.prog 27 = none := by kernel_rfl
@[simp] theorem stT_27 : stT Tryz.prog 27 = false := by kernel_rfl
@[simp] theorem boT_27 : boT Tryz.prog 27 = false := by kernel_rfl
@[simp] theorem inT_27 : inT Tryz.prog 27 = false := by kernel_rfl
@[simp] theorem zeT_27 : zeT Tryz.prog 27 = some [AV.val (Value.int IntKind.i64 0)] := by kernel_rfl
@[simp] theorem ptT_27 : ptT Tryz.prog 27 = none := by kernel_rfl
@[simp] theorem usT_27 : usT Tryz.prog 27 = false := by kernel_rfl
@[simp] theorem ziT_27 : ziT Tryz.prog 27 = some (AV.val (Value.int IntKind.i64 0)) := by kernel_rfl
@[simp] theorem coT_27 : coT Tryz.prog 27 = true := by kernel_rfl
@[simp] theorem szT_30 : szT Tryz.prog 30 = some 1 := by kernel_rfl
@[simp] theorem byT_30 : byT Tryz.prog 30 = some 24 := by kernel_rfl
@[simp] theorem aggT_30 : aggT Tryz.prog 30 = some false := by kernel_rfl
@[simp] theorem slT_30 : slT Tryz.prog 30 = some 3 := by kernel_rfl
@[simp] theorem arT_30 : arT Tryz.prog 30 = none := by kernel_rfl
@[simp] theorem stT_30 : stT Tryz.prog 30 = false := by kernel_rfl
@[simp] theorem boT_30 : boT Tryz.prog 30 = false := by kernel_rfl
@[simp] theorem inT_30 : inT Tryz.prog 30 = false := by kernel_rfl
@[simp] theorem zeT_30 : zeT Tryz.prog 30 = some [AV.ro true []] := by kernel_rfl
@[simp] theorem ptT_30 : ptT Tryz.prog 30 = none := by kernel_rfl
@[simp] theorem usT_30 : usT Tryz.prog 30 = false := by kernel_rfl
@[simp] theorem coT_30 : coT Tryz.prog 30 = true := by kernel_rfl
@[simp] theorem szT_32 : szT Tryz.prog 32 = some 5 := by kernel_rfl
@[simp] theorem byT_32 : byT Tryz.prog 32 = some 56 := by kernel_rfl
@[simp] theorem aggT_32 : aggT Tryz.prog 32 = some true := by kernel_rfl
@[simp] theorem slT_32 : slT Tryz.prog 32 = none := by kernel_rfl
@[simp] theorem arT_32 : arT Tryz.prog 32 = none := by kernel_rfl
@[simp] theorem stT_32 : stT Tryz.prog 32 = false := by kernel_rfl
@[simp] theorem boT_32 : boT Tryz.prog 32 = false := by kernel_rfl
@[simp] theorem inT_32 : inT Tryz.prog 32 = false := by kernel_rfl
@[simp] theorem zeT_32 : zeT Tryz.prog 32 = some [AV.val (Value.int IntKind.i64 0), AV.ro true [], AV.val (Value.int IntKind.i64 0), AV.val (Value.int IntKind.i64 0), AV.val (Value.bool false)] := by kernel_rfl
@[simp] theorem blT_32 : blT Tryz.prog 32 = true := by kernel_rfl
@[simp] theorem ptT_32 : ptT Tryz.prog 32 = none := by kernel_rfl
@[simp] theorem usT_32 : usT Tryz.prog 32 = false := by kernel_rfl
@[simp] theorem coT_32 : coT Tryz.prog 32 = true := by kernel_rfl
@[simp] theorem szT_36 : szT Tryz.prog 36 = some 1 := by kernel_rfl
@[simp] theorem byT_36 : byT Tryz.prog 36 = some 8 := by kernel_rfl
@[simp] theorem aggT_36 : aggT Tryz.prog 36 = some false := by kernel_rfl
@[simp] theorem slT_36 : slT Tryz.prog 36 = none := by kernel_rfl
@[simp] theorem arT_36 : arT Tryz.prog 36 = none := by kernel_rfl
@[simp] theorem stT_36 : stT Tryz.prog 36 = false := by kernel_rfl
@[simp] theorem boT_36 : boT Tryz.prog 36 = false := by kernel_rfl
@[simp] theorem inT_36 : inT Tryz.prog 36 = false := by kernel_rfl
@[simp] theorem zeT_36 : zeT Tryz.prog 36 = some [AV.val Value.nilFunc] := by kernel_rfl
@[simp] theorem ptT_36 : ptT Tryz.prog 36 = none := by kernel_rfl
@[simp] theorem usT_36 : usT Tryz.prog 36 = false := by kernel_rfl
@[simp] theorem coT_36 : coT Tryz.prog 36 = true := by kernel_rfl
@[simp] theorem szT_39 : szT Tryz.prog 39 = some 3 := by kernel_rfl
@[simp] theorem byT_39 : byT Tryz.prog 39 = some 40 := by kernel_rfl
@[simp] theorem aggT_39 : aggT Tryz.prog 39 = some true := by kernel_rfl
@[simp] theorem slT_39 : slT Tryz.prog 39 = none := by kernel_rfl
@[simp] theorem arT_39 : arT Tryz.prog 39 = none := by kernel_rfl
@[simp] theorem stT_39 : stT Tryz.prog 39 = false := by kernel_rfl
@[simp] theorem boT_39 : boT Tryz.prog 39 = false := by kernel_rfl
@[simp] theorem inT_39 : inT Tryz.prog 39 = false := by kernel_rfl
@[simp] theorem zeT_39 : zeT Tryz.prog 39 = some [AV.val (Value.int IntKind.i64 0), AV.val (Value.int IntKind.i64 0), AV.ro true []] := by kernel_rfl
@[simp] theorem blT_39 : blT Tryz.prog 39 = true := by kernel_rfl
@[simp] theorem ptT_39 : ptT Tryz.prog 39 = none := by kernel_rfl
@[simp] theorem usT_39 : usT Tryz.prog 39 = false := by kernel_rfl
@[simp] theorem coT_39 : coT Tryz.prog 39 = true := by kernel_rfl
@[simp] theorem szT_50 : szT Tryz.prog 50 = some 1 := by kernel_rfl
@[simp] theorem byT_50 : byT Tryz.prog 50 = some 24 := by kernel_rfl
@[simp] theorem aggT_50 : aggT Tryz.prog 50 = some false := by kernel_rfl
@[simp] theorem slT_50 : slT Tryz.prog 50 = some 66 := by kernel_rfl
@[simp] theorem arT_50 : arT Tryz.prog 50 = none := by kernel_rfl
@[simp] theorem stT_50 : stT Tryz.prog 50 = false := by kernel_rfl
@[simp] theorem boT_50 : boT Tryz.prog 50 = false := by kernel_rfl
@[simp] theorem inT_50 : inT Tryz.prog 50 = false := by kernel_rfl
@[simp] theorem zeT_50 : zeT Tryz.prog 50 = some [AV.ro true []] := by kernel_rfl
@[simp] theorem ptT_50 : ptT Tryz.prog 50 = none := by kernel_rfl
@[simp] theorem usT_50 : usT Tryz.prog 50 = false := by kernel_rfl
@[simp] theorem coT_50 : coT Tryz.prog 50 = true := by kernel_rfl
@[simp] theorem szT_52 : szT Tryz.prog 52 = some 5 := by kernel_rfl
@[simp] theorem byT_52 : byT Tryz.prog 52 = some 56 := by kernel_rfl
@[simp] theorem aggT_52 : aggT Tryz.prog 52 = some true := by kernel_rfl
@[simp] theorem slT_52 : slT Tryz.prog 52 = none := by kernel_rfl
@[simp] theorem arT_52 : arT Tryz.prog 52 = none := by kernel_rfl
@[simp] theorem stT_52 : stT Tryz.prog 52 = false := by kernel_rfl
@[simp] theorem boT_52 : boT Tryz.prog 52 = false := by kernel_rfl
@[simp] theorem inT_52 : inT Tryz.prog 52 = false := by kernel_rfl
@[simp] theorem zeT_52 : zeT Tryz.prog 52 = some [AV.val (Value.int IntKind.i64 0), AV.val (Value.int IntKind.i64 0), AV.val (Value.int IntKind.i64 0), AV.val (Value.int IntKind.i64 0), AV.ro true []] := by kernel_rfl
@[simp] theorem blT_52 : blT Tryz.prog 52 = true := by kernel_rfl
@[simp] theorem ptT_52 : ptT Tryz.prog 52 = none := by kernel_rfl
@[simp] theorem usT_52 : usT Tryz.prog 52 = false := by kernel_rfl
@[simp] theorem coT_52 : coT Tryz.prog 52 = true := by kernel_rfl
@[simp] theorem szT_54 : szT Tryz.prog 54 = some 1 := by kernel_rfl
@[simp] theorem byT_54 : byT Tryz.prog 54 = some 8 := by kernel_rfl
@[simp] theorem aggT_54 : aggT Tryz.prog 54 = some false := by kernel_rfl
@[simp] theorem slT_54 : slT Tryz.prog 54 = none := by kernel_rfl
@[simp] theorem arT_54 : arT Tryz.prog 54 = none := by kernel_rfl
@[simp] theorem stT_54 : stT Tryz.prog 54 = false := by kernel_rfl
@[simp] theorem boT_54 : boT Tryz.prog 54 = false := by kernel_rfl
@[simp] theorem inT_54 : inT Tryz.prog 54 = false := by kernel_rfl
@[simp] theorem zeT_54 : zeT Tryz.prog 54 = some [AV.val (Value.pointer none)] := by kernel_rfl
@[simp] theorem ptT_54 : ptT Tryz.prog 54 = some 58 := by kernel_rfl
@[simp] theorem usT_54 : usT Tryz.prog 54 = false := by kernel_rfl
@[simp] theorem coT_54 : coT Tryz.prog 54 = true := by kernel_rfl
@[simp] theorem szT_55 : szT Tryz.prog 55 = some 1 := by kernel_rfl
@[simp] theorem byT_55 : byT Tryz.prog 55 = some 8 := by kernel_rfl
@[simp] theorem aggT_55 : aggT Tryz.prog 55 = some false := by kernel_rfl
@[simp] theorem slT_55 : slT Tryz.prog 55 = none := by kernel_rfl
@[simp] theorem arT_55 : arT Tryz.prog 55 = none := by kernel_rfl
@[simp] theorem stT_55 : stT Tryz.prog 55 = false := by kernel_rfl
@[simp] theorem boT_55 : boT Tryz.prog 55 = false := by kernel_rfl
@[simp] theorem inT_55 : inT Tryz.prog 55 = false := by kernel_rfl
@[simp] theorem zeT_55 : zeT Tryz.prog 55 = some [AV.bad] := by kernel_rfl
@[simp] theorem ptT_55 : ptT Tryz.prog 55 = none := by kernel_rfl
@[simp] theorem usT_55 : usT Tryz.prog 55 = false := by kernel_rfl
@[simp] theorem mpT_55 : mpT Tryz.prog 55 = some 3 := by kernel_rfl
@[simp] theorem coT_55 : coT Tryz.prog 55 = true := by kernel_rfl
@[simp] theorem szT_56 : szT Tryz.prog 56 = some 1 := by kernel_rfl
@[simp] theorem byT_56 : byT Tryz.prog 56 = some 24 := by kernel_rfl
@[simp] theorem aggT_56 : aggT Tryz.prog 56 = some false := by kernel_rfl
@[simp] theorem slT_56 : slT Tryz.prog 56 = some 132 := by kernel_rfl
@[simp] theorem arT_56 : arT Tryz.prog 56 = none := by kernel_rfl
@[simp] theorem stT_56 : stT Tryz.prog 56 = false := by kernel_rfl
@[simp] theorem boT_56 : boT Tryz.prog 56 = false := by kernel_rfl
@[simp] theorem inT_56 : inT Tryz.prog 56 = false := by kernel_rfl
@[simp] theorem zeT_56 : zeT Tryz.prog 56 = some [AV.ro true []] := by kernel_rfl
@[simp] theorem ptT_56 : ptT Tryz.prog 56 = none := by kernel_rfl
@[simp] theorem usT_56 : usT Tryz.prog 56 = false := by kernel_rfl
@[simp] theorem coT_56 : coT Tryz.prog 56 = true := by kernel_rfl
@[simp] theorem szT_58 : szT Tryz.prog 58 = some 4 := by kernel_rfl
@[simp] theorem byT_58 : byT Tryz.prog 58 = some 80 := by kernel_rfl
@[simp] theorem aggT_58 : aggT Tryz.prog 58 = some true := by kernel_rfl
@[simp] theorem slT_58 : slT Tryz.prog 58 = none := by kernel_rfl
@[simp] theorem arT_58 : arT Tryz.prog 58 = none := by kernel_rfl
@[simp] theorem stT_58 : stT Tryz.prog 58 = false := by kernel_rfl
@[simp] theorem boT_58 : boT Tryz.prog 58 = false := by kernel_rfl
@[simp] theorem inT_58 : inT Tryz.prog 58 = false := by kernel_rfl
@[simp] theorem zeT_58 : zeT Tryz.prog 58 = some [AV.ro true [], AV.bad, AV.ro true [], AV.ro true []] := by kernel_rfl
@[simp] theorem blT_58 : blT Tryz.prog 58 = true := by kernel_rfl
@[simp] theorem ptT_58 : ptT Tryz.prog 58 = none := by kernel_rfl
@[simp] theorem usT_58 : usT Tryz.prog 58 = false := by kernel_rfl
@[simp] theorem coT_58 : coT Tryz.prog 58 = true := by kernel_rfl
@[simp] theorem szT_60 : szT Tryz.prog 60 = some 1 := by kernel_rfl
@[simp] theorem byT_60 : byT Tryz.prog 60 = some 8 := by kernel_rfl
@[simp] theorem aggT_60 : aggT Tryz.prog 60 = some false := by kernel_rfl
@[simp] theorem slT_60 : slT Tryz.prog 60 = none := by kernel_rfl
@[simp] theorem arT_60 : arT Tryz.prog 60 = none := by kernel_rfl
@[simp] theorem stT_60 : stT Tryz.prog 60 = false := by kernel_rfl
@[simp] theorem boT_60 : boT Tryz.prog 60 = false := by kernel_rfl
@[simp] theorem inT_60 : inT Tryz.prog 60 = false := by kernel_rfl
@[simp] theorem zeT_60 : zeT Tryz.prog 60 = some [AV.val Value.nilFunc] := by kernel_rfl
@[simp] theorem ptT_60 : ptT Tryz.prog 60 = none := by kernel_rfl
@[simp] theorem usT_60 : usT Tryz.prog 60 = false := by kernel_rfl
@[simp] theorem coT_60 : coT Tryz.prog 60 = true := by kernel_rfl
@[simp] theorem szT_66 : szT Tryz.prog 66 = some 1 := by kernel_rfl
@[simp] theorem byT_66 : byT Tryz.prog 66 = some 24 := by kernel_rfl
@[simp] theorem aggT_66 : aggT Tryz.prog 66 = some false := by kernel_rfl
@[simp] theorem slT_66 : slT Tryz.prog 66 = some 108 := by kernel_rfl
@[simp] theorem arT_66 : arT Tryz.prog 66 = none := by kernel_rfl
@[simp] theorem stT_66 : stT Tryz.prog 66 = false := by kernel_rfl
@[simp] theorem boT_66 : boT Tryz.prog 66 = false := by kernel_rfl
@[simp] theorem inT_66 : inT Tryz.prog 66 = false := by kernel_rfl
@[simp] theorem zeT_66 : zeT Tryz.prog 66 = some [AV.ro true []] := by kernel_rfl
@[simp] theorem ptT_66 : ptT Tryz.prog 66 = none := by kernel_rfl
@[simp] theorem usT_66 : usT Tryz.prog 66 = false := by kernel_rfl
@[simp] theorem coT_66 : coT Tryz.prog 66 = true := by kernel_rfl
@[simp] theorem szT_77 : szT Tryz.prog 77 = some 1 := by kernel_rfl
@[simp] theorem byT_77 : byT Tryz.prog 77 = some 8 := by kernel_rfl
@[simp] theorem aggT_77 : aggT Tryz.prog 77 = some false := by kernel_rfl
@[simp] theorem slT_77 : slT Tryz.prog 77 = none := by kernel_rfl
@[simp] theorem arT_77 : arT Tryz.prog 77 = none := by kernel_rfl
@[simp] theorem stT_77 : stT Tryz.prog 77 = false := by kernel_rfl
@[simp] theorem boT_77 : boT Tryz.prog 77 = false := by kernel_rfl
@[simp] theorem inT_77 : inT Tryz.prog 77 = false := by kernel_rfl
@[simp] theorem zeT_77 : zeT Tryz.prog 77 = some [AV.val (Value.pointer none)] := by kernel_rfl
@[simp] theorem ptT_77 : ptT Tryz.prog 77 = some 32 := by kernel_rfl
@[simp] theorem usT_77 : usT Tryz.prog 77 = false := by kernel_rfl
@[simp] theorem coT_77 : coT Tryz.prog 77 = true := by kernel_rfl
@[simp] theorem szT_96 : szT Tryz.prog 96 = some 1 := by kernel_rfl
@[simp] theorem byT_96 : byT Tryz.prog 96 = some 24 := by kernel_rfl
@[simp] theorem aggT_96 : aggT Tryz.prog 96 = some false := by kernel_rfl
@[simp] theorem slT_96 : slT Tryz.prog 96 = some 154 := by kernel_rfl
@[simp] theorem arT_96 : arT Tryz.prog 96 = none := by kernel_rfl
@[simp] theorem stT_96 : stT Tryz.prog 96 = false := by kernel_rfl
@[simp] theorem boT_96 : boT Tryz.prog 96 = false := by kernel_rfl
@[simp] theorem inT_96 : inT Tryz.prog 96 = false := by kernel_rfl
@[simp] theorem zeT_96 : zeT Tryz.prog 96 = some [AV.ro true []] := by kernel_rfl
@[simp] theorem ptT_96 : ptT Tryz.prog 96 = none := by kernel_rfl
@[simp] theorem usT_96 : usT Tryz.prog 96 = false := by kernel_rfl
@[simp] theorem coT_96 : coT Tryz.prog 96 = true := by kernel_rfl
@[simp] theorem szT_100 : szT Tryz.prog 100 = some 1 := by kernel_rfl
@[simp] theorem byT_100 : byT Tryz.prog 100 = some 8 := by kernel_rfl
@[simp] theorem aggT_100 : aggT Tryz.prog 100 = some false := by kernel_rfl
@[simp] theorem slT_100 : slT Tryz.prog 100 = none := by kernel_rfl
@[simp] theorem arT_100 : arT Tryz.prog 100 = none := by kernel_rfl
@[simp] theorem stT_100 : stT Tryz.prog 100 = false := by kernel_rfl
@[simp] theorem boT_100 : boT Tryz.prog 100 = false := by kernel_rfl
@[simp] theorem inT_100 : inT Tryz.prog 100 = false := by kernel_rfl
@[simp] theorem zeT_100 : zeT Tryz.prog 100 = some [AV.val (Value.pointer none)] := by kernel_rfl
@[simp] theorem ptT_100 : ptT Tryz.prog 100 = some 103 := by kernel_rfl
@[simp] theorem usT_100 : usT Tryz.prog 100 = false := by kernel_rfl
@[simp] theorem coT_100 : coT Tryz.prog 100 = true := by kernel_rfl
@[simp] theorem szT_103 : szT Tryz.prog 103 = some 3 := by kernel_rfl
@[simp] theorem byT_103 : byT Tryz.prog 103 = some 56 := by kernel_rfl
@[simp] theorem aggT_103 : aggT Tryz.prog 103 = some true := by kernel_rfl
@[simp] theorem slT_103 : slT Tryz.prog 103 = none := by kernel_rfl
@[simp] theorem arT_103 : arT Tryz.prog 103 = none := by kernel_rfl
@[simp] theorem stT_103 : stT Tryz.prog 103 = false := by kernel_rfl
@[simp] theorem boT_103 : boT Tryz.prog 103 = false := by kernel_rfl
@[simp] theorem inT_103 : inT Tryz.prog 103 = false := by kernel_rfl
@[simp] theorem zeT_103 : zeT Tryz.prog 103 = some [AV.ro true [], AV.ro true [], AV.val (Value.int IntKind.i64 0)] := by kernel_rfl
@[simp] theorem blT_103 : blT Tryz.prog 103 = true := by kernel_rfl
@[simp] theorem ptT_103 : ptT Tryz.prog 103 = none := by kernel_rfl
@[simp] theorem usT_103 : usT Tryz.prog 103 = false := by kernel_rfl
@[simp] theorem coT_103 : coT Tryz.prog 103 = true := by kernel_rfl
@[simp] theorem szT_108 : szT Tryz.prog 108 = some 2 := by kernel_rfl
@[simp] theorem byT_108 : byT Tryz.prog 108 = some 16 := by kernel_rfl
@[simp] theorem aggT_108 : aggT Tryz.prog 108 = some true := by kernel_rfl
@[simp] theorem slT_108 : slT Tryz.prog 108 = none := by kernel_rfl
@[simp] theorem arT_108 : arT Tryz.prog 108 = none := by kernel_rfl
@[simp] theorem stT_108 : stT Tryz.prog 108 = false := by kernel_rfl
@[simp] theorem boT_108 : boT Tryz.prog 108 = false := by kernel_rfl
@[simp] theorem inT_108 : inT Tryz.prog 108 = true := by kernel_rfl
@[simp] theorem zeT_108 : zeT Tryz.prog 108 = some [AV.val (Value.int IntKind.i64 0), AV.val (Value.int IntKind.i64 0)] := by kernel_rfl
@[simp] theorem blT_108 : blT Tryz.prog 108 = true := by kernel_rfl
@[simp] theorem ptT_108 : ptT Tryz.prog 108 = none := by kernel_rfl
@[simp] theorem usT_108 : usT Tryz.prog 108 = false := by kernel_rfl
@[simp] theorem coT_108 : coT Tryz.prog 108 = true := by kernel_rfl
@[simp] theorem szT_112 : szT Tryz.prog 112 = some 1 := by kernel_rfl
@[simp] theorem byT_112 : byT Tryz.prog 112 = some 8 := by kernel_rfl
@[simp] theorem aggT_112 : aggT Tryz.prog 112 = some false := by kernel_rfl
@[simp] theorem slT_112 : slT Tryz.prog 112 = none := by kernel_rfl
@[simp] theorem arT_112 : arT Tryz.prog 112 = none := by kernel_rfl
@[simp] theorem stT_112 : stT Tryz.prog 112 = false := by kernel_rfl
@[simp] theorem boT_112 : boT Tryz.prog 112 = false := by kernel_rfl
@[simp] theorem inT_112 : inT Tryz.prog 112 = false := by kernel_rfl
@[simp] theorem zeT_112 : zeT Tryz.prog 112 = some [AV.val (Value.pointer none)] := by kernel_rfl
@[simp] theorem ptT_112 : ptT Tryz.prog 112 = some 115 := by kernel_rfl
@[simp] theorem usT_112 : usT Tryz.prog 112 = false := by kernel_rfl
@[simp] theorem coT_112 : coT Tryz.prog 112 = true := by kernel_rfl
@[simp] theorem szT_113 : szT Tryz.prog 113 = some 1 := by kernel_rfl
@[simp] theorem byT_113 : byT Tryz.prog 113 = some 24 := by kernel_rfl
@[simp] theorem aggT_113 : aggT Tryz.prog 113 = some false := by kernel_rfl
@[simp] theorem slT_113 : slT Tryz.prog 113 = some 5 := by kernel_rfl
@[simp] theorem arT_113 : arT Tryz.prog 113 = none := by kernel_rfl
@[simp] theorem stT_113 : stT Tryz.prog 113 = false := by kernel_rfl
@[simp] theorem boT_113 : boT Tryz.prog 113 = false := by kernel_rfl
@[simp] theorem inT_113 : inT Tryz.prog 113 = false := by kernel_rfl
@[simp] theorem zeT_113 : zeT Tryz.prog 113 = some [AV.ro true []] := by kernel_rfl
@[simp] theorem ptT_113 : ptT Tryz.prog 113 = none := by kernel_rfl
@[simp] theorem usT_113 : usT Tryz.prog 113 = false := by kernel_rfl
@[simp] theorem coT_113 : coT Tryz.prog 113 = true := by kernel_rfl
@[simp] theorem szT_115 : szT Tryz.prog 115 = some 2 := by kernel_rfl
@[simp] theorem byT_115 : byT Tryz.prog 115 = some 32 := by kernel_rfl
@[simp] theorem aggT_115 : aggT Tryz.prog 115 = some true := by kernel_rfl
@[simp] theorem slT_115 : slT Tryz.prog 115 = none := by kernel_rfl
@[simp] theorem arT_115 : arT Tryz.prog 115 = none := by kernel_rfl
@[simp] theorem stT_115 : stT Tryz.prog 115 = false := by kernel_rfl
@[simp] theorem boT_115 : boT Tryz.prog 115 = false := by kernel_rfl
@[simp] theorem inT_115 : inT Tryz.prog 115 = false := by kernel_rfl
@[simp] theorem zeT_115 : zeT Tryz.prog 115 = some [AV.val (Value.pointer none), AV.ro true []] := by kernel_rfl
@[simp] theorem blT_115 : blT Tryz.prog 115 = true := by kernel_rfl
@[simp] theorem ptT_115 : ptT Tryz.prog 115 = none := by kernel_rfl
@[simp] theorem usT_115 : usT Tryz.prog 115 = false := by kernel_rfl
@[simp] theorem coT_115 : coT Tryz.prog 115 = true := by kernel_rfl
@[simp] theorem szT_118 : szT Tryz.prog 118 = some 1 := by kernel_rfl
@[simp] theorem byT_118 : byT Tryz.prog 118 = some 16 := by kernel_rfl
@[simp] theorem aggT_118 : aggT Tryz.prog 118 = some false := by kernel_rfl
@[simp] theorem slT_118 : slT Tryz.prog 118 = none := by kernel_rfl
@[simp] theorem arT_118 : arT Tryz.prog 118 = none := by kernel_rfl
@[simp] theorem stT_118 : stT Tryz.prog 118 = false := by kernel_rfl
@[simp] theorem boT_118 : boT Tryz.prog 118 = false := by kernel_rfl
@[simp] theorem inT_118 : inT Tryz.prog 118 = false := by kernel_rfl
@[simp] theorem zeT_118 : zeT Tryz.prog 118 = some [AV.val Value.nilIface] := by kernel_rfl
@[simp] theorem ptT_118 : ptT Tryz.prog 118 = none := by kernel_rfl
@[simp] theorem usT_118 : usT Tryz.prog 118 = false := by kernel_rfl
@[simp] theorem ifT_118 : ifT Tryz.prog 118 = true := by kernel_rfl
@[simp] theorem szT_126 : szT Tryz.prog 126 = some 256 := by kernel_rfl
@[simp] theorem byT_126 : byT Tryz.prog 126 = some 256 := by kernel_rfl
@[simp] theorem aggT_126 : aggT Tryz.prog 126 = some true := by kernel_rfl
@[simp] theorem slT_126 : slT Tryz.prog 126 = none := by kernel_rfl
@[simp] theorem arT_126 : arT Tryz.prog 126 = some (256, 4) := by kernel_rfl
@[simp] theorem stT_126 : stT Tryz.prog 126 = false := by kernel_rfl
@[simp] theorem boT_126 : boT Tryz.prog 126 = false := by kernel_rfl
@[simp] theorem inT_126 : inT Tryz.prog 126 = false := by kernel_rfl
@[simp] theorem ptT_126 : ptT Tryz.prog 126 = none := by kernel_rfl
@[simp] theorem usT_126 : usT Tryz.prog 126 = false := by kernel_rfl
@[simp] theorem coT_126 : coT Tryz.prog 126 = true := by kernel_rfl
@[simp] theorem szT_130 : szT Tryz.prog 130 = some 1 := by kernel_rfl
@[simp] theorem byT_130 : byT Tryz.prog 130 = some 8 := by kernel_rfl
@[simp] theorem aggT_130 : aggT Tryz.prog 130 = some false := by kernel_rfl
@[simp] theorem slT_130 : slT Tryz.prog 130 = none := by kernel_rfl
@[simp] theorem arT_130 : arT Tryz.prog 130 = none := by kernel_rfl
@[simp] theorem stT_130 : stT Tryz.prog 130 = false := by kernel_rfl
@[simp] theorem boT_130 : boT Tryz.prog 130 = false := by kernel_rfl
@[simp] theorem inT_130 : inT Tryz.prog 130 = false := by kernel_rfl
@[simp] theorem zeT_130 : zeT Tryz.prog 130 = some [AV.val (Value.pointer none)] := by kernel_rfl
@[simp] theorem ptT_130 : ptT Tryz.prog 130 = some 126 := by kernel_rfl
@[simp] theorem usT_130 : usT Tryz.prog 130 = false := by kernel_rfl
@[simp] theorem coT_130 : coT Tryz.prog 130 = true := by kernel_rfl
@[simp] theorem szT_132 : szT Tryz.prog 132 = some 1 := by kernel_rfl
@[simp] theorem byT_132 : byT Tryz.prog 132 = some 8 := by kernel_rfl
@[simp] theorem aggT_132 : aggT Tryz.prog 132 = some false := by kernel_rfl
@[simp] theorem slT_132 : slT Tryz.prog 132 = none := by kernel_rfl
@[simp] theorem arT_132 : arT Tryz.prog 132 = none := by kernel_rfl
@[simp] theorem stT_132 : stT Tryz.prog 132 = false := by kernel_rfl
@[simp] theorem boT_132 : boT Tryz.prog 132 = false := by kernel_rfl
@[simp] theorem inT_132 : inT Tryz.prog 132 = false := by kernel_rfl
@[simp] theorem zeT_132 : zeT Tryz.prog 132 = some [AV.val (Value.pointer none)] := by kernel_rfl
@[simp] theorem ptT_132 : ptT Tryz.prog 132 = some 134 := by kernel_rfl
@[simp] theorem usT_132 : usT Tryz.prog 132 = false := by kernel_rfl
@[simp] theorem coT_132 : coT Tryz.prog 132 = true := by kernel_rfl
@[simp] theorem szT_134 : szT Tryz.prog 134 = some 3 := by kernel_rfl
@[simp] theorem byT_134 : byT Tryz.prog 134 = some 24 := by kernel_rfl
@[simp] theorem aggT_134 : aggT Tryz.prog 134 = some true := by kernel_rfl
@[simp] theorem slT_134 : slT Tryz.prog 134 = none := by kernel_rfl
@[simp] theorem arT_134 : arT Tryz.prog 134 = none := by kernel_rfl
@[simp] theorem stT_134 : stT Tryz.prog 134 = false := by kernel_rfl
@[simp] theorem boT_134 : boT Tryz.prog 134 = false := by kernel_rfl
@[simp] theorem inT_134 : inT Tryz.prog 134 = false := by kernel_rfl
@[simp] theorem zeT_134 : zeT Tryz.prog 134 = some [AV.val (Value.int IntKind.i64 0), AV.val (Value.int IntKind.i64 0), AV.val (Value.bool false)] := by kernel_rfl
@[simp] theorem blT_134 : blT Tryz.prog 134 = true := by kernel_rfl
@[simp] theorem ptT_134 : ptT Tryz.prog 134 = none := by kernel_rfl
@[simp] theorem usT_134 : usT Tryz.prog 134 = false := by kernel_rfl
@[simp] theorem coT_134 : coT Tryz.prog 134 = true := by kernel_rfl
@[simp] theorem szT_143 : szT Tryz.prog 143 = some 1 := by kernel_rfl
@[simp] theorem byT_143 : byT Tryz.prog 143 = some 24 := by kernel_rfl
@[simp] theorem aggT_143 : aggT Tryz.prog 143 = some false := by kernel_rfl
@[simp] theorem slT_143 : slT Tryz.prog 143 = some 202 := by kernel_rfl
@[simp] theorem arT_143 : arT Tryz.prog 143 = none := by kernel_rfl
@[simp] theorem stT_143 : stT Tryz.prog 143 = false := by kernel_rfl
@[simp] theorem boT_143 : boT Tryz.prog 143 = false := by kernel_rfl
@[simp] theorem inT_143 : inT Tryz.prog 143 = false := by kernel_rfl
@[simp] theorem zeT_143 : zeT Tryz.prog 143 = some [AV.ro true []] := by kernel_rfl
@[simp] theorem ptT_143 : ptT Tryz.prog 143 = none := by kernel_rfl
@[simp] theorem usT_143 : usT Tryz.prog 143 = false := by kernel_rfl
@[simp] theorem coT_143 : coT Tryz.prog 143 = true := by kernel_rfl
@[simp] theorem szT_144 : szT Tryz.prog 144 = some 1 := by kernel_rfl
@[simp] theorem byT_144 : byT Tryz.prog 144 = some 24 := by kernel_rfl
@[simp] theorem aggT_144 : aggT Tryz.prog 144 = some false := by kernel_rfl
@[simp] theorem slT_144 : slT Tryz.prog 144 = some 206 := by kernel_rfl
@[simp] theorem arT_144 : arT Tryz.prog 144 = none := by kernel_rfl
@[simp] theorem stT_144 : stT Tryz.prog 144 = false := by kernel_rfl
@[simp] theorem boT_144 : boT Tryz.prog 144 = false := by kernel_rfl
@[simp] theorem inT_144 : inT Tryz.prog 144 = false := by kernel_rfl
@[simp] theorem zeT_144 : zeT Tryz.prog 144 = some [AV.ro true []] := by kernel_rfl
@[simp] theorem ptT_144 : ptT Tryz.prog 144 = none := by kernel_rfl
@[simp] theorem usT_144 : usT Tryz.prog 144 = false := by kernel_rfl
@[simp] theorem coT_144 : coT Tryz.prog 144 = true := by kernel_rfl
@[simp] theorem szT_145 : szT Tryz.prog 145 = some 1 := by kernel_rfl
@[simp] theorem byT_145 : byT Tryz.prog 145 = some 24 := by kernel_rfl
@[simp] theorem aggT_145 : aggT Tryz.prog 145 = some false := by kernel_rfl
@[simp] theorem slT_145 : slT Tryz.prog 145 = some 210 := by kernel_rfl
@[simp] theorem arT_145 : arT Tryz.prog 145 = none := by kernel_rfl
@[simp] theorem stT_145 : stT Tryz.prog 145 = false := by kernel_rfl
@[simp] theorem boT_145 : boT Tryz.prog 145 = false := by kernel_rfl
@[simp] theorem inT_145 : inT Tryz.prog 145 = false := by kernel_rfl
@[simp] theorem zeT_145 : zeT Tryz.prog 145 = some [AV.ro true []] := by kernel_rfl
@[simp] theorem ptT_145 : ptT Tryz.prog 145 = none := by kernel_rfl
@[simp] theorem usT_145 : usT Tryz.prog 145 = false := by kernel_rfl
@[simp] theorem coT_145 : coT Tryz.prog 145 = true := by kernel_rfl
@[simp] theorem szT_146 : szT Tryz.prog 146 = some 1 := by kernel_rfl
@[simp] theorem byT_146 : byT Tryz.prog 146 = some 24 := by kernel_rfl
@[simp] theorem aggT_146 : aggT Tryz.prog 146 = some false := by kernel_rfl
@[simp] theorem slT_146 : slT Tryz.prog 146 = some 212 := by kernel_rfl
@[simp] theorem arT_146 : arT Tryz.prog 146 = none := by kernel_rfl
@[simp] theorem stT_146 : stT Tryz.prog 146 = false := by kernel_rfl
@[simp] theorem boT_146 : boT Tryz.prog 146 = false := by kernel_rfl
@[simp] theorem inT_146 : inT Tryz.prog 146 = false := by kernel_rfl
@[simp] theorem zeT_146 : zeT Tryz.prog 146 = some [AV.ro true []] := by kernel_rfl
@[simp] theorem ptT_146 : ptT Tryz.prog 146 = none := by kernel_rfl
@[simp] theorem usT_146 : usT Tryz.prog 146 = false := by kernel_rfl
@[simp] theorem coT_146 : coT Tryz.prog 146 = true := by kernel_rfl
@[simp] theorem szT_148 : szT Tryz.prog 148 = some 5 := by kernel_rfl
@[simp] theorem byT_148 : byT Tryz.prog 148 = some 120 := by kernel_rfl
@[simp] theorem aggT_148 : aggT Tryz.prog 148 = some true := by kernel_rfl
@[simp] theorem slT_148 : slT Tryz.prog 148 = none := by kernel_rfl
@[simp] theorem arT_148 : arT Tryz.prog 148 = none := by kernel_rfl
@[simp] theorem stT_148 : stT Tryz.prog 148 = false := by kernel_rfl
@[simp] theorem boT_148 : boT Tryz.prog 148 = false := by kernel_rfl
@[simp] theorem inT_148 : inT Tryz.prog 148 = false := by kernel_rfl
@[simp] theorem zeT_148 : zeT Tryz.prog 148 = some [AV.ro true [], AV.ro true [], AV.ro true [], AV.ro true [], AV.ro true []] := by kernel_rfl
@[simp] theorem blT_148 : blT Tryz.prog 148 = true := by kernel_rfl
@[simp] theorem ptT_148 : ptT Tryz.prog 148 = none := by kernel_rfl
@[simp] theorem usT_148 : usT Tryz.prog 148 = false := by kernel_rfl
@[simp] theorem coT_148 : coT Tryz.prog 148 = true := by kernel_rfl
@[simp] theorem szT_152 : szT Tryz.prog 152 = some 1 := by kernel_rfl
@[simp] theorem byT_152 : byT Tryz.prog 152 = some 8 := by kernel_rfl
@[simp] theorem aggT_152 : aggT Tryz.prog 152 = some false := by kernel_rfl
@[simp] theorem slT_152 : slT Tryz.prog 152 = none := by kernel_rfl
@[simp] theorem arT_152 : arT Tryz.prog 152 = none := by kernel_rfl
@[simp] theorem stT_152 : stT Tryz.prog 152 = false := by kernel_rfl
@[simp] theorem boT_152 : boT Tryz.prog 152 = false := by kernel_rfl
@[simp] theorem inT_152 : inT Tryz.prog 152 = false := by kernel_rfl
@[simp] theorem zeT_152 : zeT Tryz.prog 152 = some [AV.val Value.nilFunc] := by kernel_rfl
@[simp] theorem ptT_152 : ptT Tryz.prog 152 = none := by kernel_rfl
@[simp] theorem usT_152 : usT Tryz.prog 152 = false := by kernel_rfl
@[simp] theorem coT_152 : coT Tryz.prog 152 = true := by kernel_rfl
@[simp] theorem szT_154 : szT Tryz.prog 154 = some 3 := by kernel_rfl
@[simp] theorem byT_154 : byT Tryz.prog 154 = some 48 := by kernel_rfl
@[simp] theorem aggT_154 : aggT Tryz.prog 154 = some true := by kernel_rfl
@[simp] theorem slT_154 : slT Tryz.prog 154 = none := by kernel_rfl
@[simp] theorem arT_154 : arT Tryz.prog 154 = none := by kernel_rfl
@[simp] theorem stT_154 : stT Tryz.prog 154 = false := by kernel_rfl
@[simp] theorem boT_154 : boT Tryz.prog 154 = false := by kernel_rfl
@[simp] theorem inT_154 : inT Tryz.prog 154 = false := by kernel_rfl
@[simp] theorem zeT_154 : zeT Tryz.prog 154 = some [AV.val (Value.string { data := { toList := [] } }), AV.val (Value.int IntKind.i64 0), AV.ro true []] := by kernel_rfl
@[simp] theorem blT_154 : blT Tryz.prog 154 = true := by kernel_rfl
@[simp] theorem ptT_154 : ptT Tryz.prog 154 = none := by kernel_rfl
@[simp] theorem usT_154 : usT Tryz.prog 154 = false := by kernel_rfl
@[simp] theorem coT_154 : coT Tryz.prog 154 = true := by kernel_rfl
@[simp] theorem szT_159 : szT Tryz.prog 159 = some 1 := by kernel_rfl
@[simp] theorem byT_159 : byT Tryz.prog 159 = some 8 := by kernel_rfl
@[simp] theorem aggT_159 : aggT Tryz.prog 159 = some false := by kernel_rfl
@[simp] theorem slT_159 : slT Tryz.prog 159 = none := by kernel_rfl
@[simp] theorem arT_159 : arT Tryz.prog 159 = none := by kernel_rfl
@[simp] theorem stT_159 : stT Tryz.prog 159 = false := by kernel_rfl
@[simp] theorem boT_159 : boT Tryz.prog 159 = false := by kernel_rfl
@[simp] theorem inT_159 : inT Tryz.prog 159 = false := by kernel_rfl
@[simp] theorem zeT_159 : zeT Tryz.prog 159 = some [AV.val (Value.pointer none)] := by kernel_rfl
@[simp] theorem ptT_159 : ptT Tryz.prog 159 = some 5 := by kernel_rfl
@[simp] theorem usT_159 : usT Tryz.prog 159 = false := by kernel_rfl
@[simp] theorem coT_159 : coT Tryz.prog 159 = true := by kernel_rfl
@[simp] theorem szT_182 : szT Tryz.prog 182 = some 1 := by kernel_rfl
@[simp] theorem byT_182 : byT Tryz.prog 182 = some 8 := by kernel_rfl
@[simp] theorem aggT_182 : aggT Tryz.prog 182 = some false := by kernel_rfl
@[simp] theorem slT_182 : slT Tryz.prog 182 = none := by kernel_rfl
@[simp] theorem arT_182 : arT Tryz.prog 182 = none := by kernel_rfl
@[simp] theorem stT_182 : stT Tryz.prog 182 = false := by kernel_rfl
@[simp] theorem boT_182 : boT Tryz.prog 182 = false := by kernel_rfl
@[simp] theorem inT_182 : inT Tryz.prog 182 = false := by kernel_rfl
@[simp] theorem zeT_182 : zeT Tryz.prog 182 = some [AV.val (Value.pointer none)] := by kernel_rfl
@[simp] theorem ptT_182 : ptT Tryz.prog 182 = none := by kernel_rfl
@[simp] theorem usT_182 : usT Tryz.prog 182 = true := by kernel_rfl
@[simp] theorem coT_182 : coT Tryz.prog 182 = true := by kernel_rfl
@[simp] theorem szT_196 : szT Tryz.prog 196 = some 1 := by kernel_rfl
@[simp] theorem byT_196 : byT Tryz.prog 196 = some 24 := by kernel_rfl
@[simp] theorem aggT_196 : aggT Tryz.prog 196 = some false := by kernel_rfl
@[simp] theorem slT_196 : slT Tryz.prog 196 = some 27 := by kernel_rfl
@[simp] theorem arT_196 : arT Tryz.prog 196 = none := by kernel_rfl
@[simp] theorem stT_196 : stT Tryz.prog 196 = false := by kernel_rfl
@[simp] theorem boT_196 : boT Tryz.prog 196 = false := by kernel_rfl
@[simp] theorem inT_196 : inT Tryz.prog 196 = false := by kernel_rfl
@[simp] theorem zeT_196 : zeT Tryz.prog 196 = some [AV.ro true []] := by kernel_rfl
@[simp] theorem ptT_196 : ptT Tryz.prog 196 = none := by kernel_rfl
@[simp] theorem usT_196 : usT Tryz.prog 196 = false := by kernel_rfl
@[simp] theorem coT_196 : coT Tryz.prog 196 = true := by kernel_rfl
@[simp] theorem szT_200 : szT Tryz.prog 200 = some 1 := by kernel_rfl
@[simp] theorem byT_200 : byT Tryz.prog 200 = some 8 := by kernel_rfl
@[simp] theorem aggT_200 : aggT Tryz.prog 200 = some false := by kernel_rfl
@[simp] theorem slT_200 : slT Tryz.prog 200 = none := by kernel_rfl
@[simp] theorem arT_200 : arT Tryz.prog 200 = none := by kernel_rfl
@[simp] theorem stT_200 : stT Tryz.prog 200 = false := by kernel_rfl
@[simp] theorem boT_200 : boT Tryz.prog 200 = false := by kernel_rfl
@[simp] theorem inT_200 : inT Tryz.prog 200 = false := by kernel_rfl
@[simp] theorem zeT_200 : zeT Tryz.prog 200 = some [AV.val Value.nilFunc] := by kernel_rfl
@[simp] theorem ptT_200 : ptT Tryz.prog 200 = none := by kernel_rfl
@[simp] theorem usT_200 : usT Tryz.prog 200 = false := by kernel_rfl
@[simp] theorem coT_200 : coT Tryz.prog 200 = true := by kernel_rfl
@[simp] theorem szT_202 : szT Tryz.prog 202 = some 4 := by kernel_rfl
@[simp] theorem byT_202 : byT Tryz.prog 202 = some 40 := by kernel_rfl
@[simp] theorem aggT_202 : aggT Tryz.prog 202 = some true := by kernel_rfl
@[simp] theorem slT_202 : slT Tryz.prog 202 = none := by kernel_rfl
@[simp] theorem arT_202 : arT Tryz.prog 202 = none := by kernel_rfl
@[simp] theorem stT_202 : stT Tryz.prog 202 = false := by kernel_rfl
@[simp] theorem boT_202 : boT Tryz.prog 202 = false := by kernel_rfl
@[simp] theorem inT_202 : inT Tryz.prog 202 = false := by kernel_rfl
@[simp] theorem zeT_202 : zeT Tryz.prog 202 = some [AV.val (Value.string { data := { toList := [] } }), AV.val (Value.int IntKind.i64 0), AV.val (Value.int IntKind.i64 0), AV.val (Value.int IntKind.i64 0)] := by kernel_rfl
@[simp] theorem blT_202 : blT Tryz.prog 202 = true := by kernel_rfl
@[simp] theorem ptT_202 : ptT Tryz.prog 202 = none := by kernel_rfl
@[simp] theorem usT_202 : usT Tryz.prog 202 = false := by kernel_rfl
@[simp] theorem coT_202 : coT Tryz.prog 202 = true := by kernel_rfl
@[simp] theorem szT_204 : szT Tryz.prog 204 = some 1 := by kernel_rfl
@[simp] theorem byT_204 : byT Tryz.prog 204 = some 24 := by kernel_rfl
@[simp] theorem aggT_204 : aggT Tryz.prog 204 = some false := by kernel_rfl
@[simp] theorem slT_204 : slT Tryz.prog 204 = some 215 := by kernel_rfl
@[simp] theorem arT_204 : arT Tryz.prog 204 = none := by kernel_rfl
@[simp] theorem stT_204 : stT Tryz.prog 204 = false := by kernel_rfl
@[simp] theorem boT_204 : boT Tryz.prog 204 = false := by kernel_rfl
@[simp] theorem inT_204 : inT Tryz.prog 204 = false := by kernel_rfl
@[simp] theorem zeT_204 : zeT Tryz.prog 204 = some [AV.ro true []] := by kernel_rfl
@[simp] theorem ptT_204 : ptT Tryz.prog 204 = none := by kernel_rfl
@[simp] theorem usT_204 : usT Tryz.prog 204 = false := by kernel_rfl
@[simp] theorem coT_204 : coT Tryz.prog 204 = true := by kernel_rfl
@[simp] theorem szT_206 : szT Tryz.prog 206 = some 3 := by kernel_rfl
@[simp] theorem byT_206 : byT Tryz.prog 206 = some 64 := by kernel_rfl
@[simp] theorem aggT_206 : aggT Tryz.prog 206 = some true := by kernel_rfl
@[simp] theorem slT_206 : slT Tryz.prog 206 = none := by kernel_rfl
@[simp] theorem arT_206 : arT Tryz.prog 206 = none := by kernel_rfl
@[simp] theorem stT_206 : stT Tryz.prog 206 = false := by kernel_rfl
@[simp] theorem boT_206 : boT Tryz.prog 206 = false := by kernel_rfl
@[simp] theorem inT_206 : inT Tryz.prog 206 = false := by kernel_rfl
@[simp] theorem zeT_206 : zeT Tryz.prog 206 = some [AV.val (Value.string { data := { toList := [] } }), AV.ro true [], AV.ro true []] := by kernel_rfl
@[simp] theorem blT_206 : blT Tryz.prog 206 = true := by kernel_rfl
@[simp] theorem ptT_206 : ptT Tryz.prog 206 = none := by kernel_rfl
@[simp] theorem usT_206 : usT Tryz.prog 206 = false := by kernel_rfl
@[simp] theorem coT_206 : coT Tryz.prog 206 = true := by kernel_rfl
@[simp] theorem szT_208 : szT Tryz.prog 208 = some 1 := by kernel_rfl
@[simp] theorem byT_208 : byT Tryz.prog 208 = some 8 := by kernel_rfl
@[simp] theorem aggT_208 : aggT Tryz.prog 208 = some false := by kernel_rfl
@[simp] theorem slT_208 : slT Tryz.prog 208 = none := by kernel_rfl
@[simp] theorem arT_208 : arT Tryz.prog 208 = none := by kernel_rfl
@[simp] theorem stT_208 : stT Tryz.prog 208 = false := by kernel_rfl
@[simp] theorem boT_208 : boT Tryz.prog 208 = false := by kernel_rfl
@[simp] theorem inT_208 : inT Tryz.prog 208 = false := by kernel_rfl
@[simp] theorem zeT_208 : zeT Tryz.prog 208 = some [AV.bad] := by kernel_rfl
@[simp] theorem ptT_208 : ptT Tryz.prog 208 = none := by kernel_rfl
@[simp] theorem usT_208 : usT Tryz.prog 208 = false := by kernel_rfl
@[simp] theorem mpT_208 : mpT Tryz.prog 208 = some 4 := by kernel_rfl
@[simp] theorem coT_208 : coT Tryz.prog 208 = true := by kernel_rfl
@[simp] theorem szT_210 : szT Tryz.prog 210 = some 4 := by kernel_rfl
@[simp] theorem byT_210 : byT Tryz.prog 210 = some 40 := by kernel_rfl
@[simp] theorem aggT_210 : aggT Tryz.prog 210 = some true := by kernel_rfl
@[simp] theorem slT_210 : slT Tryz.prog 210 = none := by kernel_rfl
@[simp] theorem arT_210 : arT Tryz.prog 210 = none := by kernel_rfl
@[simp] theorem stT_210 : stT Tryz.prog 210 = false := by kernel_rfl
@[simp] theorem boT_210 : boT Tryz.prog 210 = false := by kernel_rfl
@[simp] theorem inT_210 : inT Tryz.prog 210 = false := by kernel_rfl
@[simp] theorem zeT_210 : zeT Tryz.prog 210 = some [AV.val (Value.string { data := { toList := [] } }), AV.val (Value.int IntKind.i64 0), AV.val (Value.int IntKind.i64 0), AV.val (Value.int IntKind.i64 0)] := by kernel_rfl
@[simp] theorem blT_210 : blT Tryz.prog 210 = true := by kernel_rfl
@[simp] theorem ptT_210 : ptT Tryz.prog 210 = none := by kernel_rfl
@[simp] theorem usT_210 : usT Tryz.prog 210 = false := by kernel_rfl
@[simp] theorem coT_210 : coT Tryz.prog 210 = true := by kernel_rfl
@[simp] theorem szT_212 : szT Tryz.prog 212 = some 14 := by kernel_rfl
@[simp] theorem byT_212 : byT Tryz.prog 212 = some 120 := by kernel_rfl
@[simp] theorem aggT_212 : aggT Tryz.prog 212 = some true := by kernel_rfl
@[simp] theorem slT_212 : slT Tryz.prog 212 = none := by kernel_rfl
@[simp] theorem arT_212 : arT Tryz.prog 212 = none := by kernel_rfl
@[simp] theorem stT_212 : stT Tryz.prog 212 = false := by kernel_rfl
@[simp] theorem boT_212 : boT Tryz.prog 212 = false := by kernel_rfl
@[simp] theorem inT_212 : inT Tryz.prog 212 = false := by kernel_rfl
@[simp] theorem zeT_212 : zeT Tryz.prog 212 = some [AV.val (Value.string { data := { toList := [] } }), AV.val (Value.int IntKind.i64 0), AV.val (Value.int IntKind.i64 0), AV.val (Value.int IntKind.i64 0), AV.val (Value.int IntKind.i64 0), AV.val (Value.int IntKind.i64 0), AV.val (Value.int IntKind.i64 0), AV.val (Value.int IntKind.i64 0), AV.val (Value.int IntKind.i64 0), AV.val (Value.int IntKind.i64 0), AV.val (Value.int IntKind.i64 0), AV.val (Value.int IntKind.i64 0), AV.val (Value.int IntKind.i64 0), AV.val (Value.bool false)] := by kernel_rfl
@[simp] theorem blT_212 : blT Tryz.prog 212 = true := by kernel_rfl
@[simp] theorem ptT_212 : ptT Tryz.prog 212 = none := by kernel_rfl
@[simp] theorem usT_212 : usT Tryz.prog 212 = false := by kernel_rfl
@[simp] theorem coT_212 : coT Tryz.prog 212 = true := by kernel_rfl
@[simp] theorem szT_215 : szT Tryz.prog 215 = some 2 := by kernel_rfl
@[simp] theorem byT_215 : byT Tryz.prog 215 = some 16 := by kernel_rfl
@[simp] theorem aggT_215 : aggT Tryz.prog 215 = some true := by kernel_rfl
@[simp] theorem slT_215 : slT Tryz.prog 215 = none := by kernel_rfl
@[simp] theorem arT_215 : arT Tryz.prog 215 = none := by kernel_rfl
@[simp] theorem stT_215 : stT Tryz.prog 215 = false := by kernel_rfl
@[simp] theorem boT_215 : boT Tryz.prog 215 = false := by kernel_rfl
@[simp] theorem inT_215 : inT Tryz.prog 215 = true := by kernel_rfl
@[simp] theorem zeT_215 : zeT Tryz.prog 215 = some [AV.val (Value.int IntKind.i64 0), AV.val (Value.int IntKind.i64 0)] := by kernel_rfl
@[simp] theorem blT_215 : blT Tryz.prog 215 = true := by kernel_rfl
@[simp] theorem ptT_215 : ptT Tryz.prog 215 = none := by kernel_rfl
@[simp] theorem usT_215 : usT Tryz.prog 215 = false := by kernel_rfl
@[simp] theorem coT_215 : coT Tryz.prog 215 = true := by kernel_rfl
@[simp] theorem szT_233 : szT Tryz.prog 233 = some 1 := by kernel_rfl
@[simp] theorem byT_233 : byT Tryz.prog 233 = some 8 := by kernel_rfl
@[simp] theorem aggT_233 : aggT Tryz.prog 233 = some false := by kernel_rfl
@[simp] theorem slT_233 : slT Tryz.prog 233 = none := by kernel_rfl
@[simp] theorem arT_233 : arT Tryz.prog 233 = none := by kernel_rfl
@[simp] theorem stT_233 : stT Tryz.prog 233 = false := by kernel_rfl
@[simp] theorem boT_233 : boT Tryz.prog 233 = false := by kernel_rfl
@[simp] theorem inT_233 : inT Tryz.prog 233 = false := by kernel_rfl
@[simp] theorem zeT_233 : zeT Tryz.prog 233 = some [AV.val (Value.pointer none)] := by kernel_rfl
@[simp] theorem ptT_233 : ptT Tryz.prog 233 = some 236 := by kernel_rfl
@[simp] theorem usT_233 : usT Tryz.prog 233 = false := by kernel_rfl
@[simp] theorem coT_233 : coT Tryz.prog 233 = true := by kernel_rfl
@[simp] theorem szT_236 : szT Tryz.prog 236 = some 7 := by kernel_rfl
@[simp] theorem byT_236 : byT Tryz.prog 236 = some 96 := by kernel_rfl
@[simp] theorem aggT_236 : aggT Tryz.prog 236 = some true := by kernel_rfl
@[simp] theorem slT_236 : slT Tryz.prog 236 = none := by kernel_rfl
@[simp] theorem arT_236 : arT Tryz.prog 236 = none := by kernel_rfl
@[simp] theorem stT_236 : stT Tryz.prog 236 = false := by kernel_rfl
@[simp] theorem boT_236 : boT Tryz.prog 236 = false := by kernel_rfl
@[simp] theorem inT_236 : inT Tryz.prog 236 = false := by kernel_rfl
@[simp] theorem zeT_236 : zeT Tryz.prog 236 = some [AV.val (Value.string { data := { toList := [] } }), AV.val (Value.int IntKind.i64 0), AV.ro true [], AV.bad, AV.ro true [], AV.val (Value.int IntKind.i64 0), AV.val (Value.int IntKind.i64 0)] := by kernel_rfl
@[simp] theorem blT_236 : blT Tryz.prog 236 = true := by kernel_rfl
@[simp] theorem ptT_236 : ptT Tryz.prog 236 = none := by kernel_rfl
@[simp] theorem usT_236 : usT Tryz.prog 236 = false := by kernel_rfl
@[simp] theorem coT_236 : coT Tryz.prog 236 = true := by kernel_rfl
@[simp] theorem fdT_26_0 : fdT Tryz.prog 26 0 = some (0, 23) := by kernel_rfl
@[simp] theorem fdT_26_1 : fdT Tryz.prog 26 1 = some (1, 24) := by kernel_rfl
@[simp] theorem fdT_32_0 : fdT Tryz.prog 32 0 = some (0, 3) := by kernel_rfl
@[simp] theorem fdT_32_1 : fdT Tryz.prog 32 1 = some (1, 30) := by kernel_rfl
@[simp] theorem fdT_32_2 : fdT Tryz.prog 32 2 = some (2, 3) := by kernel_rfl
@[simp] theorem fdT_32_3 : fdT Tryz.prog 32 3 = some (3, 3) := by kernel_rfl
@[simp] theorem fdT_32_4 : fdT Tryz.prog 32 4 = some (4, 4) := by kernel_rfl
@[simp] theorem fdT_39_0 : fdT Tryz.prog 39 0 = some (0, 3) := by kernel_rfl
@[simp] theorem fdT_39_1 : fdT Tryz.prog 39 1 = some (1, 3) := by kernel_rfl
@[simp] theorem fdT_39_2 : fdT Tryz.prog 39 2 = some (2, 30) := by kernel_rfl
@[simp] theorem fdT_52_0 : fdT Tryz.prog 52 0 = some (0, 3) := by kernel_rfl
@[simp] theorem fdT_52_1 : fdT Tryz.prog 52 1 = some (1, 3) := by kernel_rfl
@[simp] theorem fdT_52_2 : fdT Tryz.prog 52 2 = some (2, 3) := by kernel_rfl
@[simp] theorem fdT_52_3 : fdT Tryz.prog 52 3 = some (3, 3) := by kernel_rfl
@[simp] theorem fdT_52_4 : fdT Tryz.prog 52 4 = some (4, 50) := by kernel_rfl
@[simp] theorem fdT_58_0 : fdT Tryz.prog 58 0 = some (0, 23) := by kernel_rfl
@[simp] theorem fdT_58_1 : fdT Tryz.prog 58 1 = some (1, 55) := by kernel_rfl
@[simp] theorem fdT_58_2 : fdT Tryz.prog 58 2 = some (2, 24) := by kernel_rfl
@[simp] theorem fdT_58_3 : fdT Tryz.prog 58 3 = some (3, 56) := by kernel_rfl
@[simp] theorem fdT_103_0 : fdT Tryz.prog 103 0 = some (0, 96) := by kernel_rfl
@[simp] theorem fdT_103_1 : fdT Tryz.prog 103 1 = some (1, 30) := by kernel_rfl
@[simp] theorem fdT_103_2 : fdT Tryz.prog 103 2 = some (2, 3) := by kernel_rfl
@[simp] theorem fdT_108_0 : fdT Tryz.prog 108 0 = some (0, 3) := by kernel_rfl
@[simp] theorem fdT_108_1 : fdT Tryz.prog 108 1 = some (1, 3) := by kernel_rfl
@[simp] theorem fdT_115_0 : fdT Tryz.prog 115 0 = some (0, 112) := by kernel_rfl
@[simp] theorem fdT_115_1 : fdT Tryz.prog 115 1 = some (1, 113) := by kernel_rfl
@[simp] theorem fdT_134_0 : fdT Tryz.prog 134 0 = some (0, 3) := by kernel_rfl
@[simp] theorem fdT_134_1 : fdT Tryz.prog 134 1 = some (1, 3) := by kernel_rfl
@[simp] theorem fdT_134_2 : fdT Tryz.prog 134 2 = some (2, 4) := by kernel_rfl
@[simp] theorem fdT_148_0 : fdT Tryz.prog 148 0 = some (0, 96) := by kernel_rfl
@[simp] theorem fdT_148_1 : fdT Tryz.prog 148 1 = some (1, 143) := by kernel_rfl
@[simp] theorem fdT_148_2 : fdT Tryz.prog 148 2 = some (2, 144) := by kernel_rfl
@[simp] theorem fdT_148_3 : fdT Tryz.prog 148 3 = some (3, 145) := by kernel_rfl
@[simp] theorem fdT_148_4 : fdT Tryz.prog 148 4 = some (4, 146) := by kernel_rfl
@[simp] theorem fdT_154_0 : fdT Tryz.prog 154 0 = some (0, 9) := by kernel_rfl
@[simp] theorem fdT_154_1 : fdT Tryz.prog 154 1 = some (1, 3) := by kernel_rfl
@[simp] theorem fdT_154_2 : fdT Tryz.prog 154 2 = some (2, 66) := by kernel_rfl
@[simp] theorem fdT_202_0 : fdT Tryz.prog 202 0 = some (0, 9) := by kernel_rfl
@[simp] theorem fdT_202_1 : fdT Tryz.prog 202 1 = some (1, 3) := by kernel_rfl
@[simp] theorem fdT_202_2 : fdT Tryz.prog 202 2 = some (2, 3) := by kernel_rfl
@[simp] theorem fdT_202_3 : fdT Tryz.prog 202 3 = some (3, 3) := by kernel_rfl
@[simp] theorem fdT_206_0 : fdT Tryz.prog 206 0 = some (0, 9) := by kernel_rfl
@[simp] theorem fdT_206_1 : fdT Tryz.prog 206 1 = some (1, 30) := by kernel_rfl
@[simp] theorem fdT_206_2 : fdT Tryz.prog 206 2 = some (2, 204) := by kernel_rfl
@[simp] theorem fdT_210_0 : fdT Tryz.prog 210 0 = some (0, 9) := by kernel_rfl
@[simp] theorem fdT_210_1 : fdT Tryz.prog 210 1 = some (1, 3) := by kernel_rfl
@[simp] theorem fdT_210_2 : fdT Tryz.prog 210 2 = some (2, 3) := by kernel_rfl
@[simp] theorem fdT_210_3 : fdT Tryz.prog 210 3 = some (3, 3) := by kernel_rfl
@[simp] theorem fdT_212_0 : fdT Tryz.prog 212 0 = some (0, 9) := by kernel_rfl
@[simp] theorem fdT_212_1 : fdT Tryz.prog 212 1 = some (1, 3) := by kernel_rfl
@[simp] theorem fdT_212_2 : fdT Tryz.prog 212 2 = some (2, 3) := by kernel_rfl
@[simp] theorem fdT_212_3 : fdT Tryz.prog 212 3 = some (3, 3) := by kernel_rfl
@[simp] theorem fdT_212_4 : fdT Tryz.prog 212 4 = some (4, 3) := by kernel_rfl
@[simp] theorem fdT_212_5 : fdT Tryz.prog 212 5 = some (5, 3) := by kernel_rfl
@[simp] theorem fdT_212_6 : fdT Tryz.prog 212 6 = some (6, 3) := by kernel_rfl
@[simp] theorem fdT_212_7 : fdT Tryz.prog 212 7 = some (7, 3) := by kernel_rfl
@[simp] theorem fdT_212_8 : fdT Tryz.prog 212 8 = some (8, 3) := by kernel_rfl
@[simp] theorem fdT_212_9 : fdT Tryz.prog 212 9 = some (9, 3) := by kernel_rfl
@[simp] theorem fdT_212_10 : fdT Tryz.prog 212 10 = some (10, 3) := by kernel_rfl
@[simp] theorem fdT_212_11 : fdT Tryz.prog 212 11 = some (11, 3) := by kernel_rfl
@[simp] theorem fdT_212_12 : fdT Tryz.prog 212 12 = some (12, 3) := by kernel_rfl
@[simp] theorem fdT_212_13 : fdT Tryz.prog 212 13 = some (13, 4) := by kernel_rfl
@[simp] theorem fdT_215_0 : fdT Tryz.prog 215 0 = some (0, 3) := by kernel_rfl
@[simp] theorem fdT_215_1 : fdT Tryz.prog 215 1 = some (1, 3) := by kernel_rfl
@[simp] theorem fdT_236_0 : fdT Tryz.prog 236 0 = some (0, 9) := by kernel_rfl
@[simp] theorem fdT_236_1 : fdT Tryz.prog 236 1 = some (1, 3) := by kernel_rfl
@[simp] theorem fdT_236_2 : fdT Tryz.prog 236 2 = some (2, 96) := by kernel_rfl
@[simp] theorem fdT_236_3 : fdT Tryz.prog 236 3 = some (3, 55) := by kernel_rfl
@[simp] theorem fdT_236_4 : fdT Tryz.prog 236 4 = some (4, 66) := by kernel_rfl
@[simp] theorem fdT_236_5 : fdT Tryz.prog 236 5 = some (5, 3) := by kernel_rfl
@[simp] theorem fdT_236_6 : fdT Tryz.prog 236 6 = some (6, 3) := by kernel_rfl

end Go.Proofs.YtmpcjfkfgjpebaaGreatDoor.AM
