/- What the interpreter asks of the types of this seat. -/
import Derived.Test.YtgbdbenepnbajaaGreatDoorProg
import Derived.Test.YtgbdbenepnbajaaGreatDoorAmLoop
import Derived.KernelRfl
namespace Go.Proofs.YtgbdbenepnbajaaGreatDoor.AM
open Go Go.Proofs

@[simp] theorem szT_2 : szT Tryz.prog 2 = some 1 := by kernel_rfl
@[simp] theorem byT_2 : byT Tryz.prog 2 = some 8 := by kernel_rfl
@[simp] theorem aggT_2 : aggT Tryz.prog 2 = some false := by kernel_rfl
@[simp] theorem slT_2 : slT Tryz.prog 2 = none := by kernel_rfl
@[simp] theorem arT_2 : arT Tryz.prog 2 = none := by kernel_rfl
@[simp] theorem stT_2 : stT Tryz.prog 2 = false := by kernel_rfl
@[simp] theorem boT_2 : boT Tryz.prog 2 = false := by kernel_rfl
@[simp] theorem inT_2 : inT Tryz.prog 2 = false := by kernel_rfl
@[simp] theorem zeT_2 : zeT Tryz.prog 2 = some [AV.val (Value.int IntKind.i64 0)] := by kernel_rfl
@[simp] theorem ptT_2 : ptT Tryz.prog 2 = none := by kernel_rfl
@[simp] theorem usT_2 : usT Tryz.prog 2 = false := by kernel_rfl
@[simp] theorem ziT_2 : ziT Tryz.prog 2 = some (AV.val (Value.int IntKind.i64 0)) := by kernel_rfl
@[simp] theorem coT_2 : coT Tryz.prog 2 = true := by kernel_rfl
@[simp] theorem szT_3 : szT Tryz.prog 3 = some 1 := by kernel_rfl
@[simp] theorem byT_3 : byT Tryz.prog 3 = some 8 := by kernel_rfl
@[simp] theorem aggT_3 : aggT Tryz.prog 3 = some false := by kernel_rfl
@[simp] theorem slT_3 : slT Tryz.prog 3 = none := by kernel_rfl
@[simp] theorem arT_3 : arT Tryz.prog 3 = none := by kernel_rfl
@[simp] theorem stT_3 : stT Tryz.prog 3 = false := by kernel_rfl
@[simp] theorem boT_3 : boT Tryz.prog 3 = false := by kernel_rfl
@[simp] theorem inT_3 : inT Tryz.prog 3 = false := by kernel_rfl
@[simp] theorem zeT_3 : zeT Tryz.prog 3 = some [AV.val (Value.int IntKind.i64 0)] := by kernel_rfl
@[simp] theorem ptT_3 : ptT Tryz.prog 3 = none := by kernel_rfl
@[simp] theorem usT_3 : usT Tryz.prog 3 = false := by kernel_rfl
@[simp] theorem ziT_3 : ziT Tryz.prog 3 = some (AV.val (Value.int IntKind.i64 0)) := by kernel_rfl
@[simp] theorem coT_3 : coT Tryz.prog 3 = true := by kernel_rfl
@[simp] theorem szT_4 : szT Tryz.prog 4 = some 1 := by kernel_rfl
@[simp] theorem byT_4 : byT Tryz.prog 4 = some 1 := by kernel_rfl
@[simp] theorem aggT_4 : aggT Tryz.prog 4 = some false := by kernel_rfl
@[simp] theorem slT_4 : slT Tryz.prog 4 = none := by kernel_rfl
@[simp] theorem arT_4 : arT Tryz.prog 4 = none := by kernel_rfl
@[simp] theorem stT_4 : stT Tryz.prog 4 = false := by kernel_rfl
@[simp] theorem boT_4 : boT Tryz.prog 4 = true := by kernel_rfl
@[simp] theorem inT_4 : inT Tryz.prog 4 = false := by kernel_rfl
@[simp] theorem zeT_4 : zeT Tryz.prog 4 = some [AV.val (Value.bool false)] := by kernel_rfl
@[simp] theorem ptT_4 : ptT Tryz.prog 4 = none := by kernel_rfl
@[simp] theorem usT_4 : usT Tryz.prog 4 = false := by kernel_rfl
@[simp] theorem coT_4 : coT Tryz.prog 4 = true := by kernel_rfl
@[simp] theorem szT_5 : szT Tryz.prog 5 = some 1 := by kernel_rfl
@[simp] theorem byT_5 : byT Tryz.prog 5 = some 1 := by kernel_rfl
@[simp] theorem aggT_5 : aggT Tryz.prog 5 = some false := by kernel_rfl
@[simp] theorem slT_5 : slT Tryz.prog 5 = none := by kernel_rfl
@[simp] theorem arT_5 : arT Tryz.prog 5 = none := by kernel_rfl
@[simp] theorem stT_5 : stT Tryz.prog 5 = false := by kernel_rfl
@[simp] theorem boT_5 : boT Tryz.prog 5 = false := by kernel_rfl
@[simp] theorem inT_5 : inT Tryz.prog 5 = false := by kernel_rfl
@[simp] theorem zeT_5 : zeT Tryz.prog 5 = some [AV.val (Value.int IntKind.u8 0)] := by kernel_rfl
@[simp] theorem ptT_5 : ptT Tryz.prog 5 = none := by kernel_rfl
@[simp] theorem usT_5 : usT Tryz.prog 5 = false := by kernel_rfl
@[simp] theorem ziT_5 : ziT Tryz.prog 5 = some (AV.val (Value.int IntKind.u8 0)) := by kernel_rfl
@[simp] theorem coT_5 : coT Tryz.prog 5 = true := by kernel_rfl
@[simp] theorem szT_22 : szT Tryz.prog 22 = some 1 := by kernel_rfl
@[simp] theorem byT_22 : byT Tryz.prog 22 = some 24 := by kernel_rfl
@[simp] theorem aggT_22 : aggT Tryz.prog 22 = some false := by kernel_rfl
@[simp] theorem slT_22 : slT Tryz.prog 22 = some 5 := by kernel_rfl
@[simp] theorem arT_22 : arT Tryz.prog 22 = none := by kernel_rfl
@[simp] theorem stT_22 : stT Tryz.prog 22 = false := by kernel_rfl
@[simp] theorem boT_22 : boT Tryz.prog 22 = false := by kernel_rfl
@[simp] theorem inT_22 : inT Tryz.prog 22 = false := by kernel_rfl
@[simp] theorem zeT_22 : zeT Tryz.prog 22 = some [AV.ro true []] := by kernel_rfl
@[simp] theorem ptT_22 : ptT Tryz.prog 22 = none := by kernel_rfl
@[simp] theorem usT_22 : usT Tryz.prog 22 = false := by kernel_rfl
@[simp] theorem coT_22 : coT Tryz.prog 22 = true := by kernel_rfl
@[simp] theorem szT_24 : szT Tryz.prog 24 = some 1 := by kernel_rfl
@[simp] theorem byT_24 : byT Tryz.prog 24 = some 24 := by kernel_rfl
@[simp] theorem aggT_24 : aggT Tryz.prog 24 = some false := by kernel_rfl
@[simp] theorem slT_24 : slT Tryz.prog 24 = some 30 := by kernel_rfl
@[simp] theorem arT_24 : arT Tryz.prog 24 = none := by kernel_rfl
@[simp] theorem stT_24 : stT Tryz.prog 24 = false := by kernel_rfl
@[simp] theorem boT_24 : boT Tryz.prog 24 = false := by kernel_rfl
@[simp] theorem inT_24 : inT Tryz.prog 24 = false := by kernel_rfl
@[simp] theorem zeT_24 : zeT Tryz.prog 24 = some [AV.ro true []] := by kernel_rfl
@[simp] theorem ptT_24 : ptT Tryz.prog 24 = none := by kernel_rfl
@[simp] theorem usT_24 : usT Tryz.prog 24 = false := by kernel_rfl
@[simp] theorem coT_24 : coT Tryz.prog 24 = true := by kernel_rfl
@[simp] theorem szT_25 : szT Tryz.prog 25 = some 1 := by kernel_rfl
@[simp] theorem byT_25 : byT Tryz.prog 25 = some 8 := by kernel_rfl
@[simp] theorem aggT_25 : aggT Tryz.prog 25 = some false := by kernel_rfl
@[simp] theorem slT_25 : slT Tryz.prog 25 = none := by kernel_rfl
@[simp] theorem arT_25 : arT Tryz.prog 25 = none := by kernel_rfl
@[simp] theorem stT_25 : stT Tryz.prog 25 = false := by kernel_rfl
@[simp] theorem boT_25 : boT Tryz.prog 25 = false := by kernel_rfl
@[simp] theorem inT_25 : inT Tryz.prog 25 = false := by kernel_rfl
@[simp] theorem zeT_25 : zeT Tryz.prog 25 = some [AV.val (Value.int IntKind.i64 0)] := by kernel_rfl
@[simp] theorem ptT_25 : ptT Tryz.prog 25 = none := by kernel_rfl
@[simp] theorem usT_25 : usT Tryz.prog 25 = false := by kernel_rfl
@[simp] theorem ziT_25 : ziT Tryz.prog 25 = some (AV.val (Value.int IntKind.i64 0)) := by kernel_rfl
@[simp] theorem coT_25 : coT Tryz.prog 25 = true := by kernel_rfl
@[simp] theorem szT_30 : szT Tryz.prog 30 = some 4 := by kernel_rfl
@[simp] theorem byT_30 : byT Tryz.prog 30 = some 32 := by kernel_rfl
@[simp] theorem aggT_30 : aggT Tryz.prog 30 = some true := by kernel_rfl
@[simp] theorem slT_30 : slT Tryz.prog 30 = none := by kernel_rfl
@[simp] theorem arT_30 : arT Tryz.prog 30 = none := by kernel_rfl
@[simp] theorem stT_30 : stT Tryz.prog 30 = false := by kernel_rfl
@[simp] theorem boT_30 : boT Tryz.prog 30 = false := by kernel_rfl
@[simp] theorem inT_30 : inT Tryz.prog 30 = false := by kernel_rfl
@[simp] theorem zeT_30 : zeT Tryz.prog 30 = some [AV.val (Value.int IntKind.i64 0), AV.val (Value.int IntKind.i64 0), AV.val (Value.int IntKind.i64 0), AV.val (Value.bool false)] := by kernel_rfl
@[simp] theorem blT_30 : blT Tryz.prog 30 = true := by kernel_rfl
@[simp] theorem ptT_30 : ptT Tryz.prog 30 = none := by kernel_rfl
@[simp] theorem usT_30 : usT Tryz.prog 30 = false := by kernel_rfl
@[simp] theorem coT_30 : coT Tryz.prog 30 = true := by kernel_rfl
@[simp] theorem szT_32 : szT Tryz.prog 32 = some 1 := by kernel_rfl
@[simp] theorem byT_32 : byT Tryz.prog 32 = some 8 := by kernel_rfl
@[simp] theorem aggT_32 : aggT Tryz.prog 32 = some false := by kernel_rfl
@[simp] theorem slT_32 : slT Tryz.prog 32 = none := by kernel_rfl
@[simp] theorem arT_32 : arT Tryz.prog 32 = none := by kernel_rfl
@[simp] theorem stT_32 : stT Tryz.prog 32 = false := by kernel_rfl
@[simp] theorem boT_32 : boT Tryz.prog 32 = false := by kernel_rfl
@[simp] theorem inT_32 : inT Tryz.prog 32 = false := by kernel_rfl
@[simp] theorem zeT_32 : zeT Tryz.prog 32 = some [AV.val (Value.int IntKind.u64 0)] := by kernel_rfl
@[simp] theorem ptT_32 : ptT Tryz.prog 32 = none := by kernel_rfl
@[simp] theorem usT_32 : usT Tryz.prog 32 = false := by kernel_rfl
@[simp] theorem ziT_32 : ziT Tryz.prog 32 = some (AV.val (Value.int IntKind.u64 0)) := by kernel_rfl
@[simp] theorem coT_32 : coT Tryz.prog 32 = true := by kernel_rfl
@[simp] theorem szT_79 : szT Tryz.prog 79 = some 4 := by kernel_rfl
@[simp] theorem byT_79 : byT Tryz.prog 79 = some 40 := by kernel_rfl
@[simp] theorem aggT_79 : aggT Tryz.prog 79 = some true := by kernel_rfl
@[simp] theorem slT_79 : slT Tryz.prog 79 = none := by kernel_rfl
@[simp] theorem arT_79 : arT Tryz.prog 79 = none := by kernel_rfl
@[simp] theorem stT_79 : stT Tryz.prog 79 = false := by kernel_rfl
@[simp] theorem boT_79 : boT Tryz.prog 79 = false := by kernel_rfl
@[simp] theorem inT_79 : inT Tryz.prog 79 = false := by kernel_rfl
@[simp] theorem zeT_79 : zeT Tryz.prog 79 = some [AV.ro true [], AV.val (Value.bool false), AV.val (Value.bool false), AV.val (Value.int IntKind.i64 0)] := by kernel_rfl
@[simp] theorem blT_79 : blT Tryz.prog 79 = true := by kernel_rfl
@[simp] theorem ptT_79 : ptT Tryz.prog 79 = none := by kernel_rfl
@[simp] theorem usT_79 : usT Tryz.prog 79 = false := by kernel_rfl
@[simp] theorem coT_79 : coT Tryz.prog 79 = true := by kernel_rfl
@[simp] theorem szT_81 : szT Tryz.prog 81 = some 1 := by kernel_rfl
@[simp] theorem byT_81 : byT Tryz.prog 81 = some 8 := by kernel_rfl
@[simp] theorem aggT_81 : aggT Tryz.prog 81 = some false := by kernel_rfl
@[simp] theorem slT_81 : slT Tryz.prog 81 = none := by kernel_rfl
@[simp] theorem arT_81 : arT Tryz.prog 81 = none := by kernel_rfl
@[simp] theorem stT_81 : stT Tryz.prog 81 = false := by kernel_rfl
@[simp] theorem boT_81 : boT Tryz.prog 81 = false := by kernel_rfl
@[simp] theorem inT_81 : inT Tryz.prog 81 = false := by kernel_rfl
@[simp] theorem zeT_81 : zeT Tryz.prog 81 = some [AV.val (Value.pointer none)] := by kernel_rfl
@[simp] theorem ptT_81 : ptT Tryz.prog 81 = some 5 := by kernel_rfl
@[simp] theorem usT_81 : usT Tryz.prog 81 = false := by kernel_rfl
@[simp] theorem coT_81 : coT Tryz.prog 81 = true := by kernel_rfl
@[simp] theorem szT_83 : szT Tryz.prog 83 = some 1 := by kernel_rfl
@[simp] theorem byT_83 : byT Tryz.prog 83 = some 8 := by kernel_rfl
@[simp] theorem aggT_83 : aggT Tryz.prog 83 = some false := by kernel_rfl
@[simp] theorem slT_83 : slT Tryz.prog 83 = none := by kernel_rfl
@[simp] theorem arT_83 : arT Tryz.prog 83 = none := by kernel_rfl
@[simp] theorem stT_83 : stT Tryz.prog 83 = false := by kernel_rfl
@[simp] theorem boT_83 : boT Tryz.prog 83 = false := by kernel_rfl
@[simp] theorem inT_83 : inT Tryz.prog 83 = false := by kernel_rfl
@[simp] theorem zeT_83 : zeT Tryz.prog 83 = some [AV.val (Value.pointer none)] := by kernel_rfl
@[simp] theorem ptT_83 : ptT Tryz.prog 83 = some 3 := by kernel_rfl
@[simp] theorem usT_83 : usT Tryz.prog 83 = false := by kernel_rfl
@[simp] theorem coT_83 : coT Tryz.prog 83 = true := by kernel_rfl
@[simp] theorem szT_113 : szT Tryz.prog 113 = some 1 := by kernel_rfl
@[simp] theorem byT_113 : byT Tryz.prog 113 = some 4 := by kernel_rfl
@[simp] theorem aggT_113 : aggT Tryz.prog 113 = some false := by kernel_rfl
@[simp] theorem slT_113 : slT Tryz.prog 113 = none := by kernel_rfl
@[simp] theorem arT_113 : arT Tryz.prog 113 = none := by kernel_rfl
@[simp] theorem stT_113 : stT Tryz.prog 113 = false := by kernel_rfl
@[simp] theorem boT_113 : boT Tryz.prog 113 = false := by kernel_rfl
@[simp] theorem inT_113 : inT Tryz.prog 113 = false := by kernel_rfl
@[simp] theorem zeT_113 : zeT Tryz.prog 113 = some [AV.val (Value.int IntKind.u32 0)] := by kernel_rfl
@[simp] theorem ptT_113 : ptT Tryz.prog 113 = none := by kernel_rfl
@[simp] theorem usT_113 : usT Tryz.prog 113 = false := by kernel_rfl
@[simp] theorem ziT_113 : ziT Tryz.prog 113 = some (AV.val (Value.int IntKind.u32 0)) := by kernel_rfl
@[simp] theorem coT_113 : coT Tryz.prog 113 = true := by kernel_rfl
@[simp] theorem szT_114 : szT Tryz.prog 114 = some 1 := by kernel_rfl
@[simp] theorem byT_114 : byT Tryz.prog 114 = some 8 := by kernel_rfl
@[simp] theorem aggT_114 : aggT Tryz.prog 114 = some false := by kernel_rfl
@[simp] theorem slT_114 : slT Tryz.prog 114 = none := by kernel_rfl
@[simp] theorem arT_114 : arT Tryz.prog 114 = none := by kernel_rfl
@[simp] theorem stT_114 : stT Tryz.prog 114 = false := by kernel_rfl
@[simp] theorem boT_114 : boT Tryz.prog 114 = false := by kernel_rfl
@[simp] theorem inT_114 : inT Tryz.prog 114 = false := by kernel_rfl
@[simp] theorem zeT_114 : zeT Tryz.prog 114 = some [AV.val (Value.pointer none)] := by kernel_rfl
@[simp] theorem ptT_114 : ptT Tryz.prog 114 = some 116 := by kernel_rfl
@[simp] theorem usT_114 : usT Tryz.prog 114 = false := by kernel_rfl
@[simp] theorem coT_114 : coT Tryz.prog 114 = true := by kernel_rfl
@[simp] theorem szT_116 : szT Tryz.prog 116 = some 2 := by kernel_rfl
@[simp] theorem byT_116 : byT Tryz.prog 116 = some 32 := by kernel_rfl
@[simp] theorem aggT_116 : aggT Tryz.prog 116 = some true := by kernel_rfl
@[simp] theorem slT_116 : slT Tryz.prog 116 = none := by kernel_rfl
@[simp] theorem arT_116 : arT Tryz.prog 116 = none := by kernel_rfl
@[simp] theorem stT_116 : stT Tryz.prog 116 = false := by kernel_rfl
@[simp] theorem boT_116 : boT Tryz.prog 116 = false := by kernel_rfl
@[simp] theorem inT_116 : inT Tryz.prog 116 = false := by kernel_rfl
@[simp] theorem zeT_116 : zeT Tryz.prog 116 = some [AV.ro true [], AV.val (Value.bool false)] := by kernel_rfl
@[simp] theorem blT_116 : blT Tryz.prog 116 = true := by kernel_rfl
@[simp] theorem ptT_116 : ptT Tryz.prog 116 = none := by kernel_rfl
@[simp] theorem usT_116 : usT Tryz.prog 116 = false := by kernel_rfl
@[simp] theorem coT_116 : coT Tryz.prog 116 = true := by kernel_rfl
@[simp] theorem szT_119 : szT Tryz.prog 119 = some 1 := by kernel_rfl
@[simp] theorem byT_119 : byT Tryz.prog 119 = some 8 := by kernel_rfl
@[simp] theorem aggT_119 : aggT Tryz.prog 119 = some false := by kernel_rfl
@[simp] theorem slT_119 : slT Tryz.prog 119 = none := by kernel_rfl
@[simp] theorem arT_119 : arT Tryz.prog 119 = none := by kernel_rfl
@[simp] theorem stT_119 : stT Tryz.prog 119 = false := by kernel_rfl
@[simp] theorem boT_119 : boT Tryz.prog 119 = false := by kernel_rfl
@[simp] theorem inT_119 : inT Tryz.prog 119 = false := by kernel_rfl
@[simp] theorem zeT_119 : zeT Tryz.prog 119 = some [AV.val (Value.pointer none)] := by kernel_rfl
@[simp] theorem ptT_119 : ptT Tryz.prog 119 = some 79 := by kernel_rfl
@[simp] theorem usT_119 : usT Tryz.prog 119 = false := by kernel_rfl
@[simp] theorem coT_119 : coT Tryz.prog 119 = true := by kernel_rfl
@[simp] theorem fdT_30_0 : fdT Tryz.prog 30 0 = some (0, 3) := by kernel_rfl
@[simp] theorem fdT_30_1 : fdT Tryz.prog 30 1 = some (1, 3) := by kernel_rfl
@[simp] theorem fdT_30_2 : fdT Tryz.prog 30 2 = some (2, 3) := by kernel_rfl
@[simp] theorem fdT_30_3 : fdT Tryz.prog 30 3 = some (3, 4) := by kernel_rfl
@[simp] theorem fdT_79_0 : fdT Tryz.prog 79 0 = some (0, 22) := by kernel_rfl
@[simp] theorem fdT_79_1 : fdT Tryz.prog 79 1 = some (1, 4) := by kernel_rfl
@[simp] theorem fdT_79_2 : fdT Tryz.prog 79 2 = some (2, 4) := by kernel_rfl
@[simp] theorem fdT_79_3 : fdT Tryz.prog 79 3 = some (3, 3) := by kernel_rfl
@[simp] theorem fdT_116_0 : fdT Tryz.prog 116 0 = some (0, 22) := by kernel_rfl
@[simp] theorem fdT_116_1 : fdT Tryz.prog 116 1 = some (1, 4) := by kernel_rfl

end Go.Proofs.YtgbdbenepnbajaaGreatDoor.AM
