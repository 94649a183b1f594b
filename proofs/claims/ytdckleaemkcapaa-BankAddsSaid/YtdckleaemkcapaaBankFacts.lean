/- What the interpreter asks of the types of this seat. -/
import Derived.Test.YtdckleaemkcapaaProg
import Derived.Test.YtdckleaemkcapaaAmLoop
import Derived.KernelRfl
namespace Go.Proofs.Ytdckleaemkcapaa.AM
open Go Go.Proofs

@[simp] theorem szT_0 : szT Try.prog 0 = some 1 := by kernel_rfl
@[simp] theorem byT_0 : byT Try.prog 0 = some 0 := by kernel_rfl
@[simp] theorem aggT_0 : aggT Try.prog 0 = some false := by kernel_rfl
@[simp] theorem slT_0 : slT Try.prog 0 = none := by kernel_rfl
@[simp] theorem arT_0 : arT Try.prog 0 = none := by kernel_rfl
@[simp] theorem stT_0 : stT Try.prog 0 = false := by kernel_rfl
@[simp] theorem boT_0 : boT Try.prog 0 = false := by kernel_rfl
@[simp] theorem inT_0 : inT Try.prog 0 = false := by kernel_rfl
@[simp] theorem szT_1 : szT Try.prog 1 = some 1 := by kernel_rfl
@[simp] theorem byT_1 : byT Try.prog 1 = some 8 := by kernel_rfl
@[simp] theorem aggT_1 : aggT Try.prog 1 = some false := by kernel_rfl
@[simp] theorem slT_1 : slT Try.prog 1 = none := by kernel_rfl
@[simp] theorem arT_1 : arT Try.prog 1 = none := by kernel_rfl
@[simp] theorem stT_1 : stT Try.prog 1 = false := by kernel_rfl
@[simp] theorem boT_1 : boT Try.prog 1 = false := by kernel_rfl
@[simp] theorem inT_1 : inT Try.prog 1 = false := by kernel_rfl
@[simp] theorem zeT_1 : zeT Try.prog 1 = some [AV.val Value.nilFunc] := by kernel_rfl
@[simp] theorem szT_2 : szT Try.prog 2 = some 1 := by kernel_rfl
@[simp] theorem byT_2 : byT Try.prog 2 = some 8 := by kernel_rfl
@[simp] theorem aggT_2 : aggT Try.prog 2 = some false := by kernel_rfl
@[simp] theorem slT_2 : slT Try.prog 2 = none := by kernel_rfl
@[simp] theorem arT_2 : arT Try.prog 2 = none := by kernel_rfl
@[simp] theorem stT_2 : stT Try.prog 2 = false := by kernel_rfl
@[simp] theorem boT_2 : boT Try.prog 2 = false := by kernel_rfl
@[simp] theorem inT_2 : inT Try.prog 2 = false := by kernel_rfl
@[simp] theorem zeT_2 : zeT Try.prog 2 = some [AV.val (Value.int IntKind.i64 0)] := by kernel_rfl
@[simp] theorem szT_3 : szT Try.prog 3 = some 1 := by kernel_rfl
@[simp] theorem byT_3 : byT Try.prog 3 = some 8 := by kernel_rfl
@[simp] theorem aggT_3 : aggT Try.prog 3 = some false := by kernel_rfl
@[simp] theorem slT_3 : slT Try.prog 3 = none := by kernel_rfl
@[simp] theorem arT_3 : arT Try.prog 3 = none := by kernel_rfl
@[simp] theorem stT_3 : stT Try.prog 3 = false := by kernel_rfl
@[simp] theorem boT_3 : boT Try.prog 3 = false := by kernel_rfl
@[simp] theorem inT_3 : inT Try.prog 3 = false := by kernel_rfl
@[simp] theorem zeT_3 : zeT Try.prog 3 = some [AV.val (Value.int IntKind.i64 0)] := by kernel_rfl
@[simp] theorem szT_4 : szT Try.prog 4 = some 1 := by kernel_rfl
@[simp] theorem byT_4 : byT Try.prog 4 = some 1 := by kernel_rfl
@[simp] theorem aggT_4 : aggT Try.prog 4 = some false := by kernel_rfl
@[simp] theorem slT_4 : slT Try.prog 4 = none := by kernel_rfl
@[simp] theorem arT_4 : arT Try.prog 4 = none := by kernel_rfl
@[simp] theorem stT_4 : stT Try.prog 4 = false := by kernel_rfl
@[simp] theorem boT_4 : boT Try.prog 4 = true := by kernel_rfl
@[simp] theorem inT_4 : inT Try.prog 4 = false := by kernel_rfl
@[simp] theorem zeT_4 : zeT Try.prog 4 = some [AV.val (Value.bool false)] := by kernel_rfl
@[simp] theorem szT_5 : szT Try.prog 5 = some 1 := by kernel_rfl
@[simp] theorem byT_5 : byT Try.prog 5 = some 1 := by kernel_rfl
@[simp] theorem aggT_5 : aggT Try.prog 5 = some false := by kernel_rfl
@[simp] theorem slT_5 : slT Try.prog 5 = none := by kernel_rfl
@[simp] theorem arT_5 : arT Try.prog 5 = none := by kernel_rfl
@[simp] theorem stT_5 : stT Try.prog 5 = false := by kernel_rfl
@[simp] theorem boT_5 : boT Try.prog 5 = false := by kernel_rfl
@[simp] theorem inT_5 : inT Try.prog 5 = false := by kernel_rfl
@[simp] theorem zeT_5 : zeT Try.prog 5 = some [AV.val (Value.int IntKind.u8 0)] := by kernel_rfl
@[simp] theorem szT_6 : szT Try.prog 6 = some 1 := by kernel_rfl
@[simp] theorem byT_6 : byT Try.prog 6 = some 1 := by kernel_rfl
@[simp] theorem aggT_6 : aggT Try.prog 6 = some false := by kernel_rfl
@[simp] theorem slT_6 : slT Try.prog 6 = none := by kernel_rfl
@[simp] theorem arT_6 : arT Try.prog 6 = none := by kernel_rfl
@[simp] theorem stT_6 : stT Try.prog 6 = false := by kernel_rfl
@[simp] theorem boT_6 : boT Try.prog 6 = false := by kernel_rfl
@[simp] theorem inT_6 : inT Try.prog 6 = false := by kernel_rfl
@[simp] theorem zeT_6 : zeT Try.prog 6 = some [AV.val (Value.int IntKind.u8 0)] := by kernel_rfl
@[simp] theorem szT_7 : szT Try.prog 7 = some 4 := by kernel_rfl
@[simp] theorem byT_7 : byT Try.prog 7 = some 24 := by kernel_rfl
@[simp] theorem aggT_7 : aggT Try.prog 7 = some true := by kernel_rfl
@[simp] theorem slT_7 : slT Try.prog 7 = none := by kernel_rfl
@[simp] theorem arT_7 : arT Try.prog 7 = none := by kernel_rfl
@[simp] theorem stT_7 : stT Try.prog 7 = false := by kernel_rfl
@[simp] theorem boT_7 : boT Try.prog 7 = false := by kernel_rfl
@[simp] theorem inT_7 : inT Try.prog 7 = false := by kernel_rfl
@[simp] theorem zeT_7 : zeT Try.prog 7 = some [AV.val (Value.int IntKind.i64 0), AV.val (Value.int IntKind.i64 0), AV.val (Value.bool false), AV.val (Value.int IntKind.u8 0)] := by kernel_rfl
@[simp] theorem blT_7 : blT Try.prog 7 = true := by kernel_rfl
@[simp] theorem szT_8 : szT Try.prog 8 = some 4 := by kernel_rfl
@[simp] theorem byT_8 : byT Try.prog 8 = some 24 := by kernel_rfl
@[simp] theorem aggT_8 : aggT Try.prog 8 = some true := by kernel_rfl
@[simp] theorem slT_8 : slT Try.prog 8 = none := by kernel_rfl
@[simp] theorem arT_8 : arT Try.prog 8 = none := by kernel_rfl
@[simp] theorem stT_8 : stT Try.prog 8 = false := by kernel_rfl
@[simp] theorem boT_8 : boT Try.prog 8 = false := by kernel_rfl
@[simp] theorem inT_8 : inT Try.prog 8 = false := by kernel_rfl
@[simp] theorem zeT_8 : zeT Try.prog 8 = some [AV.val (Value.int IntKind.i64 0), AV.val (Value.int IntKind.i64 0), AV.val (Value.bool false), AV.val (Value.int IntKind.u8 0)] := by kernel_rfl
@[simp] theorem blT_8 : blT Try.prog 8 = true := by kernel_rfl
@[simp] theorem szT_9 : szT Try.prog 9 = some 1 := by kernel_rfl
@[simp] theorem byT_9 : byT Try.prog 9 = some 16 := by kernel_rfl
@[simp] theorem aggT_9 : aggT Try.prog 9 = some false := by kernel_rfl
@[simp] theorem slT_9 : slT Try.prog 9 = none := by kernel_rfl
@[simp] theorem arT_9 : arT Try.prog 9 = none := by kernel_rfl
@[simp] theorem stT_9 : stT Try.prog 9 = true := by kernel_rfl
@[simp] theorem boT_9 : boT Try.prog 9 = false := by kernel_rfl
@[simp] theorem inT_9 : inT Try.prog 9 = false := by kernel_rfl
@[simp] theorem zeT_9 : zeT Try.prog 9 = some [AV.val (Value.string { data := { toList := [] } })] := by kernel_rfl
@[simp] theorem szT_10 : szT Try.prog 10 = some 1 := by kernel_rfl
@[simp] theorem byT_10 : byT Try.prog 10 = some 16 := by kernel_rfl
@[simp] theorem aggT_10 : aggT Try.prog 10 = some false := by kernel_rfl
@[simp] theorem slT_10 : slT Try.prog 10 = none := by kernel_rfl
@[simp] theorem arT_10 : arT Try.prog 10 = none := by kernel_rfl
@[simp] theorem stT_10 : stT Try.prog 10 = true := by kernel_rfl
@[simp] theorem boT_10 : boT Try.prog 10 = false := by kernel_rfl
@[simp] theorem inT_10 : inT Try.prog 10 = false := by kernel_rfl
@[simp] theorem zeT_10 : zeT Try.prog 10 = some [AV.val (Value.string { data := { toList := [] } })] := by kernel_rfl
@[simp] theorem szT_11 : szT Try.prog 11 = some 1 := by kernel_rfl
@[simp] theorem byT_11 : byT Try.prog 11 = some 16 := by kernel_rfl
@[simp] theorem aggT_11 : aggT Try.prog 11 = some false := by kernel_rfl
@[simp] theorem slT_11 : slT Try.prog 11 = none := by kernel_rfl
@[simp] theorem arT_11 : arT Try.prog 11 = none := by kernel_rfl
@[simp] theorem stT_11 : stT Try.prog 11 = true := by kernel_rfl
@[simp] theorem boT_11 : boT Try.prog 11 = false := by kernel_rfl
@[simp] theorem inT_11 : inT Try.prog 11 = false := by kernel_rfl
@[simp] theorem zeT_11 : zeT Try.prog 11 = some [AV.val (Value.string { data := { toList := [] } })] := by kernel_rfl
@[simp] theorem szT_12 : szT Try.prog 12 = some 1 := by kernel_rfl
@[simp] theorem byT_12 : byT Try.prog 12 = some 8 := by kernel_rfl
@[simp] theorem aggT_12 : aggT Try.prog 12 = some false := by kernel_rfl
@[simp] theorem slT_12 : slT Try.prog 12 = none := by kernel_rfl
@[simp] theorem arT_12 : arT Try.prog 12 = none := by kernel_rfl
@[simp] theorem stT_12 : stT Try.prog 12 = false := by kernel_rfl
@[simp] theorem boT_12 : boT Try.prog 12 = false := by kernel_rfl
@[simp] theorem inT_12 : inT Try.prog 12 = false := by kernel_rfl
@[simp] theorem zeT_12 : zeT Try.prog 12 = some [AV.val (Value.int IntKind.u64 0)] := by kernel_rfl
@[simp] theorem szT_13 : szT Try.prog 13 = some 2 := by kernel_rfl
@[simp] theorem byT_13 : byT Try.prog 13 = some 24 := by kernel_rfl
@[simp] theorem aggT_13 : aggT Try.prog 13 = some true := by kernel_rfl
@[simp] theorem slT_13 : slT Try.prog 13 = none := by kernel_rfl
@[simp] theorem arT_13 : arT Try.prog 13 = none := by kernel_rfl
@[simp] theorem stT_13 : stT Try.prog 13 = false := by kernel_rfl
@[simp] theorem boT_13 : boT Try.prog 13 = false := by kernel_rfl
@[simp] theorem inT_13 : inT Try.prog 13 = false := by kernel_rfl
@[simp] theorem zeT_13 : zeT Try.prog 13 = some [AV.val (Value.string { data := { toList := [] } }), AV.val (Value.int IntKind.u64 0)] := by kernel_rfl
@[simp] theorem blT_13 : blT Try.prog 13 = true := by kernel_rfl
@[simp] theorem szT_14 : szT Try.prog 14 = some 2 := by kernel_rfl
@[simp] theorem byT_14 : byT Try.prog 14 = some 24 := by kernel_rfl
@[simp] theorem aggT_14 : aggT Try.prog 14 = some true := by kernel_rfl
@[simp] theorem slT_14 : slT Try.prog 14 = none := by kernel_rfl
@[simp] theorem arT_14 : arT Try.prog 14 = none := by kernel_rfl
@[simp] theorem stT_14 : stT Try.prog 14 = false := by kernel_rfl
@[simp] theorem boT_14 : boT Try.prog 14 = false := by kernel_rfl
@[simp] theorem inT_14 : inT Try.prog 14 = false := by kernel_rfl
@[simp] theorem zeT_14 : zeT Try.prog 14 = some [AV.val (Value.string { data := { toList := [] } }), AV.val (Value.int IntKind.u64 0)] := by kernel_rfl
@[simp] theorem blT_14 : blT Try.prog 14 = true := by kernel_rfl
@[simp] theorem szT_15 : szT Try.prog 15 = some 1 := by kernel_rfl
@[simp] theorem byT_15 : byT Try.prog 15 = some 8 := by kernel_rfl
@[simp] theorem aggT_15 : aggT Try.prog 15 = some false := by kernel_rfl
@[simp] theorem slT_15 : slT Try.prog 15 = none := by kernel_rfl
@[simp] theorem arT_15 : arT Try.prog 15 = none := by kernel_rfl
@[simp] theorem stT_15 : stT Try.prog 15 = false := by kernel_rfl
@[simp] theorem boT_15 : boT Try.prog 15 = false := by kernel_rfl
@[simp] theorem inT_15 : inT Try.prog 15 = false := by kernel_rfl
@[simp] theorem zeT_15 : zeT Try.prog 15 = some [AV.val (Value.pointer none)] := by kernel_rfl
@[simp] theorem szT_16 : szT Try.prog 16 = some 1 := by kernel_rfl
@[simp] theorem byT_16 : byT Try.prog 16 = some 8 := by kernel_rfl
@[simp] theorem aggT_16 : aggT Try.prog 16 = some false := by kernel_rfl
@[simp] theorem slT_16 : slT Try.prog 16 = none := by kernel_rfl
@[simp] theorem arT_16 : arT Try.prog 16 = none := by kernel_rfl
@[simp] theorem stT_16 : stT Try.prog 16 = false := by kernel_rfl
@[simp] theorem boT_16 : boT Try.prog 16 = false := by kernel_rfl
@[simp] theorem inT_16 : inT Try.prog 16 = false := by kernel_rfl
@[simp] theorem zeT_16 : zeT Try.prog 16 = some [AV.val (Value.pointer none)] := by kernel_rfl
@[simp] theorem szT_17 : szT Try.prog 17 = some 1 := by kernel_rfl
@[simp] theorem byT_17 : byT Try.prog 17 = some 8 := by kernel_rfl
@[simp] theorem aggT_17 : aggT Try.prog 17 = some false := by kernel_rfl
@[simp] theorem slT_17 : slT Try.prog 17 = none := by kernel_rfl
@[simp] theorem arT_17 : arT Try.prog 17 = none := by kernel_rfl
@[simp] theorem stT_17 : stT Try.prog 17 = false := by kernel_rfl
@[simp] theorem boT_17 : boT Try.prog 17 = false := by kernel_rfl
@[simp] theorem inT_17 : inT Try.prog 17 = false := by kernel_rfl
@[simp] theorem zeT_17 : zeT Try.prog 17 = some [AV.val (Value.pointer none)] := by kernel_rfl
@[simp] theorem szT_18 : szT Try.prog 18 = some 1 := by kernel_rfl
@[simp] theorem byT_18 : byT Try.prog 18 = some 8 := by kernel_rfl
@[simp] theorem aggT_18 : aggT Try.prog 18 = some true := by kernel_rfl
@[simp] theorem slT_18 : slT Try.prog 18 = none := by kernel_rfl
@[simp] theorem arT_18 : arT Try.prog 18 = none := by kernel_rfl
@[simp] theorem stT_18 : stT Try.prog 18 = false := by kernel_rfl
@[simp] theorem boT_18 : boT Try.prog 18 = false := by kernel_rfl
@[simp] theorem inT_18 : inT Try.prog 18 = false := by kernel_rfl
@[simp] theorem zeT_18 : zeT Try.prog 18 = some [AV.val (Value.pointer none)] := by kernel_rfl
@[simp] theorem blT_18 : blT Try.prog 18 = true := by kernel_rfl
@[simp] theorem szT_19 : szT Try.prog 19 = some 1 := by kernel_rfl
@[simp] theorem byT_19 : byT Try.prog 19 = some 8 := by kernel_rfl
@[simp] theorem aggT_19 : aggT Try.prog 19 = some true := by kernel_rfl
@[simp] theorem slT_19 : slT Try.prog 19 = none := by kernel_rfl
@[simp] theorem arT_19 : arT Try.prog 19 = none := by kernel_rfl
@[simp] theorem stT_19 : stT Try.prog 19 = false := by kernel_rfl
@[simp] theorem boT_19 : boT Try.prog 19 = false := by kernel_rfl
@[simp] theorem inT_19 : inT Try.prog 19 = false := by kernel_rfl
@[simp] theorem zeT_19 : zeT Try.prog 19 = some [AV.val (Value.pointer none)] := by kernel_rfl
@[simp] theorem blT_19 : blT Try.prog 19 = true := by kernel_rfl
@[simp] theorem szT_20 : szT Try.prog 20 = some 1 := by kernel_rfl
@[simp] theorem byT_20 : byT Try.prog 20 = some 16 := by kernel_rfl
@[simp] theorem aggT_20 : aggT Try.prog 20 = some false := by kernel_rfl
@[simp] theorem slT_20 : slT Try.prog 20 = none := by kernel_rfl
@[simp] theorem arT_20 : arT Try.prog 20 = none := by kernel_rfl
@[simp] theorem stT_20 : stT Try.prog 20 = false := by kernel_rfl
@[simp] theorem boT_20 : boT Try.prog 20 = false := by kernel_rfl
@[simp] theorem inT_20 : inT Try.prog 20 = false := by kernel_rfl
@[simp] theorem zeT_20 : zeT Try.prog 20 = some [AV.val Value.nilIface] := by kernel_rfl
@[simp] theorem szT_21 : szT Try.prog 21 = some 1 := by kernel_rfl
@[simp] theorem byT_21 : byT Try.prog 21 = some 4 := by kernel_rfl
@[simp] theorem aggT_21 : aggT Try.prog 21 = some false := by kernel_rfl
@[simp] theorem slT_21 : slT Try.prog 21 = none := by kernel_rfl
@[simp] theorem arT_21 : arT Try.prog 21 = none := by kernel_rfl
@[simp] theorem stT_21 : stT Try.prog 21 = false := by kernel_rfl
@[simp] theorem boT_21 : boT Try.prog 21 = false := by kernel_rfl
@[simp] theorem inT_21 : inT Try.prog 21 = false := by kernel_rfl
@[simp] theorem zeT_21 : zeT Try.prog 21 = some [AV.val (Value.int IntKind.i32 0)] := by kernel_rfl
@[simp] theorem szT_22 : szT Try.prog 22 = some 1 := by kernel_rfl
@[simp] theorem byT_22 : byT Try.prog 22 = some 24 := by kernel_rfl
@[simp] theorem aggT_22 : aggT Try.prog 22 = some false := by kernel_rfl
@[simp] theorem slT_22 : slT Try.prog 22 = some 50 := by kernel_rfl
@[simp] theorem arT_22 : arT Try.prog 22 = none := by kernel_rfl
@[simp] theorem stT_22 : stT Try.prog 22 = false := by kernel_rfl
@[simp] theorem boT_22 : boT Try.prog 22 = false := by kernel_rfl
@[simp] theorem inT_22 : inT Try.prog 22 = false := by kernel_rfl
@[simp] theorem zeT_22 : zeT Try.prog 22 = some [AV.ro true []] := by kernel_rfl
@[simp] theorem szT_23 : szT Try.prog 23 = some 1 := by kernel_rfl
@[simp] theorem byT_23 : byT Try.prog 23 = some 24 := by kernel_rfl
@[simp] theorem aggT_23 : aggT Try.prog 23 = some false := by kernel_rfl
@[simp] theorem slT_23 : slT Try.prog 23 = some 60 := by kernel_rfl
@[simp] theorem arT_23 : arT Try.prog 23 = none := by kernel_rfl
@[simp] theorem stT_23 : stT Try.prog 23 = false := by kernel_rfl
@[simp] theorem boT_23 : boT Try.prog 23 = false := by kernel_rfl
@[simp] theorem inT_23 : inT Try.prog 23 = false := by kernel_rfl
@[simp] theorem zeT_23 : zeT Try.prog 23 = some [AV.ro true []] := by kernel_rfl
@[simp] theorem szT_24 : szT Try.prog 24 = some 5 := by kernel_rfl
@[simp] theorem byT_24 : byT Try.prog 24 = some 72 := by kernel_rfl
@[simp] theorem aggT_24 : aggT Try.prog 24 = some true := by kernel_rfl
@[simp] theorem slT_24 : slT Try.prog 24 = none := by kernel_rfl
@[simp] theorem arT_24 : arT Try.prog 24 = none := by kernel_rfl
@[simp] theorem stT_24 : stT Try.prog 24 = false := by kernel_rfl
@[simp] theorem boT_24 : boT Try.prog 24 = false := by kernel_rfl
@[simp] theorem inT_24 : inT Try.prog 24 = false := by kernel_rfl
@[simp] theorem zeT_24 : zeT Try.prog 24 = some [AV.ro true [], AV.val (Value.int IntKind.i64 0), AV.val (Value.int IntKind.i64 0), AV.val (Value.int IntKind.i64 0), AV.ro true []] := by kernel_rfl
@[simp] theorem blT_24 : blT Try.prog 24 = true := by kernel_rfl
@[simp] theorem szT_25 : szT Try.prog 25 = some 5 := by kernel_rfl
@[simp] theorem byT_25 : byT Try.prog 25 = some 72 := by kernel_rfl
@[simp] theorem aggT_25 : aggT Try.prog 25 = some true := by kernel_rfl
@[simp] theorem slT_25 : slT Try.prog 25 = none := by kernel_rfl
@[simp] theorem arT_25 : arT Try.prog 25 = none := by kernel_rfl
@[simp] theorem stT_25 : stT Try.prog 25 = false := by kernel_rfl
@[simp] theorem boT_25 : boT Try.prog 25 = false := by kernel_rfl
@[simp] theorem inT_25 : inT Try.prog 25 = false := by kernel_rfl
@[simp] theorem zeT_25 : zeT Try.prog 25 = some [AV.ro true [], AV.val (Value.int IntKind.i64 0), AV.val (Value.int IntKind.i64 0), AV.val (Value.int IntKind.i64 0), AV.ro true []] := by kernel_rfl
@[simp] theorem blT_25 : blT Try.prog 25 = true := by kernel_rfl
@[simp] theorem szT_26 : szT Try.prog 26 = some 1 := by kernel_rfl
@[simp] theorem byT_26 : byT Try.prog 26 = some 8 := by kernel_rfl
@[simp] theorem aggT_26 : aggT Try.prog 26 = some false := by kernel_rfl
@[simp] theorem slT_26 : slT Try.prog 26 = none := by kernel_rfl
@[simp] theorem arT_26 : arT Try.prog 26 = none := by kernel_rfl
@[simp] theorem stT_26 : stT Try.prog 26 = false := by kernel_rfl
@[simp] theorem boT_26 : boT Try.prog 26 = false := by kernel_rfl
@[simp] theorem inT_26 : inT Try.prog 26 = false := by kernel_rfl
@[simp] theorem zeT_26 : zeT Try.prog 26 = some [AV.val Value.nilFunc] := by kernel_rfl
@[simp] theorem szT_27 : szT Try.prog 27 = some 1 := by kernel_rfl
@[simp] theorem byT_27 : byT Try.prog 27 = some 8 := by kernel_rfl
@[simp] theorem aggT_27 : aggT Try.prog 27 = some false := by kernel_rfl
@[simp] theorem slT_27 : slT Try.prog 27 = none := by kernel_rfl
@[simp] theorem arT_27 : arT Try.prog 27 = none := by kernel_rfl
@[simp] theorem stT_27 : stT Try.prog 27 = false := by kernel_rfl
@[simp] theorem boT_27 : boT Try.prog 27 = false := by kernel_rfl
@[simp] theorem inT_27 : inT Try.prog 27 = false := by kernel_rfl
@[simp] theorem zeT_27 : zeT Try.prog 27 = some [AV.val Value.nilFunc] := by kernel_rfl
@[simp] theorem szT_28 : szT Try.prog 28 = some 1 := by kernel_rfl
@[simp] theorem byT_28 : byT Try.prog 28 = some 8 := by kernel_rfl
@[simp] theorem aggT_28 : aggT Try.prog 28 = some false := by kernel_rfl
@[simp] theorem slT_28 : slT Try.prog 28 = none := by kernel_rfl
@[simp] theorem arT_28 : arT Try.prog 28 = none := by kernel_rfl
@[simp] theorem stT_28 : stT Try.prog 28 = false := by kernel_rfl
@[simp] theorem boT_28 : boT Try.prog 28 = false := by kernel_rfl
@[simp] theorem inT_28 : inT Try.prog 28 = false := by kernel_rfl
@[simp] theorem zeT_28 : zeT Try.prog 28 = some [AV.val (Value.int IntKind.i64 0)] := by kernel_rfl
@[simp] theorem szT_29 : szT Try.prog 29 = some 1 := by kernel_rfl
@[simp] theorem byT_29 : byT Try.prog 29 = some 8 := by kernel_rfl
@[simp] theorem aggT_29 : aggT Try.prog 29 = some false := by kernel_rfl
@[simp] theorem slT_29 : slT Try.prog 29 = none := by kernel_rfl
@[simp] theorem arT_29 : arT Try.prog 29 = none := by kernel_rfl
@[simp] theorem stT_29 : stT Try.prog 29 = false := by kernel_rfl
@[simp] theorem boT_29 : boT Try.prog 29 = false := by kernel_rfl
@[simp] theorem inT_29 : inT Try.prog 29 = false := by kernel_rfl
@[simp] theorem zeT_29 : zeT Try.prog 29 = some [AV.val Value.nilFunc] := by kernel_rfl
@[simp] theorem szT_30 : szT Try.prog 30 = some 1 := by kernel_rfl
@[simp] theorem byT_30 : byT Try.prog 30 = some 0 := by kernel_rfl
@[simp] theorem aggT_30 : aggT Try.prog 30 = some false := by kernel_rfl
@[simp] theorem slT_30 : slT Try.prog 30 = none := by kernel_rfl
@[simp] theorem arT_30 : arT Try.prog 30 = none := by kernel_rfl
@[simp] theorem stT_30 : stT Try.prog 30 = false := by kernel_rfl
@[simp] theorem boT_30 : boT Try.prog 30 = false := by kernel_rfl
@[simp] theorem inT_30 : inT Try.prog 30 = false := by kernel_rfl
@[simp] theorem szT_31 : szT Try.prog 31 = some 1 := by kernel_rfl
@[simp] theorem byT_31 : byT Try.prog 31 = some 8 := by kernel_rfl
@[simp] theorem aggT_31 : aggT Try.prog 31 = some false := by kernel_rfl
@[simp] theorem slT_31 : slT Try.prog 31 = none := by kernel_rfl
@[simp] theorem arT_31 : arT Try.prog 31 = none := by kernel_rfl
@[simp] theorem stT_31 : stT Try.prog 31 = false := by kernel_rfl
@[simp] theorem boT_31 : boT Try.prog 31 = false := by kernel_rfl
@[simp] theorem inT_31 : inT Try.prog 31 = false := by kernel_rfl
@[simp] theorem zeT_31 : zeT Try.prog 31 = some [AV.val Value.nilFunc] := by kernel_rfl
@[simp] theorem szT_32 : szT Try.prog 32 = some 1 := by kernel_rfl
@[simp] theorem byT_32 : byT Try.prog 32 = some 8 := by kernel_rfl
@[simp] theorem aggT_32 : aggT Try.prog 32 = some false := by kernel_rfl
@[simp] theorem slT_32 : slT Try.prog 32 = none := by kernel_rfl
@[simp] theorem arT_32 : arT Try.prog 32 = none := by kernel_rfl
@[simp] theorem stT_32 : stT Try.prog 32 = false := by kernel_rfl
@[simp] theorem boT_32 : boT Try.prog 32 = false := by kernel_rfl
@[simp] theorem inT_32 : inT Try.prog 32 = false := by kernel_rfl
@[simp] theorem zeT_32 : zeT Try.prog 32 = some [AV.val Value.nilFunc] := by kernel_rfl
@[simp] theorem szT_33 : szT Try.prog 33 = some 1 := by kernel_rfl
@[simp] theorem byT_33 : byT Try.prog 33 = some 8 := by kernel_rfl
@[simp] theorem aggT_33 : aggT Try.prog 33 = some false := by kernel_rfl
@[simp] theorem slT_33 : slT Try.prog 33 = none := by kernel_rfl
@[simp] theorem arT_33 : arT Try.prog 33 = none := by kernel_rfl
@[simp] theorem stT_33 : stT Try.prog 33 = false := by kernel_rfl
@[simp] theorem boT_33 : boT Try.prog 33 = false := by kernel_rfl
@[simp] theorem inT_33 : inT Try.prog 33 = false := by kernel_rfl
@[simp] theorem zeT_33 : zeT Try.prog 33 = some [AV.val Value.nilFunc] := by kernel_rfl
@[simp] theorem szT_34 : szT Try.prog 34 = some 1 := by kernel_rfl
@[simp] theorem byT_34 : byT Try.prog 34 = some 8 := by kernel_rfl
@[simp] theorem aggT_34 : aggT Try.prog 34 = some false := by kernel_rfl
@[simp] theorem slT_34 : slT Try.prog 34 = none := by kernel_rfl
@[simp] theorem arT_34 : arT Try.prog 34 = none := by kernel_rfl
@[simp] theorem stT_34 : stT Try.prog 34 = false := by kernel_rfl
@[simp] theorem boT_34 : boT Try.prog 34 = false := by kernel_rfl
@[simp] theorem inT_34 : inT Try.prog 34 = false := by kernel_rfl
@[simp] theorem zeT_34 : zeT Try.prog 34 = some [AV.val Value.nilFunc] := by kernel_rfl
@[simp] theorem szT_35 : szT Try.prog 35 = some 1 := by kernel_rfl
@[simp] theorem byT_35 : byT Try.prog 35 = some 8 := by kernel_rfl
@[simp] theorem aggT_35 : aggT Try.prog 35 = some false := by kernel_rfl
@[simp] theorem slT_35 : slT Try.prog 35 = none := by kernel_rfl
@[simp] theorem arT_35 : arT Try.prog 35 = none := by kernel_rfl
@[simp] theorem stT_35 : stT Try.prog 35 = false := by kernel_rfl
@[simp] theorem boT_35 : boT Try.prog 35 = false := by kernel_rfl
@[simp] theorem inT_35 : inT Try.prog 35 = false := by kernel_rfl
@[simp] theorem zeT_35 : zeT Try.prog 35 = some [AV.val Value.nilFunc] := by kernel_rfl
@[simp] theorem szT_36 : szT Try.prog 36 = some 1 := by kernel_rfl
@[simp] theorem byT_36 : byT Try.prog 36 = some 0 := by kernel_rfl
@[simp] theorem aggT_36 : aggT Try.prog 36 = some false := by kernel_rfl
@[simp] theorem slT_36 : slT Try.prog 36 = none := by kernel_rfl
@[simp] theorem arT_36 : arT Try.prog 36 = none := by kernel_rfl
@[simp] theorem stT_36 : stT Try.prog 36 = false := by kernel_rfl
@[simp] theorem boT_36 : boT Try.prog 36 = false := by kernel_rfl
@[simp] theorem inT_36 : inT Try.prog 36 = false := by kernel_rfl
@[simp] theorem szT_37 : szT Try.prog 37 = some 1 := by kernel_rfl
@[simp] theorem byT_37 : byT Try.prog 37 = some 8 := by kernel_rfl
@[simp] theorem aggT_37 : aggT Try.prog 37 = some false := by kernel_rfl
@[simp] theorem slT_37 : slT Try.prog 37 = none := by kernel_rfl
@[simp] theorem arT_37 : arT Try.prog 37 = none := by kernel_rfl
@[simp] theorem stT_37 : stT Try.prog 37 = false := by kernel_rfl
@[simp] theorem boT_37 : boT Try.prog 37 = false := by kernel_rfl
@[simp] theorem inT_37 : inT Try.prog 37 = false := by kernel_rfl
@[simp] theorem zeT_37 : zeT Try.prog 37 = some [AV.val Value.nilFunc] := by kernel_rfl
@[simp] theorem szT_38 : szT Try.prog 38 = some 1 := by kernel_rfl
@[simp] theorem byT_38 : byT Try.prog 38 = some 8 := by kernel_rfl
@[simp] theorem aggT_38 : aggT Try.prog 38 = some false := by kernel_rfl
@[simp] theorem slT_38 : slT Try.prog 38 = none := by kernel_rfl
@[simp] theorem arT_38 : arT Try.prog 38 = none := by kernel_rfl
@[simp] theorem stT_38 : stT Try.prog 38 = false := by kernel_rfl
@[simp] theorem boT_38 : boT Try.prog 38 = false := by kernel_rfl
@[simp] theorem inT_38 : inT Try.prog 38 = false := by kernel_rfl
@[simp] theorem zeT_38 : zeT Try.prog 38 = some [AV.val Value.nilFunc] := by kernel_rfl
@[simp] theorem szT_39 : szT Try.prog 39 = some 1 := by kernel_rfl
@[simp] theorem byT_39 : byT Try.prog 39 = some 8 := by kernel_rfl
@[simp] theorem aggT_39 : aggT Try.prog 39 = some false := by kernel_rfl
@[simp] theorem slT_39 : slT Try.prog 39 = none := by kernel_rfl
@[simp] theorem arT_39 : arT Try.prog 39 = none := by kernel_rfl
@[simp] theorem stT_39 : stT Try.prog 39 = false := by kernel_rfl
@[simp] theorem boT_39 : boT Try.prog 39 = false := by kernel_rfl
@[simp] theorem inT_39 : inT Try.prog 39 = false := by kernel_rfl
@[simp] theorem zeT_39 : zeT Try.prog 39 = some [AV.val Value.nilFunc] := by kernel_rfl
@[simp] theorem szT_40 : szT Try.prog 40 = some 1 := by kernel_rfl
@[simp] theorem byT_40 : byT Try.prog 40 = some 24 := by kernel_rfl
@[simp] theorem aggT_40 : aggT Try.prog 40 = some false := by kernel_rfl
@[simp] theorem slT_40 : slT Try.prog 40 = some 3 := by kernel_rfl
@[simp] theorem arT_40 : arT Try.prog 40 = none := by kernel_rfl
@[simp] theorem stT_40 : stT Try.prog 40 = false := by kernel_rfl
@[simp] theorem boT_40 : boT Try.prog 40 = false := by kernel_rfl
@[simp] theorem inT_40 : inT Try.prog 40 = false := by kernel_rfl
@[simp] theorem zeT_40 : zeT Try.prog 40 = some [AV.ro true []] := by kernel_rfl
@[simp] theorem szT_41 : szT Try.prog 41 = some 1 := by kernel_rfl
@[simp] theorem byT_41 : byT Try.prog 41 = some 0 := by kernel_rfl
@[simp] theorem aggT_41 : aggT Try.prog 41 = some false := by kernel_rfl
@[simp] theorem slT_41 : slT Try.prog 41 = none := by kernel_rfl
@[simp] theorem arT_41 : arT Try.prog 41 = none := by kernel_rfl
@[simp] theorem stT_41 : stT Try.prog 41 = false := by kernel_rfl
@[simp] theorem boT_41 : boT Try.prog 41 = false := by kernel_rfl
@[simp] theorem inT_41 : inT Try.prog 41 = false := by kernel_rfl
@[simp] theorem szT_42 : szT Try.prog 42 = some 1 := by kernel_rfl
@[simp] theorem byT_42 : byT Try.prog 42 = some 8 := by kernel_rfl
@[simp] theorem aggT_42 : aggT Try.prog 42 = some false := by kernel_rfl
@[simp] theorem slT_42 : slT Try.prog 42 = none := by kernel_rfl
@[simp] theorem arT_42 : arT Try.prog 42 = none := by kernel_rfl
@[simp] theorem stT_42 : stT Try.prog 42 = false := by kernel_rfl
@[simp] theorem boT_42 : boT Try.prog 42 = false := by kernel_rfl
@[simp] theorem inT_42 : inT Try.prog 42 = false := by kernel_rfl
@[simp] theorem zeT_42 : zeT Try.prog 42 = some [AV.val Value.nilFunc] := by kernel_rfl
@[simp] theorem szT_43 : szT Try.prog 43 = some 1 := by kernel_rfl
@[simp] theorem byT_43 : byT Try.prog 43 = some 8 := by kernel_rfl
@[simp] theorem aggT_43 : aggT Try.prog 43 = some false := by kernel_rfl
@[simp] theorem slT_43 : slT Try.prog 43 = none := by kernel_rfl
@[simp] theorem arT_43 : arT Try.prog 43 = none := by kernel_rfl
@[simp] theorem stT_43 : stT Try.prog 43 = false := by kernel_rfl
@[simp] theorem boT_43 : boT Try.prog 43 = false := by kernel_rfl
@[simp] theorem inT_43 : inT Try.prog 43 = false := by kernel_rfl
@[simp] theorem zeT_43 : zeT Try.prog 43 = some [AV.val Value.nilFunc] := by kernel_rfl
@[simp] theorem szT_44 : szT Try.prog 44 = some 1 := by kernel_rfl
@[simp] theorem byT_44 : byT Try.prog 44 = some 8 := by kernel_rfl
@[simp] theorem aggT_44 : aggT Try.prog 44 = some false := by kernel_rfl
@[simp] theorem slT_44 : slT Try.prog 44 = none := by kernel_rfl
@[simp] theorem arT_44 : arT Try.prog 44 = none := by kernel_rfl
@[simp] theorem stT_44 : stT Try.prog 44 = false := by kernel_rfl
@[simp] theorem boT_44 : boT Try.prog 44 = false := by kernel_rfl
@[simp] theorem inT_44 : inT Try.prog 44 = false := by kernel_rfl
@[simp] theorem zeT_44 : zeT Try.prog 44 = some [AV.val Value.nilFunc] := by kernel_rfl
@[simp] theorem szT_45 : szT Try.prog 45 = some 1 := by kernel_rfl
@[simp] theorem byT_45 : byT Try.prog 45 = some 8 := by kernel_rfl
@[simp] theorem aggT_45 : aggT Try.prog 45 = some false := by kernel_rfl
@[simp] theorem slT_45 : slT Try.prog 45 = none := by kernel_rfl
@[simp] theorem arT_45 : arT Try.prog 45 = none := by kernel_rfl
@[simp] theorem stT_45 : stT Try.prog 45 = false := by kernel_rfl
@[simp] theorem boT_45 : boT Try.prog 45 = false := by kernel_rfl
@[simp] theorem inT_45 : inT Try.prog 45 = false := by kernel_rfl
@[simp] theorem zeT_45 : zeT Try.prog 45 = some [AV.val Value.nilFunc] := by kernel_rfl
@[simp] theorem szT_46 : szT Try.prog 46 = some 1 := by kernel_rfl
@[simp] theorem byT_46 : byT Try.prog 46 = some 8 := by kernel_rfl
@[simp] theorem aggT_46 : aggT Try.prog 46 = some false := by kernel_rfl
@[simp] theorem slT_46 : slT Try.prog 46 = none := by kernel_rfl
@[simp] theorem arT_46 : arT Try.prog 46 = none := by kernel_rfl
@[simp] theorem stT_46 : stT Try.prog 46 = false := by kernel_rfl
@[simp] theorem boT_46 : boT Try.prog 46 = false := by kernel_rfl
@[simp] theorem inT_46 : inT Try.prog 46 = false := by kernel_rfl
@[simp] theorem zeT_46 : zeT Try.prog 46 = some [AV.val Value.nilFunc] := by kernel_rfl
@[simp] theorem szT_47 : szT Try.prog 47 = some 1 := by kernel_rfl
@[simp] theorem byT_47 : byT Try.prog 47 = some 8 := by kernel_rfl
@[simp] theorem aggT_47 : aggT Try.prog 47 = some false := by kernel_rfl
@[simp] theorem slT_47 : slT Try.prog 47 = none := by kernel_rfl
@[simp] theorem arT_47 : arT Try.prog 47 = none := by kernel_rfl
@[simp] theorem stT_47 : stT Try.prog 47 = false := by kernel_rfl
@[simp] theorem boT_47 : boT Try.prog 47 = false := by kernel_rfl
@[simp] theorem inT_47 : inT Try.prog 47 = false := by kernel_rfl
@[simp] theorem zeT_47 : zeT Try.prog 47 = some [AV.val Value.nilFunc] := by kernel_rfl
@[simp] theorem szT_48 : szT Try.prog 48 = some 1 := by kernel_rfl
@[simp] theorem byT_48 : byT Try.prog 48 = some 8 := by kernel_rfl
@[simp] theorem aggT_48 : aggT Try.prog 48 = some false := by kernel_rfl
@[simp] theorem slT_48 : slT Try.prog 48 = none := by kernel_rfl
@[simp] theorem arT_48 : arT Try.prog 48 = none := by kernel_rfl
@[simp] theorem stT_48 : stT Try.prog 48 = false := by kernel_rfl
@[simp] theorem boT_48 : boT Try.prog 48 = false := by kernel_rfl
@[simp] theorem inT_48 : inT Try.prog 48 = false := by kernel_rfl
@[simp] theorem zeT_48 : zeT Try.prog 48 = some [AV.val Value.nilFunc] := by kernel_rfl
@[simp] theorem szT_49 : szT Try.prog 49 = some 5 := by kernel_rfl
@[simp] theorem byT_49 : byT Try.prog 49 = some 72 := by kernel_rfl
@[simp] theorem aggT_49 : aggT Try.prog 49 = some true := by kernel_rfl
@[simp] theorem slT_49 : slT Try.prog 49 = none := by kernel_rfl
@[simp] theorem arT_49 : arT Try.prog 49 = none := by kernel_rfl
@[simp] theorem stT_49 : stT Try.prog 49 = false := by kernel_rfl
@[simp] theorem boT_49 : boT Try.prog 49 = false := by kernel_rfl
@[simp] theorem inT_49 : inT Try.prog 49 = false := by kernel_rfl
@[simp] theorem zeT_49 : zeT Try.prog 49 = some [AV.val (Value.bool false), AV.val (Value.int IntKind.i64 0), AV.val (Value.int IntKind.i64 0), AV.ro true [], AV.ro true []] := by kernel_rfl
@[simp] theorem blT_49 : blT Try.prog 49 = true := by kernel_rfl
@[simp] theorem szT_50 : szT Try.prog 50 = some 5 := by kernel_rfl
@[simp] theorem byT_50 : byT Try.prog 50 = some 72 := by kernel_rfl
@[simp] theorem aggT_50 : aggT Try.prog 50 = some true := by kernel_rfl
@[simp] theorem slT_50 : slT Try.prog 50 = none := by kernel_rfl
@[simp] theorem arT_50 : arT Try.prog 50 = none := by kernel_rfl
@[simp] theorem stT_50 : stT Try.prog 50 = false := by kernel_rfl
@[simp] theorem boT_50 : boT Try.prog 50 = false := by kernel_rfl
@[simp] theorem inT_50 : inT Try.prog 50 = false := by kernel_rfl
@[simp] theorem zeT_50 : zeT Try.prog 50 = some [AV.val (Value.bool false), AV.val (Value.int IntKind.i64 0), AV.val (Value.int IntKind.i64 0), AV.ro true [], AV.ro true []] := by kernel_rfl
@[simp] theorem blT_50 : blT Try.prog 50 = true := by kernel_rfl
@[simp] theorem szT_51 : szT Try.prog 51 = some 1 := by kernel_rfl
@[simp] theorem byT_51 : byT Try.prog 51 = some 8 := by kernel_rfl
@[simp] theorem aggT_51 : aggT Try.prog 51 = some false := by kernel_rfl
@[simp] theorem slT_51 : slT Try.prog 51 = none := by kernel_rfl
@[simp] theorem arT_51 : arT Try.prog 51 = none := by kernel_rfl
@[simp] theorem stT_51 : stT Try.prog 51 = false := by kernel_rfl
@[simp] theorem boT_51 : boT Try.prog 51 = false := by kernel_rfl
@[simp] theorem inT_51 : inT Try.prog 51 = false := by kernel_rfl
@[simp] theorem zeT_51 : zeT Try.prog 51 = some [AV.val Value.nilFunc] := by kernel_rfl
@[simp] theorem szT_52 : szT Try.prog 52 = some 1 := by kernel_rfl
@[simp] theorem byT_52 : byT Try.prog 52 = some 24 := by kernel_rfl
@[simp] theorem aggT_52 : aggT Try.prog 52 = some false := by kernel_rfl
@[simp] theorem slT_52 : slT Try.prog 52 = some 54 := by kernel_rfl
@[simp] theorem arT_52 : arT Try.prog 52 = none := by kernel_rfl
@[simp] theorem stT_52 : stT Try.prog 52 = false := by kernel_rfl
@[simp] theorem boT_52 : boT Try.prog 52 = false := by kernel_rfl
@[simp] theorem inT_52 : inT Try.prog 52 = false := by kernel_rfl
@[simp] theorem zeT_52 : zeT Try.prog 52 = some [AV.ro true []] := by kernel_rfl
@[simp] theorem szT_53 : szT Try.prog 53 = some 5 := by kernel_rfl
@[simp] theorem byT_53 : byT Try.prog 53 = some 56 := by kernel_rfl
@[simp] theorem aggT_53 : aggT Try.prog 53 = some true := by kernel_rfl
@[simp] theorem slT_53 : slT Try.prog 53 = none := by kernel_rfl
@[simp] theorem arT_53 : arT Try.prog 53 = none := by kernel_rfl
@[simp] theorem stT_53 : stT Try.prog 53 = false := by kernel_rfl
@[simp] theorem boT_53 : boT Try.prog 53 = false := by kernel_rfl
@[simp] theorem inT_53 : inT Try.prog 53 = false := by kernel_rfl
@[simp] theorem zeT_53 : zeT Try.prog 53 = some [AV.val (Value.int IntKind.i64 0), AV.val (Value.int IntKind.i64 0), AV.val (Value.int IntKind.i64 0), AV.val (Value.int IntKind.i64 0), AV.ro true []] := by kernel_rfl
@[simp] theorem blT_53 : blT Try.prog 53 = true := by kernel_rfl
@[simp] theorem szT_54 : szT Try.prog 54 = some 5 := by kernel_rfl
@[simp] theorem byT_54 : byT Try.prog 54 = some 56 := by kernel_rfl
@[simp] theorem aggT_54 : aggT Try.prog 54 = some true := by kernel_rfl
@[simp] theorem slT_54 : slT Try.prog 54 = none := by kernel_rfl
@[simp] theorem arT_54 : arT Try.prog 54 = none := by kernel_rfl
@[simp] theorem stT_54 : stT Try.prog 54 = false := by kernel_rfl
@[simp] theorem boT_54 : boT Try.prog 54 = false := by kernel_rfl
@[simp] theorem inT_54 : inT Try.prog 54 = false := by kernel_rfl
@[simp] theorem zeT_54 : zeT Try.prog 54 = some [AV.val (Value.int IntKind.i64 0), AV.val (Value.int IntKind.i64 0), AV.val (Value.int IntKind.i64 0), AV.val (Value.int IntKind.i64 0), AV.ro true []] := by kernel_rfl
@[simp] theorem blT_54 : blT Try.prog 54 = true := by kernel_rfl
@[simp] theorem szT_55 : szT Try.prog 55 = some 1 := by kernel_rfl
@[simp] theorem byT_55 : byT Try.prog 55 = some 8 := by kernel_rfl
@[simp] theorem aggT_55 : aggT Try.prog 55 = some false := by kernel_rfl
@[simp] theorem slT_55 : slT Try.prog 55 = none := by kernel_rfl
@[simp] theorem arT_55 : arT Try.prog 55 = none := by kernel_rfl
@[simp] theorem stT_55 : stT Try.prog 55 = false := by kernel_rfl
@[simp] theorem boT_55 : boT Try.prog 55 = false := by kernel_rfl
@[simp] theorem inT_55 : inT Try.prog 55 = false := by kernel_rfl
@[simp] theorem zeT_55 : zeT Try.prog 55 = some [AV.val Value.nilFunc] := by kernel_rfl
@[simp] theorem szT_56 : szT Try.prog 56 = some 1 := by kernel_rfl
@[simp] theorem byT_56 : byT Try.prog 56 = some 8 := by kernel_rfl
@[simp] theorem aggT_56 : aggT Try.prog 56 = some false := by kernel_rfl
@[simp] theorem slT_56 : slT Try.prog 56 = none := by kernel_rfl
@[simp] theorem arT_56 : arT Try.prog 56 = none := by kernel_rfl
@[simp] theorem stT_56 : stT Try.prog 56 = false := by kernel_rfl
@[simp] theorem boT_56 : boT Try.prog 56 = false := by kernel_rfl
@[simp] theorem inT_56 : inT Try.prog 56 = false := by kernel_rfl
@[simp] theorem zeT_56 : zeT Try.prog 56 = some [AV.val Value.nilFunc] := by kernel_rfl
@[simp] theorem szT_57 : szT Try.prog 57 = some 1 := by kernel_rfl
@[simp] theorem byT_57 : byT Try.prog 57 = some 8 := by kernel_rfl
@[simp] theorem aggT_57 : aggT Try.prog 57 = some false := by kernel_rfl
@[simp] theorem slT_57 : slT Try.prog 57 = none := by kernel_rfl
@[simp] theorem arT_57 : arT Try.prog 57 = none := by kernel_rfl
@[simp] theorem stT_57 : stT Try.prog 57 = false := by kernel_rfl
@[simp] theorem boT_57 : boT Try.prog 57 = false := by kernel_rfl
@[simp] theorem inT_57 : inT Try.prog 57 = false := by kernel_rfl
@[simp] theorem zeT_57 : zeT Try.prog 57 = some [AV.val Value.nilFunc] := by kernel_rfl
@[simp] theorem szT_58 : szT Try.prog 58 = some 1 := by kernel_rfl
@[simp] theorem byT_58 : byT Try.prog 58 = some 8 := by kernel_rfl
@[simp] theorem aggT_58 : aggT Try.prog 58 = some false := by kernel_rfl
@[simp] theorem slT_58 : slT Try.prog 58 = none := by kernel_rfl
@[simp] theorem arT_58 : arT Try.prog 58 = none := by kernel_rfl
@[simp] theorem stT_58 : stT Try.prog 58 = false := by kernel_rfl
@[simp] theorem boT_58 : boT Try.prog 58 = false := by kernel_rfl
@[simp] theorem inT_58 : inT Try.prog 58 = false := by kernel_rfl
@[simp] theorem zeT_58 : zeT Try.prog 58 = some [AV.val Value.nilFunc] := by kernel_rfl
@[simp] theorem szT_59 : szT Try.prog 59 = some 3 := by kernel_rfl
@[simp] theorem byT_59 : byT Try.prog 59 = some 24 := by kernel_rfl
@[simp] theorem aggT_59 : aggT Try.prog 59 = some true := by kernel_rfl
@[simp] theorem slT_59 : slT Try.prog 59 = none := by kernel_rfl
@[simp] theorem arT_59 : arT Try.prog 59 = none := by kernel_rfl
@[simp] theorem stT_59 : stT Try.prog 59 = false := by kernel_rfl
@[simp] theorem boT_59 : boT Try.prog 59 = false := by kernel_rfl
@[simp] theorem inT_59 : inT Try.prog 59 = true := by kernel_rfl
@[simp] theorem zeT_59 : zeT Try.prog 59 = some [AV.val (Value.int IntKind.i64 0), AV.val (Value.int IntKind.i64 0), AV.val (Value.int IntKind.i64 0)] := by kernel_rfl
@[simp] theorem blT_59 : blT Try.prog 59 = true := by kernel_rfl
@[simp] theorem szT_60 : szT Try.prog 60 = some 3 := by kernel_rfl
@[simp] theorem byT_60 : byT Try.prog 60 = some 24 := by kernel_rfl
@[simp] theorem aggT_60 : aggT Try.prog 60 = some true := by kernel_rfl
@[simp] theorem slT_60 : slT Try.prog 60 = none := by kernel_rfl
@[simp] theorem arT_60 : arT Try.prog 60 = none := by kernel_rfl
@[simp] theorem stT_60 : stT Try.prog 60 = false := by kernel_rfl
@[simp] theorem boT_60 : boT Try.prog 60 = false := by kernel_rfl
@[simp] theorem inT_60 : inT Try.prog 60 = true := by kernel_rfl
@[simp] theorem zeT_60 : zeT Try.prog 60 = some [AV.val (Value.int IntKind.i64 0), AV.val (Value.int IntKind.i64 0), AV.val (Value.int IntKind.i64 0)] := by kernel_rfl
@[simp] theorem blT_60 : blT Try.prog 60 = true := by kernel_rfl
@[simp] theorem szT_61 : szT Try.prog 61 = some 1 := by kernel_rfl
@[simp] theorem byT_61 : byT Try.prog 61 = some 8 := by kernel_rfl
@[simp] theorem aggT_61 : aggT Try.prog 61 = some false := by kernel_rfl
@[simp] theorem slT_61 : slT Try.prog 61 = none := by kernel_rfl
@[simp] theorem arT_61 : arT Try.prog 61 = none := by kernel_rfl
@[simp] theorem stT_61 : stT Try.prog 61 = false := by kernel_rfl
@[simp] theorem boT_61 : boT Try.prog 61 = false := by kernel_rfl
@[simp] theorem inT_61 : inT Try.prog 61 = false := by kernel_rfl
@[simp] theorem zeT_61 : zeT Try.prog 61 = some [AV.val Value.nilFunc] := by kernel_rfl
@[simp] theorem szT_62 : szT Try.prog 62 = some 1 := by kernel_rfl
@[simp] theorem byT_62 : byT Try.prog 62 = some 8 := by kernel_rfl
@[simp] theorem aggT_62 : aggT Try.prog 62 = some false := by kernel_rfl
@[simp] theorem slT_62 : slT Try.prog 62 = none := by kernel_rfl
@[simp] theorem arT_62 : arT Try.prog 62 = none := by kernel_rfl
@[simp] theorem stT_62 : stT Try.prog 62 = false := by kernel_rfl
@[simp] theorem boT_62 : boT Try.prog 62 = false := by kernel_rfl
@[simp] theorem inT_62 : inT Try.prog 62 = false := by kernel_rfl
@[simp] theorem zeT_62 : zeT Try.prog 62 = some [AV.val Value.nilFunc] := by kernel_rfl
@[simp] theorem szT_63 : szT Try.prog 63 = some 1 := by kernel_rfl
@[simp] theorem byT_63 : byT Try.prog 63 = some 8 := by kernel_rfl
@[simp] theorem aggT_63 : aggT Try.prog 63 = some false := by kernel_rfl
@[simp] theorem slT_63 : slT Try.prog 63 = none := by kernel_rfl
@[simp] theorem arT_63 : arT Try.prog 63 = none := by kernel_rfl
@[simp] theorem stT_63 : stT Try.prog 63 = false := by kernel_rfl
@[simp] theorem boT_63 : boT Try.prog 63 = false := by kernel_rfl
@[simp] theorem inT_63 : inT Try.prog 63 = false := by kernel_rfl
@[simp] theorem zeT_63 : zeT Try.prog 63 = some [AV.val Value.nilFunc] := by kernel_rfl
@[simp] theorem szT_64 : szT Try.prog 64 = some 1 := by kernel_rfl
@[simp] theorem byT_64 : byT Try.prog 64 = some 8 := by kernel_rfl
@[simp] theorem aggT_64 : aggT Try.prog 64 = some false := by kernel_rfl
@[simp] theorem slT_64 : slT Try.prog 64 = none := by kernel_rfl
@[simp] theorem arT_64 : arT Try.prog 64 = none := by kernel_rfl
@[simp] theorem stT_64 : stT Try.prog 64 = false := by kernel_rfl
@[simp] theorem boT_64 : boT Try.prog 64 = false := by kernel_rfl
@[simp] theorem inT_64 : inT Try.prog 64 = false := by kernel_rfl
@[simp] theorem zeT_64 : zeT Try.prog 64 = some [AV.val Value.nilFunc] := by kernel_rfl
@[simp] theorem szT_65 : szT Try.prog 65 = some 1 := by kernel_rfl
@[simp] theorem byT_65 : byT Try.prog 65 = some 8 := by kernel_rfl
@[simp] theorem aggT_65 : aggT Try.prog 65 = some false := by kernel_rfl
@[simp] theorem slT_65 : slT Try.prog 65 = none := by kernel_rfl
@[simp] theorem arT_65 : arT Try.prog 65 = none := by kernel_rfl
@[simp] theorem stT_65 : stT Try.prog 65 = false := by kernel_rfl
@[simp] theorem boT_65 : boT Try.prog 65 = false := by kernel_rfl
@[simp] theorem inT_65 : inT Try.prog 65 = false := by kernel_rfl
@[simp] theorem zeT_65 : zeT Try.prog 65 = some [AV.val Value.nilFunc] := by kernel_rfl
@[simp] theorem szT_66 : szT Try.prog 66 = some 1 := by kernel_rfl
@[simp] theorem byT_66 : byT Try.prog 66 = some 8 := by kernel_rfl
@[simp] theorem aggT_66 : aggT Try.prog 66 = some false := by kernel_rfl
@[simp] theorem slT_66 : slT Try.prog 66 = none := by kernel_rfl
@[simp] theorem arT_66 : arT Try.prog 66 = none := by kernel_rfl
@[simp] theorem stT_66 : stT Try.prog 66 = false := by kernel_rfl
@[simp] theorem boT_66 : boT Try.prog 66 = false := by kernel_rfl
@[simp] theorem inT_66 : inT Try.prog 66 = false := by kernel_rfl
@[simp] theorem zeT_66 : zeT Try.prog 66 = some [AV.val (Value.pointer none)] := by kernel_rfl
@[simp] theorem szT_67 : szT Try.prog 67 = some 1 := by kernel_rfl
@[simp] theorem byT_67 : byT Try.prog 67 = some 8 := by kernel_rfl
@[simp] theorem aggT_67 : aggT Try.prog 67 = some false := by kernel_rfl
@[simp] theorem slT_67 : slT Try.prog 67 = none := by kernel_rfl
@[simp] theorem arT_67 : arT Try.prog 67 = none := by kernel_rfl
@[simp] theorem stT_67 : stT Try.prog 67 = false := by kernel_rfl
@[simp] theorem boT_67 : boT Try.prog 67 = false := by kernel_rfl
@[simp] theorem inT_67 : inT Try.prog 67 = false := by kernel_rfl
@[simp] theorem zeT_67 : zeT Try.prog 67 = some [AV.val Value.nilFunc] := by kernel_rfl
@[simp] theorem szT_68 : szT Try.prog 68 = some 1 := by kernel_rfl
@[simp] theorem byT_68 : byT Try.prog 68 = some 8 := by kernel_rfl
@[simp] theorem aggT_68 : aggT Try.prog 68 = some false := by kernel_rfl
@[simp] theorem slT_68 : slT Try.prog 68 = none := by kernel_rfl
@[simp] theorem arT_68 : arT Try.prog 68 = none := by kernel_rfl
@[simp] theorem stT_68 : stT Try.prog 68 = false := by kernel_rfl
@[simp] theorem boT_68 : boT Try.prog 68 = false := by kernel_rfl
@[simp] theorem inT_68 : inT Try.prog 68 = false := by kernel_rfl
@[simp] theorem zeT_68 : zeT Try.prog 68 = some [AV.val Value.nilFunc] := by kernel_rfl
@[simp] theorem szT_69 : szT Try.prog 69 = some 1 := by kernel_rfl
@[simp] theorem byT_69 : byT Try.prog 69 = some 8 := by kernel_rfl
@[simp] theorem aggT_69 : aggT Try.prog 69 = some false := by kernel_rfl
@[simp] theorem slT_69 : slT Try.prog 69 = none := by kernel_rfl
@[simp] theorem arT_69 : arT Try.prog 69 = none := by kernel_rfl
@[simp] theorem stT_69 : stT Try.prog 69 = false := by kernel_rfl
@[simp] theorem boT_69 : boT Try.prog 69 = false := by kernel_rfl
@[simp] theorem inT_69 : inT Try.prog 69 = false := by kernel_rfl
@[simp] theorem zeT_69 : zeT Try.prog 69 = some [AV.val Value.nilFunc] := by kernel_rfl
@[simp] theorem szT_70 : szT Try.prog 70 = some 1 := by kernel_rfl
@[simp] theorem byT_70 : byT Try.prog 70 = some 8 := by kernel_rfl
@[simp] theorem aggT_70 : aggT Try.prog 70 = some false := by kernel_rfl
@[simp] theorem slT_70 : slT Try.prog 70 = none := by kernel_rfl
@[simp] theorem arT_70 : arT Try.prog 70 = none := by kernel_rfl
@[simp] theorem stT_70 : stT Try.prog 70 = false := by kernel_rfl
@[simp] theorem boT_70 : boT Try.prog 70 = false := by kernel_rfl
@[simp] theorem inT_70 : inT Try.prog 70 = false := by kernel_rfl
@[simp] theorem zeT_70 : zeT Try.prog 70 = some [AV.val Value.nilFunc] := by kernel_rfl
@[simp] theorem szT_71 : szT Try.prog 71 = some 1 := by kernel_rfl
@[simp] theorem byT_71 : byT Try.prog 71 = some 8 := by kernel_rfl
@[simp] theorem aggT_71 : aggT Try.prog 71 = some false := by kernel_rfl
@[simp] theorem slT_71 : slT Try.prog 71 = none := by kernel_rfl
@[simp] theorem arT_71 : arT Try.prog 71 = none := by kernel_rfl
@[simp] theorem stT_71 : stT Try.prog 71 = false := by kernel_rfl
@[simp] theorem boT_71 : boT Try.prog 71 = false := by kernel_rfl
@[simp] theorem inT_71 : inT Try.prog 71 = false := by kernel_rfl
@[simp] theorem zeT_71 : zeT Try.prog 71 = some [AV.val Value.nilFunc] := by kernel_rfl
@[simp] theorem szT_72 : szT Try.prog 72 = some 10 := by kernel_rfl
@[simp] theorem byT_72 : byT Try.prog 72 = some 80 := by kernel_rfl
@[simp] theorem aggT_72 : aggT Try.prog 72 = some true := by kernel_rfl
@[simp] theorem slT_72 : slT Try.prog 72 = none := by kernel_rfl
@[simp] theorem arT_72 : arT Try.prog 72 = some (10, 3) := by kernel_rfl
@[simp] theorem stT_72 : stT Try.prog 72 = false := by kernel_rfl
@[simp] theorem boT_72 : boT Try.prog 72 = false := by kernel_rfl
@[simp] theorem inT_72 : inT Try.prog 72 = false := by kernel_rfl
@[simp] theorem zeT_72 : zeT Try.prog 72 = some [AV.val (Value.int IntKind.i64 0), AV.val (Value.int IntKind.i64 0), AV.val (Value.int IntKind.i64 0), AV.val (Value.int IntKind.i64 0), AV.val (Value.int IntKind.i64 0), AV.val (Value.int IntKind.i64 0), AV.val (Value.int IntKind.i64 0), AV.val (Value.int IntKind.i64 0), AV.val (Value.int IntKind.i64 0), AV.val (Value.int IntKind.i64 0)] := by kernel_rfl
@[simp] theorem szT_73 : szT Try.prog 73 = some 1 := by kernel_rfl
@[simp] theorem byT_73 : byT Try.prog 73 = some 8 := by kernel_rfl
@[simp] theorem aggT_73 : aggT Try.prog 73 = some false := by kernel_rfl
@[simp] theorem slT_73 : slT Try.prog 73 = none := by kernel_rfl
@[simp] theorem arT_73 : arT Try.prog 73 = none := by kernel_rfl
@[simp] theorem stT_73 : stT Try.prog 73 = false := by kernel_rfl
@[simp] theorem boT_73 : boT Try.prog 73 = false := by kernel_rfl
@[simp] theorem inT_73 : inT Try.prog 73 = false := by kernel_rfl
@[simp] theorem zeT_73 : zeT Try.prog 73 = some [AV.val Value.nilFunc] := by kernel_rfl
@[simp] theorem szT_74 : szT Try.prog 74 = some 1 := by kernel_rfl
@[simp] theorem byT_74 : byT Try.prog 74 = some 8 := by kernel_rfl
@[simp] theorem aggT_74 : aggT Try.prog 74 = some false := by kernel_rfl
@[simp] theorem slT_74 : slT Try.prog 74 = none := by kernel_rfl
@[simp] theorem arT_74 : arT Try.prog 74 = none := by kernel_rfl
@[simp] theorem stT_74 : stT Try.prog 74 = false := by kernel_rfl
@[simp] theorem boT_74 : boT Try.prog 74 = false := by kernel_rfl
@[simp] theorem inT_74 : inT Try.prog 74 = false := by kernel_rfl
@[simp] theorem zeT_74 : zeT Try.prog 74 = some [AV.val (Value.pointer none)] := by kernel_rfl
@[simp] theorem szT_75 : szT Try.prog 75 = some 1 := by kernel_rfl
@[simp] theorem byT_75 : byT Try.prog 75 = some 8 := by kernel_rfl
@[simp] theorem aggT_75 : aggT Try.prog 75 = some false := by kernel_rfl
@[simp] theorem slT_75 : slT Try.prog 75 = none := by kernel_rfl
@[simp] theorem arT_75 : arT Try.prog 75 = none := by kernel_rfl
@[simp] theorem stT_75 : stT Try.prog 75 = false := by kernel_rfl
@[simp] theorem boT_75 : boT Try.prog 75 = false := by kernel_rfl
@[simp] theorem inT_75 : inT Try.prog 75 = false := by kernel_rfl
@[simp] theorem zeT_75 : zeT Try.prog 75 = some [AV.val Value.nilFunc] := by kernel_rfl
@[simp] theorem szT_76 : szT Try.prog 76 = some 1 := by kernel_rfl
@[simp] theorem byT_76 : byT Try.prog 76 = some 8 := by kernel_rfl
@[simp] theorem aggT_76 : aggT Try.prog 76 = some false := by kernel_rfl
@[simp] theorem slT_76 : slT Try.prog 76 = none := by kernel_rfl
@[simp] theorem arT_76 : arT Try.prog 76 = none := by kernel_rfl
@[simp] theorem stT_76 : stT Try.prog 76 = false := by kernel_rfl
@[simp] theorem boT_76 : boT Try.prog 76 = false := by kernel_rfl
@[simp] theorem inT_76 : inT Try.prog 76 = false := by kernel_rfl
@[simp] theorem zeT_76 : zeT Try.prog 76 = some [AV.val Value.nilFunc] := by kernel_rfl
@[simp] theorem szT_77 : szT Try.prog 77 = some 1 := by kernel_rfl
@[simp] theorem byT_77 : byT Try.prog 77 = some 8 := by kernel_rfl
@[simp] theorem aggT_77 : aggT Try.prog 77 = some false := by kernel_rfl
@[simp] theorem slT_77 : slT Try.prog 77 = none := by kernel_rfl
@[simp] theorem arT_77 : arT Try.prog 77 = none := by kernel_rfl
@[simp] theorem stT_77 : stT Try.prog 77 = false := by kernel_rfl
@[simp] theorem boT_77 : boT Try.prog 77 = false := by kernel_rfl
@[simp] theorem inT_77 : inT Try.prog 77 = false := by kernel_rfl
@[simp] theorem zeT_77 : zeT Try.prog 77 = some [AV.val Value.nilFunc] := by kernel_rfl
@[simp] theorem szT_78 : szT Try.prog 78 = some 1 := by kernel_rfl
@[simp] theorem byT_78 : byT Try.prog 78 = some 8 := by kernel_rfl
@[simp] theorem aggT_78 : aggT Try.prog 78 = some false := by kernel_rfl
@[simp] theorem slT_78 : slT Try.prog 78 = none := by kernel_rfl
@[simp] theorem arT_78 : arT Try.prog 78 = none := by kernel_rfl
@[simp] theorem stT_78 : stT Try.prog 78 = false := by kernel_rfl
@[simp] theorem boT_78 : boT Try.prog 78 = false := by kernel_rfl
@[simp] theorem inT_78 : inT Try.prog 78 = false := by kernel_rfl
@[simp] theorem zeT_78 : zeT Try.prog 78 = some [AV.val Value.nilFunc] := by kernel_rfl
@[simp] theorem szT_79 : szT Try.prog 79 = some 1 := by kernel_rfl
@[simp] theorem byT_79 : byT Try.prog 79 = some 8 := by kernel_rfl
@[simp] theorem aggT_79 : aggT Try.prog 79 = some false := by kernel_rfl
@[simp] theorem slT_79 : slT Try.prog 79 = none := by kernel_rfl
@[simp] theorem arT_79 : arT Try.prog 79 = none := by kernel_rfl
@[simp] theorem stT_79 : stT Try.prog 79 = false := by kernel_rfl
@[simp] theorem boT_79 : boT Try.prog 79 = false := by kernel_rfl
@[simp] theorem inT_79 : inT Try.prog 79 = false := by kernel_rfl
@[simp] theorem zeT_79 : zeT Try.prog 79 = some [AV.val Value.nilFunc] := by kernel_rfl
@[simp] theorem szT_80 : szT Try.prog 80 = some 1 := by kernel_rfl
@[simp] theorem byT_80 : byT Try.prog 80 = some 8 := by kernel_rfl
@[simp] theorem aggT_80 : aggT Try.prog 80 = some false := by kernel_rfl
@[simp] theorem slT_80 : slT Try.prog 80 = none := by kernel_rfl
@[simp] theorem arT_80 : arT Try.prog 80 = none := by kernel_rfl
@[simp] theorem stT_80 : stT Try.prog 80 = false := by kernel_rfl
@[simp] theorem boT_80 : boT Try.prog 80 = false := by kernel_rfl
@[simp] theorem inT_80 : inT Try.prog 80 = false := by kernel_rfl
@[simp] theorem zeT_80 : zeT Try.prog 80 = some [AV.val Value.nilFunc] := by kernel_rfl
@[simp] theorem szT_81 : szT Try.prog 81 = some 1 := by kernel_rfl
@[simp] theorem byT_81 : byT Try.prog 81 = some 8 := by kernel_rfl
@[simp] theorem aggT_81 : aggT Try.prog 81 = some false := by kernel_rfl
@[simp] theorem slT_81 : slT Try.prog 81 = none := by kernel_rfl
@[simp] theorem arT_81 : arT Try.prog 81 = none := by kernel_rfl
@[simp] theorem stT_81 : stT Try.prog 81 = false := by kernel_rfl
@[simp] theorem boT_81 : boT Try.prog 81 = false := by kernel_rfl
@[simp] theorem inT_81 : inT Try.prog 81 = false := by kernel_rfl
@[simp] theorem zeT_81 : zeT Try.prog 81 = some [AV.val Value.nilFunc] := by kernel_rfl
@[simp] theorem szT_82 : szT Try.prog 82 = some 1 := by kernel_rfl
@[simp] theorem byT_82 : byT Try.prog 82 = some 8 := by kernel_rfl
@[simp] theorem aggT_82 : aggT Try.prog 82 = some false := by kernel_rfl
@[simp] theorem slT_82 : slT Try.prog 82 = none := by kernel_rfl
@[simp] theorem arT_82 : arT Try.prog 82 = none := by kernel_rfl
@[simp] theorem stT_82 : stT Try.prog 82 = false := by kernel_rfl
@[simp] theorem boT_82 : boT Try.prog 82 = false := by kernel_rfl
@[simp] theorem inT_82 : inT Try.prog 82 = false := by kernel_rfl
@[simp] theorem zeT_82 : zeT Try.prog 82 = some [AV.val Value.nilFunc] := by kernel_rfl
@[simp] theorem szT_83 : szT Try.prog 83 = some 1 := by kernel_rfl
@[simp] theorem byT_83 : byT Try.prog 83 = some 8 := by kernel_rfl
@[simp] theorem aggT_83 : aggT Try.prog 83 = some false := by kernel_rfl
@[simp] theorem slT_83 : slT Try.prog 83 = none := by kernel_rfl
@[simp] theorem arT_83 : arT Try.prog 83 = none := by kernel_rfl
@[simp] theorem stT_83 : stT Try.prog 83 = false := by kernel_rfl
@[simp] theorem boT_83 : boT Try.prog 83 = false := by kernel_rfl
@[simp] theorem inT_83 : inT Try.prog 83 = false := by kernel_rfl
@[simp] theorem zeT_83 : zeT Try.prog 83 = some [AV.val Value.nilFunc] := by kernel_rfl
@[simp] theorem szT_84 : szT Try.prog 84 = some 1 := by kernel_rfl
@[simp] theorem byT_84 : byT Try.prog 84 = some 8 := by kernel_rfl
@[simp] theorem aggT_84 : aggT Try.prog 84 = some false := by kernel_rfl
@[simp] theorem slT_84 : slT Try.prog 84 = none := by kernel_rfl
@[simp] theorem arT_84 : arT Try.prog 84 = none := by kernel_rfl
@[simp] theorem stT_84 : stT Try.prog 84 = false := by kernel_rfl
@[simp] theorem boT_84 : boT Try.prog 84 = false := by kernel_rfl
@[simp] theorem inT_84 : inT Try.prog 84 = false := by kernel_rfl
@[simp] theorem zeT_84 : zeT Try.prog 84 = some [AV.val Value.nilFunc] := by kernel_rfl
@[simp] theorem szT_85 : szT Try.prog 85 = some 4 := by kernel_rfl
@[simp] theorem byT_85 : byT Try.prog 85 = some 40 := by kernel_rfl
@[simp] theorem aggT_85 : aggT Try.prog 85 = some true := by kernel_rfl
@[simp] theorem slT_85 : slT Try.prog 85 = none := by kernel_rfl
@[simp] theorem arT_85 : arT Try.prog 85 = none := by kernel_rfl
@[simp] theorem stT_85 : stT Try.prog 85 = false := by kernel_rfl
@[simp] theorem boT_85 : boT Try.prog 85 = false := by kernel_rfl
@[simp] theorem inT_85 : inT Try.prog 85 = false := by kernel_rfl
@[simp] theorem zeT_85 : zeT Try.prog 85 = some [AV.val (Value.pointer none), AV.val (Value.pointer none), AV.val (Value.pointer none), AV.val (Value.string { data := { toList := [] } })] := by kernel_rfl
@[simp] theorem blT_85 : blT Try.prog 85 = true := by kernel_rfl
@[simp] theorem szT_86 : szT Try.prog 86 = some 4 := by kernel_rfl
@[simp] theorem byT_86 : byT Try.prog 86 = some 40 := by kernel_rfl
@[simp] theorem aggT_86 : aggT Try.prog 86 = some true := by kernel_rfl
@[simp] theorem slT_86 : slT Try.prog 86 = none := by kernel_rfl
@[simp] theorem arT_86 : arT Try.prog 86 = none := by kernel_rfl
@[simp] theorem stT_86 : stT Try.prog 86 = false := by kernel_rfl
@[simp] theorem boT_86 : boT Try.prog 86 = false := by kernel_rfl
@[simp] theorem inT_86 : inT Try.prog 86 = false := by kernel_rfl
@[simp] theorem zeT_86 : zeT Try.prog 86 = some [AV.val (Value.pointer none), AV.val (Value.pointer none), AV.val (Value.pointer none), AV.val (Value.string { data := { toList := [] } })] := by kernel_rfl
@[simp] theorem blT_86 : blT Try.prog 86 = true := by kernel_rfl
@[simp] theorem szT_87 : szT Try.prog 87 = some 0 := by kernel_rfl
@[simp] theorem byT_87 : byT Try.prog 87 = some 0 := by kernel_rfl
@[simp] theorem aggT_87 : aggT Try.prog 87 = some true := by kernel_rfl
@[simp] theorem slT_87 : slT Try.prog 87 = none := by kernel_rfl
@[simp] theorem arT_87 : arT Try.prog 87 = some (0, 16) := by kernel_rfl
@[simp] theorem stT_87 : stT Try.prog 87 = false := by kernel_rfl
@[simp] theorem boT_87 : boT Try.prog 87 = false := by kernel_rfl
@[simp] theorem inT_87 : inT Try.prog 87 = false := by kernel_rfl
@[simp] theorem zeT_87 : zeT Try.prog 87 = some [] := by kernel_rfl
@[simp] theorem szT_88 : szT Try.prog 88 = some 0 := by kernel_rfl
@[simp] theorem byT_88 : byT Try.prog 88 = some 0 := by kernel_rfl
@[simp] theorem aggT_88 : aggT Try.prog 88 = some true := by kernel_rfl
@[simp] theorem slT_88 : slT Try.prog 88 = none := by kernel_rfl
@[simp] theorem arT_88 : arT Try.prog 88 = none := by kernel_rfl
@[simp] theorem stT_88 : stT Try.prog 88 = false := by kernel_rfl
@[simp] theorem boT_88 : boT Try.prog 88 = false := by kernel_rfl
@[simp] theorem inT_88 : inT Try.prog 88 = false := by kernel_rfl
@[simp] theorem zeT_88 : zeT Try.prog 88 = some [] := by kernel_rfl
@[simp] theorem blT_88 : blT Try.prog 88 = true := by kernel_rfl
@[simp] theorem szT_89 : szT Try.prog 89 = some 0 := by kernel_rfl
@[simp] theorem byT_89 : byT Try.prog 89 = some 0 := by kernel_rfl
@[simp] theorem aggT_89 : aggT Try.prog 89 = some true := by kernel_rfl
@[simp] theorem slT_89 : slT Try.prog 89 = none := by kernel_rfl
@[simp] theorem arT_89 : arT Try.prog 89 = none := by kernel_rfl
@[simp] theorem stT_89 : stT Try.prog 89 = false := by kernel_rfl
@[simp] theorem boT_89 : boT Try.prog 89 = false := by kernel_rfl
@[simp] theorem inT_89 : inT Try.prog 89 = false := by kernel_rfl
@[simp] theorem zeT_89 : zeT Try.prog 89 = some [] := by kernel_rfl
@[simp] theorem blT_89 : blT Try.prog 89 = true := by kernel_rfl
@[simp] theorem szT_90 : szT Try.prog 90 = some 1 := by kernel_rfl
@[simp] theorem byT_90 : byT Try.prog 90 = some 8 := by kernel_rfl
@[simp] theorem aggT_90 : aggT Try.prog 90 = some false := by kernel_rfl
@[simp] theorem slT_90 : slT Try.prog 90 = none := by kernel_rfl
@[simp] theorem arT_90 : arT Try.prog 90 = none := by kernel_rfl
@[simp] theorem stT_90 : stT Try.prog 90 = false := by kernel_rfl
@[simp] theorem boT_90 : boT Try.prog 90 = false := by kernel_rfl
@[simp] theorem inT_90 : inT Try.prog 90 = false := by kernel_rfl
@[simp] theorem zeT_90 : zeT Try.prog 90 = some [AV.val Value.nilFunc] := by kernel_rfl
@[simp] theorem szT_91 : szT Try.prog 91 = some 1 := by kernel_rfl
@[simp] theorem byT_91 : byT Try.prog 91 = some 4 := by kernel_rfl
@[simp] theorem aggT_91 : aggT Try.prog 91 = some false := by kernel_rfl
@[simp] theorem slT_91 : slT Try.prog 91 = none := by kernel_rfl
@[simp] theorem arT_91 : arT Try.prog 91 = none := by kernel_rfl
@[simp] theorem stT_91 : stT Try.prog 91 = false := by kernel_rfl
@[simp] theorem boT_91 : boT Try.prog 91 = false := by kernel_rfl
@[simp] theorem inT_91 : inT Try.prog 91 = false := by kernel_rfl
@[simp] theorem zeT_91 : zeT Try.prog 91 = some [AV.val (Value.int IntKind.u32 0)] := by kernel_rfl
@[simp] theorem szT_92 : szT Try.prog 92 = some 1 := by kernel_rfl
@[simp] theorem byT_92 : byT Try.prog 92 = some 1 := by kernel_rfl
@[simp] theorem aggT_92 : aggT Try.prog 92 = some false := by kernel_rfl
@[simp] theorem slT_92 : slT Try.prog 92 = none := by kernel_rfl
@[simp] theorem arT_92 : arT Try.prog 92 = none := by kernel_rfl
@[simp] theorem stT_92 : stT Try.prog 92 = false := by kernel_rfl
@[simp] theorem boT_92 : boT Try.prog 92 = false := by kernel_rfl
@[simp] theorem inT_92 : inT Try.prog 92 = false := by kernel_rfl
@[simp] theorem zeT_92 : zeT Try.prog 92 = some [AV.val (Value.int IntKind.u8 0)] := by kernel_rfl
@[simp] theorem szT_93 : szT Try.prog 93 = some 1 := by kernel_rfl
@[simp] theorem byT_93 : byT Try.prog 93 = some 1 := by kernel_rfl
@[simp] theorem aggT_93 : aggT Try.prog 93 = some false := by kernel_rfl
@[simp] theorem slT_93 : slT Try.prog 93 = none := by kernel_rfl
@[simp] theorem arT_93 : arT Try.prog 93 = none := by kernel_rfl
@[simp] theorem stT_93 : stT Try.prog 93 = false := by kernel_rfl
@[simp] theorem boT_93 : boT Try.prog 93 = false := by kernel_rfl
@[simp] theorem inT_93 : inT Try.prog 93 = false := by kernel_rfl
@[simp] theorem zeT_93 : zeT Try.prog 93 = some [AV.val (Value.int IntKind.u8 0)] := by kernel_rfl
@[simp] theorem szT_94 : szT Try.prog 94 = some 1 := by kernel_rfl
@[simp] theorem byT_94 : byT Try.prog 94 = some 8 := by kernel_rfl
@[simp] theorem aggT_94 : aggT Try.prog 94 = some false := by kernel_rfl
@[simp] theorem slT_94 : slT Try.prog 94 = none := by kernel_rfl
@[simp] theorem arT_94 : arT Try.prog 94 = none := by kernel_rfl
@[simp] theorem stT_94 : stT Try.prog 94 = false := by kernel_rfl
@[simp] theorem boT_94 : boT Try.prog 94 = false := by kernel_rfl
@[simp] theorem inT_94 : inT Try.prog 94 = false := by kernel_rfl
@[simp] theorem zeT_94 : zeT Try.prog 94 = some [AV.val Value.nilFunc] := by kernel_rfl
@[simp] theorem szT_95 : szT Try.prog 95 = some 1 := by kernel_rfl
@[simp] theorem byT_95 : byT Try.prog 95 = some 8 := by kernel_rfl
@[simp] theorem aggT_95 : aggT Try.prog 95 = some false := by kernel_rfl
@[simp] theorem slT_95 : slT Try.prog 95 = none := by kernel_rfl
@[simp] theorem arT_95 : arT Try.prog 95 = none := by kernel_rfl
@[simp] theorem stT_95 : stT Try.prog 95 = false := by kernel_rfl
@[simp] theorem boT_95 : boT Try.prog 95 = false := by kernel_rfl
@[simp] theorem inT_95 : inT Try.prog 95 = false := by kernel_rfl
@[simp] theorem zeT_95 : zeT Try.prog 95 = some [AV.val (Value.pointer none)] := by kernel_rfl
@[simp] theorem szT_96 : szT Try.prog 96 = some 1 := by kernel_rfl
@[simp] theorem byT_96 : byT Try.prog 96 = some 4 := by kernel_rfl
@[simp] theorem aggT_96 : aggT Try.prog 96 = some false := by kernel_rfl
@[simp] theorem slT_96 : slT Try.prog 96 = none := by kernel_rfl
@[simp] theorem arT_96 : arT Try.prog 96 = none := by kernel_rfl
@[simp] theorem stT_96 : stT Try.prog 96 = false := by kernel_rfl
@[simp] theorem boT_96 : boT Try.prog 96 = false := by kernel_rfl
@[simp] theorem inT_96 : inT Try.prog 96 = false := by kernel_rfl
@[simp] theorem zeT_96 : zeT Try.prog 96 = some [AV.val (Value.int IntKind.i32 0)] := by kernel_rfl
@[simp] theorem szT_97 : szT Try.prog 97 = some 1 := by kernel_rfl
@[simp] theorem byT_97 : byT Try.prog 97 = some 4 := by kernel_rfl
@[simp] theorem aggT_97 : aggT Try.prog 97 = some false := by kernel_rfl
@[simp] theorem slT_97 : slT Try.prog 97 = none := by kernel_rfl
@[simp] theorem arT_97 : arT Try.prog 97 = none := by kernel_rfl
@[simp] theorem stT_97 : stT Try.prog 97 = false := by kernel_rfl
@[simp] theorem boT_97 : boT Try.prog 97 = false := by kernel_rfl
@[simp] theorem inT_97 : inT Try.prog 97 = false := by kernel_rfl
@[simp] theorem zeT_97 : zeT Try.prog 97 = some [AV.val (Value.int IntKind.i32 0)] := by kernel_rfl
@[simp] theorem szT_98 : szT Try.prog 98 = some 11 := by kernel_rfl
@[simp] theorem byT_98 : byT Try.prog 98 = some 48 := by kernel_rfl
@[simp] theorem aggT_98 : aggT Try.prog 98 = some true := by kernel_rfl
@[simp] theorem slT_98 : slT Try.prog 98 = none := by kernel_rfl
@[simp] theorem arT_98 : arT Try.prog 98 = none := by kernel_rfl
@[simp] theorem stT_98 : stT Try.prog 98 = false := by kernel_rfl
@[simp] theorem boT_98 : boT Try.prog 98 = false := by kernel_rfl
@[simp] theorem inT_98 : inT Try.prog 98 = false := by kernel_rfl
@[simp] theorem zeT_98 : zeT Try.prog 98 = some [AV.val (Value.int IntKind.u64 0), AV.val (Value.int IntKind.u64 0), AV.val (Value.int IntKind.u32 0), AV.val (Value.int IntKind.u8 0), AV.val (Value.int IntKind.u8 0), AV.val (Value.int IntKind.u8 0), AV.val (Value.int IntKind.u8 0), AV.val Value.nilFunc, AV.val (Value.pointer none), AV.val (Value.int IntKind.i32 0), AV.val (Value.int IntKind.i32 0)] := by kernel_rfl
@[simp] theorem blT_98 : blT Try.prog 98 = true := by kernel_rfl
@[simp] theorem szT_99 : szT Try.prog 99 = some 11 := by kernel_rfl
@[simp] theorem byT_99 : byT Try.prog 99 = some 48 := by kernel_rfl
@[simp] theorem aggT_99 : aggT Try.prog 99 = some true := by kernel_rfl
@[simp] theorem slT_99 : slT Try.prog 99 = none := by kernel_rfl
@[simp] theorem arT_99 : arT Try.prog 99 = none := by kernel_rfl
@[simp] theorem stT_99 : stT Try.prog 99 = false := by kernel_rfl
@[simp] theorem boT_99 : boT Try.prog 99 = false := by kernel_rfl
@[simp] theorem inT_99 : inT Try.prog 99 = false := by kernel_rfl
@[simp] theorem zeT_99 : zeT Try.prog 99 = some [AV.val (Value.int IntKind.u64 0), AV.val (Value.int IntKind.u64 0), AV.val (Value.int IntKind.u32 0), AV.val (Value.int IntKind.u8 0), AV.val (Value.int IntKind.u8 0), AV.val (Value.int IntKind.u8 0), AV.val (Value.int IntKind.u8 0), AV.val Value.nilFunc, AV.val (Value.pointer none), AV.val (Value.int IntKind.i32 0), AV.val (Value.int IntKind.i32 0)] := by kernel_rfl
@[simp] theorem blT_99 : blT Try.prog 99 = true := by kernel_rfl
@[simp] theorem szT_100 : szT Try.prog 100 = some 1 := by kernel_rfl
@[simp] theorem byT_100 : byT Try.prog 100 = some 8 := by kernel_rfl
@[simp] theorem aggT_100 : aggT Try.prog 100 = some false := by kernel_rfl
@[simp] theorem slT_100 : slT Try.prog 100 = none := by kernel_rfl
@[simp] theorem arT_100 : arT Try.prog 100 = none := by kernel_rfl
@[simp] theorem stT_100 : stT Try.prog 100 = false := by kernel_rfl
@[simp] theorem boT_100 : boT Try.prog 100 = false := by kernel_rfl
@[simp] theorem inT_100 : inT Try.prog 100 = false := by kernel_rfl
@[simp] theorem zeT_100 : zeT Try.prog 100 = some [AV.val (Value.pointer none)] := by kernel_rfl
@[simp] theorem fdT_7_0 : fdT Try.prog 7 0 = some (0, 2) := by kernel_rfl
@[simp] theorem fdT_7_1 : fdT Try.prog 7 1 = some (1, 3) := by kernel_rfl
@[simp] theorem fdT_7_2 : fdT Try.prog 7 2 = some (2, 4) := by kernel_rfl
@[simp] theorem fdT_7_3 : fdT Try.prog 7 3 = some (3, 6) := by kernel_rfl
@[simp] theorem fdT_8_0 : fdT Try.prog 8 0 = some (0, 2) := by kernel_rfl
@[simp] theorem fdT_8_1 : fdT Try.prog 8 1 = some (1, 3) := by kernel_rfl
@[simp] theorem fdT_8_2 : fdT Try.prog 8 2 = some (2, 4) := by kernel_rfl
@[simp] theorem fdT_8_3 : fdT Try.prog 8 3 = some (3, 6) := by kernel_rfl
@[simp] theorem fdT_13_0 : fdT Try.prog 13 0 = some (0, 9) := by kernel_rfl
@[simp] theorem fdT_13_1 : fdT Try.prog 13 1 = some (1, 12) := by kernel_rfl
@[simp] theorem fdT_14_0 : fdT Try.prog 14 0 = some (0, 9) := by kernel_rfl
@[simp] theorem fdT_14_1 : fdT Try.prog 14 1 = some (1, 12) := by kernel_rfl
@[simp] theorem fdT_18_0 : fdT Try.prog 18 0 = some (0, 17) := by kernel_rfl
@[simp] theorem fdT_19_0 : fdT Try.prog 19 0 = some (0, 17) := by kernel_rfl
@[simp] theorem fdT_24_0 : fdT Try.prog 24 0 = some (0, 22) := by kernel_rfl
@[simp] theorem fdT_24_1 : fdT Try.prog 24 1 = some (1, 3) := by kernel_rfl
@[simp] theorem fdT_24_2 : fdT Try.prog 24 2 = some (2, 3) := by kernel_rfl
@[simp] theorem fdT_24_3 : fdT Try.prog 24 3 = some (3, 3) := by kernel_rfl
@[simp] theorem fdT_24_4 : fdT Try.prog 24 4 = some (4, 23) := by kernel_rfl
@[simp] theorem fdT_25_0 : fdT Try.prog 25 0 = some (0, 22) := by kernel_rfl
@[simp] theorem fdT_25_1 : fdT Try.prog 25 1 = some (1, 3) := by kernel_rfl
@[simp] theorem fdT_25_2 : fdT Try.prog 25 2 = some (2, 3) := by kernel_rfl
@[simp] theorem fdT_25_3 : fdT Try.prog 25 3 = some (3, 3) := by kernel_rfl
@[simp] theorem fdT_25_4 : fdT Try.prog 25 4 = some (4, 23) := by kernel_rfl
@[simp] theorem fdT_49_0 : fdT Try.prog 49 0 = some (0, 4) := by kernel_rfl
@[simp] theorem fdT_49_1 : fdT Try.prog 49 1 = some (1, 3) := by kernel_rfl
@[simp] theorem fdT_49_2 : fdT Try.prog 49 2 = some (2, 3) := by kernel_rfl
@[simp] theorem fdT_49_3 : fdT Try.prog 49 3 = some (3, 40) := by kernel_rfl
@[simp] theorem fdT_49_4 : fdT Try.prog 49 4 = some (4, 40) := by kernel_rfl
@[simp] theorem fdT_50_0 : fdT Try.prog 50 0 = some (0, 4) := by kernel_rfl
@[simp] theorem fdT_50_1 : fdT Try.prog 50 1 = some (1, 3) := by kernel_rfl
@[simp] theorem fdT_50_2 : fdT Try.prog 50 2 = some (2, 3) := by kernel_rfl
@[simp] theorem fdT_50_3 : fdT Try.prog 50 3 = some (3, 40) := by kernel_rfl
@[simp] theorem fdT_50_4 : fdT Try.prog 50 4 = some (4, 40) := by kernel_rfl
@[simp] theorem fdT_53_0 : fdT Try.prog 53 0 = some (0, 3) := by kernel_rfl
@[simp] theorem fdT_53_1 : fdT Try.prog 53 1 = some (1, 3) := by kernel_rfl
@[simp] theorem fdT_53_2 : fdT Try.prog 53 2 = some (2, 3) := by kernel_rfl
@[simp] theorem fdT_53_3 : fdT Try.prog 53 3 = some (3, 3) := by kernel_rfl
@[simp] theorem fdT_53_4 : fdT Try.prog 53 4 = some (4, 40) := by kernel_rfl
@[simp] theorem fdT_54_0 : fdT Try.prog 54 0 = some (0, 3) := by kernel_rfl
@[simp] theorem fdT_54_1 : fdT Try.prog 54 1 = some (1, 3) := by kernel_rfl
@[simp] theorem fdT_54_2 : fdT Try.prog 54 2 = some (2, 3) := by kernel_rfl
@[simp] theorem fdT_54_3 : fdT Try.prog 54 3 = some (3, 3) := by kernel_rfl
@[simp] theorem fdT_54_4 : fdT Try.prog 54 4 = some (4, 40) := by kernel_rfl
@[simp] theorem fdT_59_0 : fdT Try.prog 59 0 = some (0, 3) := by kernel_rfl
@[simp] theorem fdT_59_1 : fdT Try.prog 59 1 = some (1, 3) := by kernel_rfl
@[simp] theorem fdT_59_2 : fdT Try.prog 59 2 = some (2, 3) := by kernel_rfl
@[simp] theorem fdT_60_0 : fdT Try.prog 60 0 = some (0, 3) := by kernel_rfl
@[simp] theorem fdT_60_1 : fdT Try.prog 60 1 = some (1, 3) := by kernel_rfl
@[simp] theorem fdT_60_2 : fdT Try.prog 60 2 = some (2, 3) := by kernel_rfl
@[simp] theorem fdT_85_0 : fdT Try.prog 85 0 = some (0, 17) := by kernel_rfl
@[simp] theorem fdT_85_1 : fdT Try.prog 85 1 = some (1, 17) := by kernel_rfl
@[simp] theorem fdT_85_2 : fdT Try.prog 85 2 = some (2, 17) := by kernel_rfl
@[simp] theorem fdT_85_3 : fdT Try.prog 85 3 = some (3, 9) := by kernel_rfl
@[simp] theorem fdT_86_0 : fdT Try.prog 86 0 = some (0, 17) := by kernel_rfl
@[simp] theorem fdT_86_1 : fdT Try.prog 86 1 = some (1, 17) := by kernel_rfl
@[simp] theorem fdT_86_2 : fdT Try.prog 86 2 = some (2, 17) := by kernel_rfl
@[simp] theorem fdT_86_3 : fdT Try.prog 86 3 = some (3, 9) := by kernel_rfl
@[simp] theorem fdT_88_0 : fdT Try.prog 88 0 = some (0, 87) := by kernel_rfl
@[simp] theorem fdT_89_0 : fdT Try.prog 89 0 = some (0, 87) := by kernel_rfl
@[simp] theorem fdT_98_0 : fdT Try.prog 98 0 = some (0, 12) := by kernel_rfl
@[simp] theorem fdT_98_1 : fdT Try.prog 98 1 = some (1, 12) := by kernel_rfl
@[simp] theorem fdT_98_2 : fdT Try.prog 98 2 = some (2, 91) := by kernel_rfl
@[simp] theorem fdT_98_3 : fdT Try.prog 98 3 = some (3, 92) := by kernel_rfl
@[simp] theorem fdT_98_4 : fdT Try.prog 98 4 = some (4, 5) := by kernel_rfl
@[simp] theorem fdT_98_5 : fdT Try.prog 98 5 = some (5, 5) := by kernel_rfl
@[simp] theorem fdT_98_6 : fdT Try.prog 98 6 = some (6, 93) := by kernel_rfl
@[simp] theorem fdT_98_7 : fdT Try.prog 98 7 = some (7, 94) := by kernel_rfl
@[simp] theorem fdT_98_8 : fdT Try.prog 98 8 = some (8, 95) := by kernel_rfl
@[simp] theorem fdT_98_9 : fdT Try.prog 98 9 = some (9, 96) := by kernel_rfl
@[simp] theorem fdT_98_10 : fdT Try.prog 98 10 = some (10, 97) := by kernel_rfl
@[simp] theorem fdT_99_0 : fdT Try.prog 99 0 = some (0, 12) := by kernel_rfl
@[simp] theorem fdT_99_1 : fdT Try.prog 99 1 = some (1, 12) := by kernel_rfl
@[simp] theorem fdT_99_2 : fdT Try.prog 99 2 = some (2, 91) := by kernel_rfl
@[simp] theorem fdT_99_3 : fdT Try.prog 99 3 = some (3, 92) := by kernel_rfl
@[simp] theorem fdT_99_4 : fdT Try.prog 99 4 = some (4, 5) := by kernel_rfl
@[simp] theorem fdT_99_5 : fdT Try.prog 99 5 = some (5, 5) := by kernel_rfl
@[simp] theorem fdT_99_6 : fdT Try.prog 99 6 = some (6, 93) := by kernel_rfl
@[simp] theorem fdT_99_7 : fdT Try.prog 99 7 = some (7, 94) := by kernel_rfl
@[simp] theorem fdT_99_8 : fdT Try.prog 99 8 = some (8, 95) := by kernel_rfl
@[simp] theorem fdT_99_9 : fdT Try.prog 99 9 = some (9, 96) := by kernel_rfl
@[simp] theorem fdT_99_10 : fdT Try.prog 99 10 = some (10, 97) := by kernel_rfl

end Go.Proofs.Ytdckleaemkcapaa.AM
