/- Closed runs: the land that grows, the chunks of the known save, its worlds are right. -/
import Derived.Test.YtgbdbenepnbajaaGreatDoorS0
import Derived.KernelRfl
set_option maxRecDepth 1000000
set_option maxHeartbeats 0
set_option linter.unusedVariables false
namespace Go.Proofs.YtgbdbenepnbajaaGreatDoor.AM
open Go Go.Proofs
noncomputable def tblA : List (Nat × CMode) := tblS .pure .pure .pure .pure
theorem fnsA : FnsOk Tryz.prog (mdT tblA) := lookS (by kernel_rfl) (fun f g h => by
  simp [tblA, tblS] at h
  rcases h with ⟨rfl, rfl⟩ | ⟨rfl, rfl⟩ | ⟨rfl, rfl⟩ | ⟨rfl, rfl⟩ | ⟨rfl, rfl⟩
  all_goals exact gNo_ok _ _) (fun f h => by simp [tblA, tblS] at h) (fun f g h => by
  simp [tblA, tblS] at h)
theorem a20 : (callN Tryz.prog (mdT tblA) 2000 20 [.val (.int .u64 7), .val (.int .i64 4), .val (.int .i64 4), .val (.int .i64 1)] Heap.none 0).bind (shut false) = some growV := by kernel_rfl
theorem a6 : (callN Tryz.prog (mdT tblA) 2000 6 [bytesV] Heap.none 0).bind (shut true) = some chunksV := by kernel_rfl
theorem a26 : (callN Tryz.prog (mdT tblA) 2000 26 [worldV] Heap.none 0).bind (shut true) = some (.val (.int .i64 0)) := by kernel_rfl
theorem a26b : (callN Tryz.prog (mdT tblA) 2000 26 [worldR] Heap.none 0).bind (shut true) = some (.val (.int .i64 0)) := by kernel_rfl
noncomputable def g20 := memo false [.val (.int .u64 7), .val (.int .i64 4), .val (.int .i64 4), .val (.int .i64 1)] growV
noncomputable def g6 := memo true [bytesV] chunksV
noncomputable def g26 := orElseG (memo true [worldV] (.val (.int .i64 0))) (memo true [worldR] (.val (.int .i64 0)))
theorem t20 : ToldOk Tryz.prog 20 g20 := memo_ok mixS fnsA rfl a20
theorem t6 : ToldOk Tryz.prog 6 g6 := memo_ok mixS fnsA rfl a6
theorem t26 : ToldOk Tryz.prog 26 g26 := told_or (memo_ok mixS fnsA rfl a26) (memo_ok mixS fnsA rfl a26b)
end Go.Proofs.YtgbdbenepnbajaaGreatDoor.AM
