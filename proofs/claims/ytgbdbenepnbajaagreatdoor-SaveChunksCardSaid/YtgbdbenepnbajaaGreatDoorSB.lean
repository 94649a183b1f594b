/- The known save is read as the known world. -/
import Derived.Test.YtgbdbenepnbajaaGreatDoorSA
import Derived.KernelRfl
set_option maxRecDepth 1000000
set_option maxHeartbeats 0
set_option linter.unusedVariables false
namespace Go.Proofs.YtgbdbenepnbajaaGreatDoor.AM
open Go Go.Proofs
noncomputable def tblB : List (Nat × CMode) := tblS (.told g20) (.told g6) (.told g26) .pure
theorem fnsB : FnsOk Tryz.prog (mdT tblB) := lookS (by kernel_rfl) (fun f g h => by
  simp [tblB, tblS] at h
  rcases h with ⟨rfl, rfl⟩ | ⟨rfl, rfl⟩ | ⟨rfl, rfl⟩ | ⟨rfl, rfl⟩ | ⟨rfl, rfl⟩
  all_goals exact gNo_ok _ _) (fun f h => by simp [tblB, tblS] at h) (fun f g h => by
  simp [tblB, tblS] at h
  rcases h with ⟨rfl, rfl⟩ | ⟨rfl, rfl⟩ | ⟨rfl, rfl⟩
  · exact t6
  · exact t20
  · exact t26)
theorem b11 : (callN Tryz.prog (mdT tblB) 2000 11 [bytesV] Heap.none 0).bind (shut true) = some readV := by kernel_rfl
noncomputable def g11 := memo true [bytesV] readV
theorem t11 : ToldOk Tryz.prog 11 g11 := memo_ok mixS fnsB rfl b11
end Go.Proofs.YtgbdbenepnbajaaGreatDoor.AM
