/- What is known holds. -/
import Derived.Test.YtgbdbenepnbajaaGreatDoorSB
import Derived.KernelRfl
set_option maxRecDepth 1000000
set_option maxHeartbeats 0
set_option linter.unusedVariables false
namespace Go.Proofs.YtgbdbenepnbajaaGreatDoor.AM
open Go Go.Proofs
noncomputable def tblC : List (Nat × CMode) := tblS (.told g20) (.told g6) (.told g26) (.told g11)
theorem fnsC : FnsOk Tryz.prog (mdT tblC) := lookS (by kernel_rfl) (fun f g h => by
  simp [tblC, tblS] at h
  rcases h with ⟨rfl, rfl⟩ | ⟨rfl, rfl⟩ | ⟨rfl, rfl⟩ | ⟨rfl, rfl⟩ | ⟨rfl, rfl⟩
  all_goals exact gNo_ok _ _) (fun f h => by simp [tblC, tblS] at h) (fun f g h => by
  simp [tblC, tblS] at h
  rcases h with ⟨rfl, rfl⟩ | ⟨rfl, rfl⟩ | ⟨rfl, rfl⟩ | ⟨rfl, rfl⟩
  · exact t6
  · exact t11
  · exact t20
  · exact t26)
theorem known_s : (callN Tryz.prog (mdT tblC) 2000 4 [] Heap.none 0).bind (shut true) = some (.val (.bool true)) := by kernel_rfl
end Go.Proofs.YtgbdbenepnbajaaGreatDoor.AM
