/- The closed facts of the row of SaveChunks, one by one. -/
import Derived.Test.YtgbdbenepnbajaaGreatDoorRows
import Derived.WalkKit
import Derived.ProofKit
import Derived.OpenShut
import Derived.ShutString
import Derived.ChangeOld
import Derived.Below
import Derived.SizedLaws
import Derived.Carry
import Derived.Handy
import Derived.Lay
import Derived.SevenTiedAt
namespace Go.Proofs.YtgbdbenepnbajaaGreatDoor.saveChunks
open Go.ChangeShapes Go.WideShapes Go.ChangeAt Go.RowKit
set_option linter.unusedVariables false
set_option maxRecDepth 100000
set_option maxHeartbeats 0
/-- The closed facts, one by one. -/
theorem joined : joinedFacts Tryz.prog 3 Tryz.f3 Rows.saveChunksSpec Rows.saveChunksRow = true := by
  simp only [joinedFacts, Bool.and_eq_true]
  repeat' (refine And.intro ?_ ?_)
  all_goals (as_aux_lemma => kernel_rfl)
end Go.Proofs.YtgbdbenepnbajaaGreatDoor.saveChunks
