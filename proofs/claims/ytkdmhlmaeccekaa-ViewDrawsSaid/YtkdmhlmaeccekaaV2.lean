/- Texts of the proof: part V2. -/
import Derived.Test.YtkdmhlmaeccekaaV1
namespace Go.Proofs.Ytkdmhlmaeccekaa.AM
open Go Go.Proofs
theorem known_n : (callN Try.prog (mdT tblV) 40 10 [] Heap.none 0).map Prod.fst = some (boolV true) := by kernel_rfl
theorem known_V : ∃ h c, run Try.prog (mdT tblV) 10 [] Heap.none 0 = some (boolV true, h, c) := by
  have h := known_n
  cases e : callN Try.prog (mdT tblV) 40 10 [] Heap.none 0 with
  | none => rw [e] at h; cases h
  | some p =>
    rw [e] at h
    obtain ⟨r, h', c'⟩ := p
    cases h
    exact ⟨h', c', run_some.mpr ⟨40, e⟩⟩
end Go.Proofs.Ytkdmhlmaeccekaa.AM
