/- Texts of the proof: part B6. -/
import Derived.Test.YtdckleaemkcapaaB5
set_option maxHeartbeats 0
set_option linter.unusedSimpArgs false
set_option linter.unusedVariables false
set_option linter.unusedSectionVars false
namespace Go.Proofs.Ytdckleaemkcapaa.AM
open Go Go.Proofs
attribute [local simp] AV.cells okc AV.isBad fieldAddrA ld setCells stA skipV appendA hd makeA bnd sliceA kindA freshA killOk loadsAt newT empT lay_get allocA buildA buildRow builtinA lenA els indexAddrA isNil opA evA lit yldA binA binI unA pickA boolV intV fieldA mk flat lf lf.lfs frz
theorem known_c (h : Heap) (c : Nat) : callA (mdT tblB) (run Try.prog (mdT tblB)) 20 [] h c = some (B true, h, c) := by
  obtain ⟨h', c', e⟩ := known_B
  exact call_of rfl rfl e rfl rfl
theorem law3 (b : Bnk) (w : b.Wfb) : ∃ hp c, run Try.prog (mdT tblB) 3 [b.av] Heap.none 0 = some (B true, hp, c) := by
  have k := known_c
  have f := far_c b w
  have v1 := rval_c b w
  have v2 := bval_c b w
  rw [run_eq, show mdT tblB 3 = some .pure from rfl, Option.bind_some, Try.func3]
  unfold Bnk.av
  cases g0 : farP b
  · simp -implicitDefEqProofs [Try.f3, g0, f, v1, v2, k]
  · simp -implicitDefEqProofs [Try.f3, g0, f, v1, v2, k]
theorem pure3 (x0 : AV) (h0 : TyArg Try.prog 8 25 x0) : ∃ h c, run Try.prog (mdT tblB) 3 [x0] Heap.none 0 = some (B true, h, c) := by
  obtain ⟨b, rfl, w⟩ := arg25 h0
  exact law3 b w
end Go.Proofs.Ytdckleaemkcapaa.AM
