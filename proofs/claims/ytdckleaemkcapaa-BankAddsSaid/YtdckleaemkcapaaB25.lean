/- Texts of the proof: part B25. -/
import Derived.Test.YtdckleaemkcapaaB24
set_option maxHeartbeats 0
set_option linter.unusedSimpArgs false
set_option linter.unusedVariables false
set_option linter.unusedSectionVars false
namespace Go.Proofs.Ytdckleaemkcapaa.AM
open Go Go.Proofs
attribute [local simp] AV.cells okc AV.isBad fieldAddrA ld setCells stA skipV appendA hd makeA bnd sliceA kindA freshA killOk loadsAt newT empT lay_get allocA buildA buildRow builtinA lenA els indexAddrA isNil opA evA lit yldA binA binI unA pickA boolV intV fieldA mk flat lf lf.lfs frz
theorem law5 (b : Bnk) (w : b.Wfb) (n : Int) : ∃ hp c, run Try.prog (mdT tblB) 5 [b.av, I n] Heap.none 0 = some (B true, hp, c) := by
  have kn := known_c
  have f := far_c b w
  obtain ⟨b01, n01, w01, c01⟩ := call_post (args := [.agg (bc b), I n]) rfl (fun h => rfl) (rfound_x b w n) rfl
  obtain ⟨b02, n02, w02, c02⟩ := call_post (args := [.agg (bc b), I n]) rfl (fun h => rfl) (bfound_x b w n) rfl
  have s0 := same_c b02 b01 (n02.trans n01.symm) w02
  rw [run_eq, show mdT tblB 5 = some .pure from rfl, Option.bind_some, Try.func5]
  unfold Bnk.av
  cases g0 : farP b
  · simp -implicitDefEqProofs [Try.f5, g0, f, kn, c01, c02, s0]
  · simp -implicitDefEqProofs [Try.f5, g0, f, kn]
theorem pure5 (x0 x1 : AV) (h0 : TyArg Try.prog 8 25 x0) (h1 : TyArg Try.prog 8 3 x1) : ∃ h c, run Try.prog (mdT tblB) 5 [x0, x1] Heap.none 0 = some (B true, h, c) := by
  obtain ⟨b, rfl, w⟩ := arg25 h0
  obtain ⟨n1, rfl, _⟩ := arg3 h1
  exact law5 b w n1
end Go.Proofs.Ytdckleaemkcapaa.AM
