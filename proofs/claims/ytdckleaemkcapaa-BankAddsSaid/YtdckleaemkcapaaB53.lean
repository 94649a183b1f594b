/- Texts of the proof: part B53. -/
import Derived.Test.YtdckleaemkcapaaB52
set_option maxHeartbeats 0
set_option linter.unusedSimpArgs false
set_option linter.unusedVariables false
set_option linter.unusedSectionVars false
namespace Go.Proofs.Ytdckleaemkcapaa.AM
open Go Go.Proofs
attribute [local simp] AV.cells okc AV.isBad fieldAddrA ld setCells stA skipV appendA hd makeA bnd sliceA kindA freshA killOk loadsAt newT empT lay_get allocA buildA buildRow builtinA lenA els indexAddrA isNil opA evA lit yldA binA binI unA pickA boolV intV fieldA mk flat lf lf.lfs frz
theorem law15 (b : Bnk) (w : b.Wfb) (co of : Int) : ∃ hp c, run Try.prog (mdT tblB) 15 [b.av, I co, I of] Heap.none 0 = some (B true, hp, c) := by
  have kn := known_c
  have f := far_c b w
  obtain ⟨b01, n01, w01, c01⟩ := call_post (args := [.agg (bc b), I co, I of]) rfl (fun h => rfl) (rmerge_x b w co of) rfl
  obtain ⟨b02, n02, w02, c02⟩ := call_post (args := [.agg (bc b), I co, I of]) rfl (fun h => rfl) (bmerge_x b w co of) rfl
  have s0 := same_c b02 b01 (n02.trans n01.symm) w02
  obtain ⟨b11, n11, w11, c11⟩ := call_post (args := [.agg (bc b), I co]) rfl (fun h => rfl) (rwind_x b w co) rfl
  obtain ⟨b12, n12, w12, c12⟩ := call_post (args := [.agg (bc b), I co]) rfl (fun h => rfl) (bwind_x b w co) rfl
  have s1 := same_c b12 b11 (n12.trans n11.symm) w12
  rw [run_eq, show mdT tblB 15 = some .pure from rfl, Option.bind_some, Try.func15]
  unfold Bnk.av
  cases g0 : farP b
  · simp -implicitDefEqProofs [Try.f15, g0, f, kn, c01, c02, s0, c11, c12, s1]
  · simp -implicitDefEqProofs [Try.f15, g0, f, kn]
theorem pure15 (x0 x1 x2 : AV) (h0 : TyArg Try.prog 8 25 x0) (h1 : TyArg Try.prog 8 3 x1) (h2 : TyArg Try.prog 8 3 x2) : ∃ h c, run Try.prog (mdT tblB) 15 [x0, x1, x2] Heap.none 0 = some (B true, h, c) := by
  obtain ⟨b, rfl, w⟩ := arg25 h0
  obtain ⟨n1, rfl, _⟩ := arg3 h1
  obtain ⟨n2, rfl, _⟩ := arg3 h2
  exact law15 b w n1 n2
end Go.Proofs.Ytdckleaemkcapaa.AM
