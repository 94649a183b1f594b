/- Texts of the proof: part B13. -/
import Derived.Test.YtdckleaemkcapaaB12
set_option maxHeartbeats 0
set_option linter.unusedSimpArgs false
set_option linter.unusedVariables false
set_option linter.unusedSectionVars false
namespace Go.Proofs.Ytdckleaemkcapaa.AM
open Go Go.Proofs
attribute [local simp] AV.cells okc AV.isBad fieldAddrA ld setCells stA skipV appendA hd makeA bnd sliceA kindA freshA killOk loadsAt newT empT lay_get allocA buildA buildRow builtinA lenA els indexAddrA isNil opA evA lit yldA binA binI unA pickA boolV intV fieldA mk flat lf lf.lfs frz
theorem totR_form (b : Bnk) (co : Int) : ∃ z l s e, totR b co = .tup [.ro z (ints l), I s, E e] ∧ l.length ≤ 9223372036854775807 := by
  unfold totR
  cases valP b == 0
  · exact ⟨true, [], 0, _, rfl, by simp⟩
  · cases outP co 0 11
    · exact ⟨false, _, _, 0, rfl, by rw [totP_len]; omega⟩
    · exact ⟨true, [], 0, 1, rfl, by simp⟩
theorem law8 (b : Bnk) (w : b.Wfb) (co : Int) : ∃ hp c, run Try.prog (mdT tblB) 8 [b.av, I co] Heap.none 0 = some (B true, hp, c) := by
  have kn := known_c
  have f := far_c b w
  have r1 := rtot_c b w co
  have r2 := btot_c b w co
  obtain ⟨z, l, s, e, hr, hl⟩ := totR_form b co
  rw [hr] at r1 r2
  have hs := listi_c z z l hl
  rw [run_eq, show mdT tblB 8 = some .pure from rfl, Option.bind_some, Try.func8]
  unfold Bnk.av
  cases g0 : farP b
  · simp -implicitDefEqProofs [Try.f8, g0, f, kn, r1, r2, hs]
  · simp -implicitDefEqProofs [Try.f8, g0, f, kn]
theorem pure8 (x0 x1 : AV) (h0 : TyArg Try.prog 8 25 x0) (h1 : TyArg Try.prog 8 3 x1) : ∃ h c, run Try.prog (mdT tblB) 8 [x0, x1] Heap.none 0 = some (B true, h, c) := by
  obtain ⟨b, rfl, w⟩ := arg25 h0
  obtain ⟨n, rfl, _⟩ := arg3 h1
  exact law8 b w n
end Go.Proofs.Ytdckleaemkcapaa.AM
