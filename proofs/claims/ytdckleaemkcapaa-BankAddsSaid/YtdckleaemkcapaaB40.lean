/- Texts of the proof: part B40. -/
import Derived.Test.YtdckleaemkcapaaB39
set_option maxHeartbeats 0
set_option linter.unusedSimpArgs false
set_option linter.unusedVariables false
set_option linter.unusedSectionVars false
namespace Go.Proofs.Ytdckleaemkcapaa.AM
open Go Go.Proofs
attribute [local simp] AV.cells okc AV.isBad fieldAddrA ld setCells stA skipV appendA hd makeA bnd sliceA kindA freshA killOk loadsAt newT empT lay_get allocA buildA buildRow builtinA lenA els indexAddrA isNil opA evA lit yldA binA binI unA pickA boolV intV fieldA mk flat lf lf.lfs frz
theorem law12 (b : Bnk) (w : b.Wfb) (z : Bool) (l : List Int) (hl : l.length ≤ 9223372036854775807) : ∃ hp c, run Try.prog (mdT tblB) 12 [b.av, .ro z (ints l)] Heap.none 0 = some (B true, hp, c) := by
  have kn := known_c
  have f := far_c b w
  obtain ⟨b1, n1, w1, c1⟩ := call_post (args := [.agg (bc b), .ro z (ints l)]) rfl (fun h => rfl) (rquarter_x b w z l hl) rfl
  obtain ⟨b2, n2, w2, c2⟩ := call_post (args := [.agg (bc b), .ro z (ints l)]) rfl (fun h => rfl) (bquarter_x b w z l hl) rfl
  have s := same_c b2 b1 (n2.trans n1.symm) w2
  rw [run_eq, show mdT tblB 12 = some .pure from rfl, Option.bind_some, Try.func12]
  unfold Bnk.av
  cases g0 : farP b
  case true => simp -implicitDefEqProofs [Try.f12, g0, f, kn]
  cases g1 : decide (300 < (l.length : Int))
  case true => simp -implicitDefEqProofs [Try.f12, g0, g1, f, kn, -decide_eq_true_eq, -decide_eq_false_iff_not]
  simp -implicitDefEqProofs [Try.f12, g0, g1, f, kn, c1, c2, s, -decide_eq_true_eq, -decide_eq_false_iff_not]
theorem pure12 (x0 x1 : AV) (h0 : TyArg Try.prog 8 25 x0) (h1 : TyArg Try.prog 8 40 x1) : ∃ h c, run Try.prog (mdT tblB) 12 [x0, x1] Heap.none 0 = some (B true, h, c) := by
  obtain ⟨b, rfl, w⟩ := arg25 h0
  obtain ⟨z, l, rfl, hl, _⟩ := arg40 h1
  exact law12 b w z l hl
end Go.Proofs.Ytdckleaemkcapaa.AM
