/- Texts of the proof: part B9. -/
import Derived.Test.YtdckleaemkcapaaB8
set_option maxHeartbeats 0
set_option linter.unusedSimpArgs false
set_option linter.unusedVariables false
set_option linter.unusedSectionVars false
namespace Go.Proofs.Ytdckleaemkcapaa.AM
open Go Go.Proofs
attribute [local simp] AV.cells okc AV.isBad fieldAddrA ld setCells stA skipV appendA hd makeA bnd sliceA kindA freshA killOk loadsAt newT empT lay_get allocA buildA buildRow builtinA lenA els indexAddrA isNil opA evA lit yldA binA binI unA pickA boolV intV fieldA mk flat lf lf.lfs frz
def pickB (e : Int) (b : Bnk) : Bnk := bif e == 0 then b else noB
theorem noB_sized : noB.Wfb := ⟨fun a h => by simp [noB] at h, by simp [noB], by simp [noB], fun _ => rfl, fun _ => rfl⟩
theorem pick_sized {e : Int} {b : Bnk} (h : b.Wfb) : Bnk.Wfb (pickB e b) := by
  unfold pickB
  cases e == 0
  · exact noB_sized
  · exact h
theorem resB_eq (e : Int) (b : Bnk) : resB e b = .tup [.agg (bc (pickB e b)), E e] := rfl
theorem law4 (rate infl : Int) : ∃ hp c, run Try.prog (mdT tblB) 4 [I rate, I infl] Heap.none 0 = some (B true, hp, c) := by
  have k := known_c
  have r1 := rnew_c rate infl
  have r2 := bnew_c rate infl
  rw [resB_eq] at r1 r2
  have hw : Bnk.Wfb (pickB (newP rate infl) (newB rate infl)) := pick_sized (newB_sized _ _)
  revert r1 r2 hw
  generalize pickB (newP rate infl) (newB rate infl) = n
  generalize newP rate infl = e
  intro r1 r2 hw
  have s := same_c n n rfl hw
  rw [run_eq, show mdT tblB 4 = some .pure from rfl, Option.bind_some, Try.func4]
  simp -implicitDefEqProofs [Try.f4, r1, r2, k, s]
theorem pure4 (x0 x1 : AV) (h0 : TyArg Try.prog 8 3 x0) (h1 : TyArg Try.prog 8 3 x1) : ∃ h c, run Try.prog (mdT tblB) 4 [x0, x1] Heap.none 0 = some (B true, h, c) := by
  obtain ⟨a, rfl, _⟩ := arg3 h0
  obtain ⟨b, rfl, _⟩ := arg3 h1
  exact law4 a b
end Go.Proofs.Ytdckleaemkcapaa.AM
