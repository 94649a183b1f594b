/- Texts of the proof: part B33. -/
import Derived.Test.YtdckleaemkcapaaB32
set_option maxHeartbeats 0
set_option linter.unusedSimpArgs false
set_option linter.unusedVariables false
set_option linter.unusedSectionVars false
namespace Go.Proofs.Ytdckleaemkcapaa.AM
open Go Go.Proofs
attribute [local simp] AV.cells okc AV.isBad fieldAddrA ld setCells stA skipV appendA hd makeA bnd sliceA kindA freshA killOk loadsAt newT empT lay_get allocA buildA buildRow builtinA lenA els indexAddrA isNil opA evA lit yldA binA binI unA pickA boolV intV fieldA mk flat lf lf.lfs frz
theorem bor_steps {b : Bnk} {co steps : Int} (h : (borP b co steps).1 = 0) : Valid b ∧ 0 ≤ co ∧ co ≤ 11 ∧ -1000 ≤ steps ∧ steps ≤ 1000 := by
  have hc : chkP b [co] = 0 := by
    unfold borP at h
    cases h' : chkP b [co] == 0 with
    | true => simpa using h'
    | false => rw [h'] at h; simp only [cond_false] at h; rw [h] at h'; cases h'
  obtain ⟨vb, gg⟩ := chk_zero hc
  obtain ⟨c0, c1, _, _⟩ := gg co (by simp)
  unfold borP at h
  rw [hc] at h
  simp only [BEq.rfl, cond_true] at h
  cases k0 : (steps == 0 || outP steps (-1000) 1000) <;> rw [k0] at h <;> simp only [cond_true, cond_false] at h
  case true => simp at h
  simp only [Bool.or_eq_false_iff] at k0
  have := outP_false.1 k0.2
  exact ⟨vb, c0, c1, this.1, this.2⟩
theorem law13 (b : Bnk) (w : b.Wfb) (co steps : Int) : ∃ hp c, run Try.prog (mdT tblB) 13 [b.av, I co, I steps] Heap.none 0 = some (B true, hp, c) := by
  have kn := known_c
  have f := far_c b w
  obtain ⟨b1, n1, w1, c1⟩ := call_post (args := [.agg (bc b), I co, I steps]) rfl (fun h => rfl) (bbor_x b w co steps) rfl
  rw [run_eq, show mdT tblB 13 = some .pure from rfl, Option.bind_some, Try.func13]
  unfold Bnk.av
  cases g0 : farP b
  case true => simp -implicitDefEqProofs [Try.f13, g0, f, kn]
  cases g1 : decide (steps < 1)
  case true => simp -implicitDefEqProofs [Try.f13, g0, g1, f, kn, -decide_eq_true_eq, -decide_eq_false_iff_not]
  by_cases e1 : (borP b co steps).1 = 0
  case neg =>
    have e2 : ((borP b co steps).1 != 0) = true := by simpa using e1
    simp -implicitDefEqProofs [Try.f13, g0, g1, f, kn, c1, e2, -decide_eq_true_eq, -decide_eq_false_iff_not]
  have hst := of_decide_eq_false g1
  obtain ⟨vb, _, _, _, hs2⟩ := bor_steps e1
  obtain ⟨v1, c0, c11, hback⟩ := back_law b b1 co steps (by omega) e1 n1
  obtain ⟨b2, n2, w2, c2⟩ := call_post (args := [.agg (bc b1), I co, I (-steps)]) rfl (fun h => rfl) (bbor_x b1 w1 co (-steps)) rfl
  rw [e1] at c1
  obtain ⟨m, rfl⟩ : ∃ m : Nat, co = m := ⟨co.toNat, by omega⟩
  have l1 : b1.accs.length = 12 := v1.len
  have l0 : b.accs.length = 12 := vb.len
  have hm0 : m < b.accs.length := by omega
  have h12 : m < 12 := by omega
  have hm1 : m < b1.accs.length := by omega
  have a0 : accAt b m = b.accs[m] := by unfold accAt; simp [hm0]
  have a1 : accAt b1 m = b1.accs[m] := by unfold accAt; simp [hm1]
  have k1 : decide ((m : Int) < 0) = false := decide_eq_false (by omega)
  have k2 : decide (12 ≤ (m : Int)) = false := decide_eq_false (by omega)
  have w3 : IntKind.i64.wrap (-steps) = -steps := wrap_id (by omega) (by omega)
  have w4 : IntKind.i64.wrap (steps * 10000) = steps * 10000 := wrap_id (by omega) (by omega)
  have F := f
  rcases hback with ⟨h1, h2⟩ | ⟨h1, h2⟩ | ⟨h1, h2, h3, h4⟩
  · rw [h1] at c2
    have k3 : decide (20000 ≤ (b1.book.length : Int)) = true := decide_eq_true (by omega)
    simp -implicitDefEqProofs [Try.f13, g0, g1, f, kn, c1, c2, l1, k1, k2, k3, w3, -decide_eq_true_eq, -decide_eq_false_iff_not]
  · rw [h1] at c2
    rw [a1] at h2
    have k3 : decide (b1.accs[m].cash < steps * 10000) = true := decide_eq_true h2
    simp -implicitDefEqProofs [Try.f13, g0, g1, f, kn, c1, c2, l1, hm1, h12, k1, k2, k3, w3, w4, Acc.cells, -decide_eq_true_eq, -decide_eq_false_iff_not]
  · rw [h1] at c2
    have v2 := valid_same n2 h2
    have l2 : b2.accs.length = 12 := v2.len
    have hm2 : m < b2.accs.length := by omega
    have a2 : accAt b2 m = b2.accs[m] := by unfold accAt; simp [hm2]
    have s2 := accAt_same n2 m
    have e3 : b2.accs[m].cash = b.accs[m].cash := by rw [← a2, s2.2.1, h3, a0]
    have e4 : b2.accs[m].loan = b.accs[m].loan := by rw [← a2, s2.2.2.1, h4, a0]
    simp -implicitDefEqProofs [Try.f13, g0, g1, f, kn, c1, c2, l1, l2, l0, hm0, h12, hm2, e3, e4, k1, k2, w3, Acc.cells, -decide_eq_true_eq, -decide_eq_false_iff_not]
theorem pure13 (x0 x1 x2 : AV) (h0 : TyArg Try.prog 8 25 x0) (h1 : TyArg Try.prog 8 3 x1) (h2 : TyArg Try.prog 8 3 x2) : ∃ h c, run Try.prog (mdT tblB) 13 [x0, x1, x2] Heap.none 0 = some (B true, h, c) := by
  obtain ⟨b, rfl, w⟩ := arg25 h0
  obtain ⟨n1, rfl, _⟩ := arg3 h1
  obtain ⟨n2, rfl, _⟩ := arg3 h2
  exact law13 b w n1 n2
end Go.Proofs.Ytdckleaemkcapaa.AM
