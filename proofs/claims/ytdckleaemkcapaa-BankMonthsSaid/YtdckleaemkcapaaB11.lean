/- Texts of the proof: part B11. -/
import Derived.Test.YtdckleaemkcapaaB10
set_option maxHeartbeats 0
set_option linter.unusedSimpArgs false
set_option linter.unusedVariables false
set_option linter.unusedSectionVars false
namespace Go.Proofs.Ytdckleaemkcapaa.AM
open Go Go.Proofs
attribute [local simp] AV.cells okc AV.isBad fieldAddrA ld setCells stA skipV appendA hd makeA bnd sliceA kindA freshA killOk loadsAt newT empT lay_get allocA buildA buildRow builtinA lenA els indexAddrA isNil opA evA lit yldA binA binI unA pickA boolV intV fieldA mk flat lf lf.lfs frz
theorem chk_zero {b : Bnk} {l : List Int} (h : chkP b l = 0) : Valid b ∧ ∀ n ∈ l, 0 ≤ n ∧ n ≤ 11 ∧ n.toNat < b.accs.length ∧ opnAt b n = true := by
  unfold chkP at h
  by_cases g : valP b = 0
  · rw [g] at h
    simp only [BEq.rfl, cond_true] at h
    have vb := valid_of g
    cases h1 : l.any coP <;> rw [h1] at h <;> simp only [cond_true, cond_false] at h
    case true => cases h
    cases h2 : l.any (notOpn b) <;> rw [h2] at h <;> simp only [cond_true, cond_false] at h
    case true => cases h
    refine ⟨vb, fun n hn => ?_⟩
    have a1 := outP_false.1 (any_false h1 n hn)
    have a2 := any_false h2 n hn
    unfold notOpn at a2
    exact ⟨a1.1, a1.2, by have := vb.len; omega, by simpa using a2⟩
  · have g1 : (valP b == 0) = false := by simpa using g
    rw [g1] at h
    simp only [cond_false] at h
    exact absurd h g
def accAt (b : Bnk) (n : Int) : Acc := (b.accs[n.toNat]?).getD shutA
def wrtP (b : Bnk) (n k : Int) : Int × Int := bif chkP b [n] == 0 then bif outP k 0 1000000000000 then (0, 1) else (worthP (accAt b n) k, 0) else (0, chkP b [n])
theorem rworths_c (b : Bnk) (w : b.Wfb) (n k : Int) (h : Heap) (c : Nat) : callA (mdT tblB) (run Try.prog (mdT tblB)) 28 [.agg (bc b), I n, I k] h c = some (.tup [I (wrtP b n k).1, E (wrtP b n k).2], h, c) := by
  obtain ⟨h', c', e⟩ : ∃ h c, run Try.prog (mdT tblB) 28 [.agg (bc b), I n, I k] Heap.none 0 = some (.tup [I (wrtP b n k).1, E (wrtP b n k).2], h, c) := by
    have hk := fun v h c hv => rchk_c b w [n] (by simp) v h c hv
    generalize hr : wrtP b n k = r
    unfold wrtP at hr
    rw [run_eq, show mdT tblB 28 = some .pure from rfl, Option.bind_some, Try.func28]
    by_cases g0 : chkP b [n] = 0
    · rw [g0] at hk
      have g1 := chk_zero g0
      obtain ⟨vb, g2⟩ := g1
      obtain ⟨n0, n1, n2, n3⟩ := g2 n (by simp)
      rw [g0] at hr
      simp only [BEq.rfl, cond_true] at hr
      cases g3 : outP k 0 1000000000000
      · rw [g3] at hr
        simp only [cond_false] at hr
        subst hr
        unfold accAt
        have hw := fun h c => rworth_x b.accs[n.toNat] k h c
        simp -implicitDefEqProofs [Try.f28, hk, g3, depth, n0, n2, hw, Acc.cells]
      · rw [g3] at hr
        simp only [cond_true] at hr
        subst hr
        simp -implicitDefEqProofs [Try.f28, hk, g3, depth]
    · have g1 : (chkP b [n] == 0) = false := by simpa using g0
      have g2 : (chkP b [n] != 0) = true := by simp [bne, g1]
      rw [g1] at hr
      simp only [cond_false] at hr
      subst hr
      simp -implicitDefEqProofs [Try.f28, hk, g2, depth]
  exact call_of rfl rfl e rfl rfl
theorem bworths_c (b : Bnk) (w : b.Wfb) (n k : Int) (h : Heap) (c : Nat) : callA (mdT tblB) (run Try.prog (mdT tblB)) 29 [.agg (bc b), I n, I k] h c = some (.tup [I (wrtP b n k).1, E (wrtP b n k).2], h, c) := by
  obtain ⟨h', c', e⟩ : ∃ h c, run Try.prog (mdT tblB) 29 [.agg (bc b), I n, I k] Heap.none 0 = some (.tup [I (wrtP b n k).1, E (wrtP b n k).2], h, c) := by
    have hk := fun v h c hv => bchk_c b w [n] (by simp) v h c hv
    generalize hr : wrtP b n k = r
    unfold wrtP at hr
    rw [run_eq, show mdT tblB 29 = some .pure from rfl, Option.bind_some, Try.func29]
    by_cases g0 : chkP b [n] = 0
    · rw [g0] at hk
      have g1 := chk_zero g0
      obtain ⟨vb, g2⟩ := g1
      obtain ⟨n0, n1, n2, n3⟩ := g2 n (by simp)
      rw [g0] at hr
      simp only [BEq.rfl, cond_true] at hr
      cases g3 : outP k 0 1000000000000
      · rw [g3] at hr
        simp only [cond_false] at hr
        subst hr
        unfold accAt
        have hw := fun h c => bworth_x b.accs[n.toNat] k h c
        simp -implicitDefEqProofs [Try.f29, hk, g3, depth, n0, n2, hw, Acc.cells]
      · rw [g3] at hr
        simp only [cond_true] at hr
        subst hr
        simp -implicitDefEqProofs [Try.f29, hk, g3, depth]
    · have g1 : (chkP b [n] == 0) = false := by simpa using g0
      have g2 : (chkP b [n] != 0) = true := by simp [bne, g1]
      rw [g1] at hr
      simp only [cond_false] at hr
      subst hr
      simp -implicitDefEqProofs [Try.f29, hk, g2, depth]
  exact call_of rfl rfl e rfl rfl
theorem law6 (b : Bnk) (w : b.Wfb) (n k : Int) : ∃ hp c, run Try.prog (mdT tblB) 6 [b.av, I n, I k] Heap.none 0 = some (B true, hp, c) := by
  have kn := known_c
  have f := far_c b w
  have r1 := rworths_c b w n k
  have r2 := bworths_c b w n k
  revert r1 r2
  generalize wrtP b n k = r
  intro r1 r2
  rw [run_eq, show mdT tblB 6 = some .pure from rfl, Option.bind_some, Try.func6]
  unfold Bnk.av
  cases g0 : farP b
  · simp -implicitDefEqProofs [Try.f6, g0, f, kn, r1, r2]
  · simp -implicitDefEqProofs [Try.f6, g0, f, kn]
theorem pure6 (x0 x1 x2 : AV) (h0 : TyArg Try.prog 8 25 x0) (h1 : TyArg Try.prog 8 3 x1) (h2 : TyArg Try.prog 8 3 x2) : ∃ h c, run Try.prog (mdT tblB) 6 [x0, x1, x2] Heap.none 0 = some (B true, h, c) := by
  obtain ⟨b, rfl, w⟩ := arg25 h0
  obtain ⟨n, rfl, _⟩ := arg3 h1
  obtain ⟨k, rfl, _⟩ := arg3 h2
  exact law6 b w n k
def prW (b : Bnk) (k : Int) : Int := IntKind.i64.wrap (Int.tdiv (IntKind.i64.wrap (k * b.idx)) 65536)
theorem rprice_x (b : Bnk) (k : Int) (h : Heap) (c : Nat) : callA (mdT tblB) (run Try.prog (mdT tblB)) 75 [.agg (bc b), I k] h c = some (I (if 1000000000001 < prW b k then 1000000000001 else prW b k), h, c) := by
  obtain ⟨h', c', e⟩ : ∃ h c, run Try.prog (mdT tblB) 75 [.agg (bc b), I k] Heap.none 0 = some (I (if 1000000000001 < prW b k then 1000000000001 else prW b k), h, c) := by
    unfold prW
    rw [run_eq, show mdT tblB 75 = some .pure from rfl, Option.bind_some, Try.func75]
    simp -implicitDefEqProofs [Try.f75, max2, min2]
  exact call_of rfl rfl e rfl rfl
theorem bprice_x (b : Bnk) (k : Int) (h : Heap) (c : Nat) : callA (mdT tblB) (run Try.prog (mdT tblB)) 76 [.agg (bc b), I k] h c = some (I (prW b k), h, c) := by
  obtain ⟨h', c', e⟩ : ∃ h c, run Try.prog (mdT tblB) 76 [.agg (bc b), I k] Heap.none 0 = some (I (prW b k), h, c) := by
    unfold prW
    rw [run_eq, show mdT tblB 76 = some .pure from rfl, Option.bind_some, Try.func76]
    simp -implicitDefEqProofs [Try.f76]
  exact call_of rfl rfl e rfl rfl
def prcP (b : Bnk) (k : Int) : Int × Int := bif valP b == 0 then bif outP k 0 1000000000000 then (0, 1) else bif decide (1000000000000 < prW b k) then (0, 10) else (prW b k, 0) else (0, valP b)
theorem rprices_c (b : Bnk) (w : b.Wfb) (k : Int) (h : Heap) (c : Nat) : callA (mdT tblB) (run Try.prog (mdT tblB)) 30 [.agg (bc b), I k] h c = some (.tup [I (prcP b k).1, E (prcP b k).2], h, c) := by
  obtain ⟨h', c', e⟩ : ∃ h c, run Try.prog (mdT tblB) 30 [.agg (bc b), I k] Heap.none 0 = some (.tup [I (prcP b k).1, E (prcP b k).2], h, c) := by
    have hk := rval_c b w
    have hp := rprice_x b k
    generalize hr : prcP b k = r
    unfold prcP at hr
    rw [run_eq, show mdT tblB 30 = some .pure from rfl, Option.bind_some, Try.func30]
    by_cases g0 : valP b = 0
    · rw [g0] at hk hr
      simp only [BEq.rfl, cond_true] at hr
      cases g3 : outP k 0 1000000000000
      · rw [g3] at hr
        simp only [cond_false] at hr
        cases g4 : decide (1000000000000 < prW b k)
        · have g5 : ¬ (1000000000001 < prW b k) := by have := of_decide_eq_false g4; omega
          rw [g4] at hr
          simp only [cond_false] at hr
          subst hr
          simp -implicitDefEqProofs [Try.f30, hk, g3, g4, g5, hp, -decide_eq_true_eq, -decide_eq_false_iff_not]
        · rw [g4] at hr
          simp only [cond_true] at hr
          subst hr
          by_cases g5 : 1000000000001 < prW b k
          · simp -implicitDefEqProofs [Try.f30, hk, g3, g4, g5, hp, -decide_eq_true_eq, -decide_eq_false_iff_not]
          · simp -implicitDefEqProofs [Try.f30, hk, g3, g4, g5, hp, -decide_eq_true_eq, -decide_eq_false_iff_not]
      · rw [g3] at hr
        simp only [cond_true] at hr
        subst hr
        simp -implicitDefEqProofs [Try.f30, hk, g3]
    · have g1 : (valP b == 0) = false := by simpa using g0
      have g2 : (valP b != 0) = true := by simp [bne, g1]
      rw [g1] at hr
      simp only [cond_false] at hr
      subst hr
      simp -implicitDefEqProofs [Try.f30, hk, g2]
  exact call_of rfl rfl e rfl rfl
theorem bprices_c (b : Bnk) (w : b.Wfb) (k : Int) (h : Heap) (c : Nat) : callA (mdT tblB) (run Try.prog (mdT tblB)) 31 [.agg (bc b), I k] h c = some (.tup [I (prcP b k).1, E (prcP b k).2], h, c) := by
  obtain ⟨h', c', e⟩ : ∃ h c, run Try.prog (mdT tblB) 31 [.agg (bc b), I k] Heap.none 0 = some (.tup [I (prcP b k).1, E (prcP b k).2], h, c) := by
    have hk := bval_c b w
    have hp := bprice_x b k
    generalize hr : prcP b k = r
    unfold prcP at hr
    rw [run_eq, show mdT tblB 31 = some .pure from rfl, Option.bind_some, Try.func31]
    by_cases g0 : valP b = 0
    · rw [g0] at hk hr
      simp only [BEq.rfl, cond_true] at hr
      cases g3 : outP k 0 1000000000000
      · rw [g3] at hr
        simp only [cond_false] at hr
        cases g4 : decide (1000000000000 < prW b k)
        · have g5 : ¬ (1000000000001 < prW b k) := by have := of_decide_eq_false g4; omega
          rw [g4] at hr
          simp only [cond_false] at hr
          subst hr
          simp -implicitDefEqProofs [Try.f31, hk, g3, g4, g5, hp, -decide_eq_true_eq, -decide_eq_false_iff_not]
        · rw [g4] at hr
          simp only [cond_true] at hr
          subst hr
          by_cases g5 : 1000000000001 < prW b k
          · simp -implicitDefEqProofs [Try.f31, hk, g3, g4, g5, hp, -decide_eq_true_eq, -decide_eq_false_iff_not]
          · simp -implicitDefEqProofs [Try.f31, hk, g3, g4, g5, hp, -decide_eq_true_eq, -decide_eq_false_iff_not]
      · rw [g3] at hr
        simp only [cond_true] at hr
        subst hr
        simp -implicitDefEqProofs [Try.f31, hk, g3]
    · have g1 : (valP b == 0) = false := by simpa using g0
      have g2 : (valP b != 0) = true := by simp [bne, g1]
      rw [g1] at hr
      simp only [cond_false] at hr
      subst hr
      simp -implicitDefEqProofs [Try.f31, hk, g2]
  exact call_of rfl rfl e rfl rfl
theorem law7 (b : Bnk) (w : b.Wfb) (k0 : Int) : ∃ hp c, run Try.prog (mdT tblB) 7 [b.av, I k0] Heap.none 0 = some (B true, hp, c) := by
  have kn := known_c
  have f := far_c b w
  have r1 := rprices_c b w k0
  have r2 := bprices_c b w k0
  revert r1 r2
  generalize prcP b k0 = r
  intro r1 r2
  rw [run_eq, show mdT tblB 7 = some .pure from rfl, Option.bind_some, Try.func7]
  unfold Bnk.av
  cases g0 : farP b
  · simp -implicitDefEqProofs [Try.f7, g0, f, kn, r1, r2]
  · simp -implicitDefEqProofs [Try.f7, g0, f, kn]
theorem pure7 (x0 x1 : AV) (h0 : TyArg Try.prog 8 25 x0) (h1 : TyArg Try.prog 8 3 x1) : ∃ h c, run Try.prog (mdT tblB) 7 [x0, x1] Heap.none 0 = some (B true, h, c) := by
  obtain ⟨b, rfl, w⟩ := arg25 h0
  obtain ⟨n, rfl, _⟩ := arg3 h1
  exact law7 b w n
end Go.Proofs.Ytdckleaemkcapaa.AM
