/- Texts of the proof: part B29. -/
import Derived.Test.YtdckleaemkcapaaB28
set_option maxHeartbeats 0
set_option linter.unusedSimpArgs false
set_option linter.unusedVariables false
set_option linter.unusedSectionVars false
namespace Go.Proofs.Ytdckleaemkcapaa.AM
open Go Go.Proofs
attribute [local simp] AV.cells okc AV.isBad fieldAddrA ld setCells stA skipV appendA hd makeA bnd sliceA kindA freshA killOk loadsAt newT empT lay_get allocA buildA buildRow builtinA lenA els indexAddrA isNil opA evA lit yldA binA binI unA pickA boolV intV fieldA mk flat lf lf.lfs frz
def nB (loan steps : Int) : Int := if -loan < steps * 10000 then steps * 10000 else -loan
def setB (b : Bnk) (co : Int) (a : Acc) : Bnk := ⟨false, b.accs.set co.toNat a, b.rate, b.infl, b.idx, false, b.book⟩
def borP (b : Bnk) (co steps : Int) : Int × Bnk := bif chkP b [co] == 0 then bif steps == 0 || outP steps (-1000) 1000 then (1, noB) else
  bif decide (0 < steps) && decide (prW b 500000 < (accAt b co).loan + nB (accAt b co).loan steps) then (10, noB) else bif decide (steps < 0) && decide ((accAt b co).cash < -(nB (accAt b co).loan steps)) then (12, noB) else
  bkP (setB b co { accAt b co with opn := (accAt b co).opn, cash := (accAt b co).cash, loan := (accAt b co).loan + nB (accAt b co).loan steps }) co 0 (nB (accAt b co).loan steps)
  else (chkP b [co], noB)
theorem prW_small {b : Bnk} (vb : Valid b) : 0 ≤ prW b 500000 ∧ prW b 500000 ≤ 2000000 := by
  have h := vb.idx
  unfold prW
  have e1 : IntKind.i64.wrap (500000 * b.idx) = 500000 * b.idx := wrap_id (by omega) (by omega)
  rw [e1, Int.tdiv_eq_ediv_of_nonneg (by omega)]
  rw [wrap_id (by omega) (by omega)]
  omega
theorem setB_at {b : Bnk} {co : Int} {a : Acc} (h : co.toNat < b.accs.length) : accAt (setB b co a) co = a := by
  unfold accAt setB
  simp [h]
theorem setB_at' {b : Bnk} {m : Nat} {a : Acc} (h : m < b.accs.length) : accAt (setB b m a) m = a := setB_at (co := m) (by simpa using h)
theorem rbor_x (b : Bnk) (w : b.Wfb) (co steps : Int) : PostB (borP b co steps).1 (borP b co steps).2 (run Try.prog (mdT tblB) 41 [.agg (bc b), I co, I steps] Heap.none 0) := by
  have hk := fun v h c hv => rchk_c b w [co] (by simp) v h c hv
  generalize hr : borP b co steps = r
  unfold borP at hr
  rw [run_eq, show mdT tblB 41 = some .pure from rfl, Option.bind_some, Try.func41]
  by_cases g0 : chkP b [co] = 0
  case neg =>
    have g1 : (chkP b [co] == 0) = false := by simpa using g0
    have g2 : (chkP b [co] != 0) = true := by simp [bne, g1]
    rw [g1] at hr
    simp only [cond_false] at hr
    subst hr
    simp -implicitDefEqProofs [depth, Try.f41, hk, g2]
    exact post_err _ _ _
  rw [g0] at hk
  obtain ⟨vb, gg⟩ := chk_zero g0
  obtain ⟨n0, n1, hml, hop⟩ := gg co (by simp)
  rw [g0] at hr
  simp only [BEq.rfl, cond_true] at hr
  obtain ⟨m, rfl⟩ : ∃ m : Nat, co = m := ⟨co.toNat, by omega⟩
  simp only [Int.toNat_natCast] at hml
  have hm : m < 12 := by have := vb.len; omega
  have hmi : (m : Int) < 12 := by omega
  have haa : accAt b m = b.accs[m] := by unfold accAt; simp [hml]
  rw [haa] at hr
  have aok := vb.accs _ (List.getElem_mem hml)
  have acash := aok.cash
  have aloan := aok.loan
  have hpr := prW_small vb
  cases g4 : (steps == 0)
  case true =>
    rw [g4] at hr
    simp only [cond_true, Bool.true_or] at hr
    subst hr
    simp -implicitDefEqProofs [depth, Try.f41, hk, g4]
    exact post_err _ _ _
  cases g3 : outP steps (-1000) 1000
  case true =>
    rw [g3, g4] at hr
    simp only [cond_true, Bool.or_true] at hr
    subst hr
    simp -implicitDefEqProofs [depth, Try.f41, hk, g3, g4]
    exact post_err _ _ _
  rw [g3, g4] at hr
  simp only [cond_false, Bool.or_false] at hr
  have hst := outP_false.1 g3
  have hs0 : steps ≠ 0 := by simpa using g4
  have hw1 : IntKind.i64.wrap (steps * 10000) = steps * 10000 := wrap_id (by omega) (by omega)
  have hw2 : IntKind.i64.wrap (-b.accs[m].loan) = -b.accs[m].loan := wrap_id (by omega) (by omega)
  have hmx : (if -b.accs[m].loan < steps * 10000 then steps * 10000 else -b.accs[m].loan) = nB b.accs[m].loan steps := by unfold nB; rfl
  have hns : -1000000000000 ≤ nB b.accs[m].loan steps ∧ nB b.accs[m].loan steps ≤ 10000000 := by unfold nB; split <;> omega
  have hsg : (0 < steps → 0 < nB b.accs[m].loan steps) ∧ (steps < 0 → nB b.accs[m].loan steps ≤ 0) ∧ 0 ≤ b.accs[m].loan + nB b.accs[m].loan steps := by unfold nB; split <;> omega
  revert hmx hns hsg hr
  generalize nB b.accs[m].loan steps = n
  intro hr hmx hns hsg
  have hw3 : IntKind.i64.wrap (b.accs[m].loan + n) = b.accs[m].loan + n := wrap_id (by omega) (by omega)
  have hw4 : IntKind.i64.wrap (-n) = -n := wrap_id (by omega) (by omega)
  have hw5 : (if 1000000000001 < prW b 500000 then (1000000000001 : Int) else prW b 500000) = prW b 500000 := if_neg (by omega)
  have hn : -1000000000000 ≤ n ∧ n ≤ 1000000000000 := by omega
  have hpc := rprice_x b 500000
  unfold bkP at hr
  rw [setB_at' hml] at hr
  simp only [setB, Int.toNat_natCast, plainB, List.set_set] at hr
  by_cases sp : 0 < steps
  · have k1 : decide (0 < steps) = true := decide_eq_true sp
    have k2 : decide (steps < 0) = false := decide_eq_false (by omega)
    have k3 : decide (0 < n) = true := decide_eq_true (by omega)
    have k4 : decide (n ≤ 0) = false := decide_eq_false (by omega)
    rw [k1, k2] at hr
    simp only [Bool.true_and, Bool.false_and, cond_false] at hr
    cases k5 : decide (prW b 500000 < b.accs[m].loan + n)
    case true =>
      rw [k5] at hr
      simp only [cond_true] at hr
      subst hr
      simp -implicitDefEqProofs [depth, Try.f41, g3, hpc, g4, k1, k2, k3, k4, k5, hk, hw1, hw2, hw3, hw4, hw5, hmx, hml, Acc.cells, max2, -decide_eq_true_eq, -decide_eq_false_iff_not]
      exact post_err _ _ _
    rw [k5] at hr
    simp only [cond_false] at hr
    have k6 : decide (1000000000000 < b.accs[m].loan + n) = false := decide_eq_false (by have := of_decide_eq_false k5; omega)
    simp -implicitDefEqProofs [depth, Try.f41, g3, hpc, g4, k1, k2, k3, k4, k5, k6, hk, hw1, hw2, hw3, hw4, hw5, hmx, hml, Acc.cells, max2, obm, Option.bind_assoc, -decide_eq_true_eq, -decide_eq_false_iff_not]
    refine copy_to (.inl rfl) b vb w _ _ _ ?_
    intro h1 c1 la v rows hc hlow O M
    have h0 : h1 0 = some ⟨5, [bc b]⟩ := by rw [hlow 0 (by omega)]; simp
    have h1' : h1 1 = some ⟨5, [noC]⟩ := by rw [hlow 1 (by omega)]; simp
    have hla := O.hla
    have hlt : m < rows.length := by rw [O.len]; exact hm
    obtain ⟨a, vp, vl, ha, hrw, hvp, hvl⟩ := O.get hm
    rw [List.getElem?_eq_getElem hml] at ha
    cases ha
    have hr' : rows[m] = [B b.accs[m].opn, I b.accs[m].cash, I b.accs[m].loan, vp, vl] := by rw [List.getElem?_eq_getElem hlt] at hrw; exact Option.some.inj hrw
    have lge := O.sep4.1
    have q1 : ¬ (la = 0) := by omega
    have q2 : ¬ (0 = la) := by omega
    have q3 : ¬ (la = 1) := by omega
    have q4 : ¬ (1 = la) := by omega
    have hv1 := slv_cells O.bkv
    have hv2 := slv_okc O.bkv
    unfold AV.cells at hv1
    unfold okc at hv2
    simp -implicitDefEqProofs [-frz, h0, h1', hla, hlt, hr', hm, hmi, q1, q2, q3, q4, hw3, hv1, hv2, obm, Option.bind_assoc]
    have aO : (b.accs.set m { b.accs[m] with opn := b.accs[m].opn, cash := b.accs[m].cash, loan := b.accs[m].loan + n })[m]? = some { b.accs[m] with opn := b.accs[m].opn, cash := b.accs[m].cash, loan := b.accs[m].loan + n } := by simp [hml]
    have hbk := vb.book
    refine book_to (Q := fun l => 4 ≤ l) (p := 0) (la := la) (v := v) (r := b.rate) (f := b.infl) (x := b.idx) (a := { b.accs[m] with opn := b.accs[m].opn, cash := b.accs[m].cash, loan := b.accs[m].loan + n }) _ _ _ (by simp [q1, q2, q3, q4]) (by simp) (O.scal hm hrw hvp hvl (by simp [q1, q2, q3, q4]) (fun l hl hq => by simp [hl, show ¬ (l = 0) by omega])) (mine_put M (M.get hm hrw).1 (M.get hm hrw).2) hm aO (by simp only; omega) hn (by omega) ?_ ?_ ?_
    · intro e
      have e1 : ((n : Int) == 0) = true := by simpa using e
      rw [e1] at hr
      simp only [cond_true] at hr
      subst hr
      simp -implicitDefEqProofs [-frz, h1', hv1, hv2, q1, q2, q3, q4]
      have O3 := (O.scal hm hrw hvp hvl (o := b.accs[m].opn) (x := b.accs[m].cash) (y := b.accs[m].loan + n) (h' := h1.put la (some ⟨5, rows.set m (rw5 (b.accs[m].opn) (b.accs[m].cash) (b.accs[m].loan + n) vp vl)⟩)) (by simp) (fun l hl hq => by simp [hl]))
      refine post_nrm rfl (post_own (Own.frame O3 (Nat.le_refl _) (fun l hl hlc => ?_)) (mine_put M (M.get hm hrw).1 (M.get hm hrw).2) _ _ _ (by have := vb.book; omega) (small_set (small_of vb) (by have := aok.lp; simp only; omega) (by have := vb.last _ (List.getElem_mem hml); simp only; omega)))
      simp [show ¬ (l = 0) by omega, show ¬ (l = 1) by omega]
    · intro e hbad
      have e1 : ((n : Int) == 0) = false := by simpa using e
      rw [e1, hbad] at hr
      simp only [cond_true, cond_false] at hr
      subst hr
      simp -implicitDefEqProofs [-frz, h1', q1, q2, q3, q4]
      exact post_err _ _ _
    · intro e hbad h2 c2 v2 rows2 p0 pk hc2 O2 M2
      have e1 : ((n : Int) == 0) = false := by simpa using e
      rw [e1, hbad] at hr
      simp only [cond_false] at hr
      subst hr
      have h21 : h2 1 = some ⟨5, [noC]⟩ := by rw [pk 1 (by simp) (by omega)]; simp [q1, q2, q3, q4, h1']
      have hw1 := slv_cells O2.bkv
      have hw2 := slv_okc O2.bkv
      unfold AV.cells at hw1
      unfold okc at hw2
      simp -implicitDefEqProofs [-frz, p0, h21, hw1, hw2, q1, q2, q3, q4]
      rw [List.set_set] at O2
      have O3 := O2.frame (h' := h2.put 1 (some ⟨5, [[.sl la 5 0 12, I b.rate, I b.infl, I b.idx, v2]]⟩)) (Nat.le_refl _) (fun l hl hlc => by simp [show ¬ (l = 1) by omega])
      exact post_nrm (by simp [Bnk.nrm, List.set_set]) (post_own O3 M2 _ _ _ (by simp; omega) (small_set (small_of vb) (by have := aok.lp; simp only; omega) (by have := vb.last _ (List.getElem_mem hml); simp only; omega)))
  · have k1 : decide (0 < steps) = false := decide_eq_false sp
    have k2 : decide (steps < 0) = true := decide_eq_true (by omega)
    have k3 : decide (0 < n) = false := decide_eq_false (by omega)
    have k4 : decide (n ≤ 0) = true := decide_eq_true (by omega)
    rw [k1, k2] at hr
    simp only [Bool.true_and, Bool.false_and, cond_false] at hr
    cases k5 : decide (b.accs[m].cash < -n)
    case true =>
      rw [k5] at hr
      simp only [cond_true] at hr
      subst hr
      simp -implicitDefEqProofs [depth, Try.f41, g3, hpc, g4, k1, k2, k3, k4, k5, hk, hw1, hw2, hw3, hw4, hw5, hmx, hml, Acc.cells, max2, -decide_eq_true_eq, -decide_eq_false_iff_not]
      exact post_err _ _ _
    rw [k5] at hr
    simp only [cond_false] at hr
    simp -implicitDefEqProofs [depth, Try.f41, g3, hpc, g4, k1, k2, k3, k4, k5, hk, hw1, hw2, hw3, hw4, hw5, hmx, hml, Acc.cells, max2, obm, Option.bind_assoc, -decide_eq_true_eq, -decide_eq_false_iff_not]
    refine copy_to (.inl rfl) b vb w _ _ _ ?_
    intro h1 c1 la v rows hc hlow O M
    have h0 : h1 0 = some ⟨5, [bc b]⟩ := by rw [hlow 0 (by omega)]; simp
    have h1' : h1 1 = some ⟨5, [noC]⟩ := by rw [hlow 1 (by omega)]; simp
    have hla := O.hla
    have hlt : m < rows.length := by rw [O.len]; exact hm
    obtain ⟨a, vp, vl, ha, hrw, hvp, hvl⟩ := O.get hm
    rw [List.getElem?_eq_getElem hml] at ha
    cases ha
    have hr' : rows[m] = [B b.accs[m].opn, I b.accs[m].cash, I b.accs[m].loan, vp, vl] := by rw [List.getElem?_eq_getElem hlt] at hrw; exact Option.some.inj hrw
    have lge := O.sep4.1
    have q1 : ¬ (la = 0) := by omega
    have q2 : ¬ (0 = la) := by omega
    have q3 : ¬ (la = 1) := by omega
    have q4 : ¬ (1 = la) := by omega
    have hv1 := slv_cells O.bkv
    have hv2 := slv_okc O.bkv
    unfold AV.cells at hv1
    unfold okc at hv2
    simp -implicitDefEqProofs [-frz, h0, h1', hla, hlt, hr', hm, hmi, q1, q2, q3, q4, hw3, hv1, hv2, obm, Option.bind_assoc]
    have aO : (b.accs.set m { b.accs[m] with opn := b.accs[m].opn, cash := b.accs[m].cash, loan := b.accs[m].loan + n })[m]? = some { b.accs[m] with opn := b.accs[m].opn, cash := b.accs[m].cash, loan := b.accs[m].loan + n } := by simp [hml]
    have hbk := vb.book
    refine book_to (Q := fun l => 4 ≤ l) (p := 0) (la := la) (v := v) (r := b.rate) (f := b.infl) (x := b.idx) (a := { b.accs[m] with opn := b.accs[m].opn, cash := b.accs[m].cash, loan := b.accs[m].loan + n }) _ _ _ (by simp [q1, q2, q3, q4]) (by simp) (O.scal hm hrw hvp hvl (by simp [q1, q2, q3, q4]) (fun l hl hq => by simp [hl, show ¬ (l = 0) by omega])) (mine_put M (M.get hm hrw).1 (M.get hm hrw).2) hm aO (by simp only; omega) hn (by omega) ?_ ?_ ?_
    · intro e
      have e1 : ((n : Int) == 0) = true := by simpa using e
      rw [e1] at hr
      simp only [cond_true] at hr
      subst hr
      simp -implicitDefEqProofs [-frz, h1', hv1, hv2, q1, q2, q3, q4]
      have O3 := (O.scal hm hrw hvp hvl (o := b.accs[m].opn) (x := b.accs[m].cash) (y := b.accs[m].loan + n) (h' := h1.put la (some ⟨5, rows.set m (rw5 (b.accs[m].opn) (b.accs[m].cash) (b.accs[m].loan + n) vp vl)⟩)) (by simp) (fun l hl hq => by simp [hl]))
      refine post_nrm rfl (post_own (Own.frame O3 (Nat.le_refl _) (fun l hl hlc => ?_)) (mine_put M (M.get hm hrw).1 (M.get hm hrw).2) _ _ _ (by have := vb.book; omega) (small_set (small_of vb) (by have := aok.lp; simp only; omega) (by have := vb.last _ (List.getElem_mem hml); simp only; omega)))
      simp [show ¬ (l = 0) by omega, show ¬ (l = 1) by omega]
    · intro e hbad
      have e1 : ((n : Int) == 0) = false := by simpa using e
      rw [e1, hbad] at hr
      simp only [cond_true, cond_false] at hr
      subst hr
      simp -implicitDefEqProofs [-frz, h1', q1, q2, q3, q4]
      exact post_err _ _ _
    · intro e hbad h2 c2 v2 rows2 p0 pk hc2 O2 M2
      have e1 : ((n : Int) == 0) = false := by simpa using e
      rw [e1, hbad] at hr
      simp only [cond_false] at hr
      subst hr
      have h21 : h2 1 = some ⟨5, [noC]⟩ := by rw [pk 1 (by simp) (by omega)]; simp [q1, q2, q3, q4, h1']
      have hw1 := slv_cells O2.bkv
      have hw2 := slv_okc O2.bkv
      unfold AV.cells at hw1
      unfold okc at hw2
      simp -implicitDefEqProofs [-frz, p0, h21, hw1, hw2, q1, q2, q3, q4]
      rw [List.set_set] at O2
      have O3 := O2.frame (h' := h2.put 1 (some ⟨5, [[.sl la 5 0 12, I b.rate, I b.infl, I b.idx, v2]]⟩)) (Nat.le_refl _) (fun l hl hlc => by simp [show ¬ (l = 1) by omega])
      exact post_nrm (by simp [Bnk.nrm, List.set_set]) (post_own O3 M2 _ _ _ (by simp; omega) (small_set (small_of vb) (by have := aok.lp; simp only; omega) (by have := vb.last _ (List.getElem_mem hml); simp only; omega)))
theorem bbor_x (b : Bnk) (w : b.Wfb) (co steps : Int) : PostB (borP b co steps).1 (borP b co steps).2 (run Try.prog (mdT tblB) 42 [.agg (bc b), I co, I steps] Heap.none 0) := by
  have hk := fun v h c hv => bchk_c b w [co] (by simp) v h c hv
  generalize hr : borP b co steps = r
  unfold borP at hr
  rw [run_eq, show mdT tblB 42 = some .pure from rfl, Option.bind_some, Try.func42]
  by_cases g0 : chkP b [co] = 0
  case neg =>
    have g1 : (chkP b [co] == 0) = false := by simpa using g0
    have g2 : (chkP b [co] != 0) = true := by simp [bne, g1]
    rw [g1] at hr
    simp only [cond_false] at hr
    subst hr
    simp -implicitDefEqProofs [depth, Try.f42, hk, g2]
    exact post_err _ _ _
  rw [g0] at hk
  obtain ⟨vb, gg⟩ := chk_zero g0
  obtain ⟨n0, n1, hml, hop⟩ := gg co (by simp)
  rw [g0] at hr
  simp only [BEq.rfl, cond_true] at hr
  obtain ⟨m, rfl⟩ : ∃ m : Nat, co = m := ⟨co.toNat, by omega⟩
  simp only [Int.toNat_natCast] at hml
  have hm : m < 12 := by have := vb.len; omega
  have hmi : (m : Int) < 12 := by omega
  have haa : accAt b m = b.accs[m] := by unfold accAt; simp [hml]
  rw [haa] at hr
  have aok := vb.accs _ (List.getElem_mem hml)
  have acash := aok.cash
  have aloan := aok.loan
  have hpr := prW_small vb
  cases g5 : decide (steps < -1000)
  case true =>
    have g3 : outP steps (-1000) 1000 = true := by unfold outP; rw [g5]; rfl
    rw [g3] at hr
    simp only [cond_true, Bool.or_true] at hr
    subst hr
    simp -implicitDefEqProofs [depth, Try.f42, hk, g5, -decide_eq_true_eq, -decide_eq_false_iff_not]
    exact post_err _ _ _
  cases g6 : decide (1000 < steps)
  case true =>
    have g3 : outP steps (-1000) 1000 = true := by unfold outP; rw [g5, g6]; rfl
    rw [g3] at hr
    simp only [cond_true, Bool.or_true] at hr
    subst hr
    simp -implicitDefEqProofs [depth, Try.f42, hk, g5, g6, -decide_eq_true_eq, -decide_eq_false_iff_not]
    exact post_err _ _ _
  cases g4 : (steps == 0)
  case true =>
    rw [g4] at hr
    simp only [cond_true, Bool.true_or] at hr
    subst hr
    simp -implicitDefEqProofs [depth, Try.f42, hk, g4, g5, g6, -decide_eq_true_eq, -decide_eq_false_iff_not]
    exact post_err _ _ _
  have g3 : outP steps (-1000) 1000 = false := by unfold outP; rw [g5, g6]; rfl
  rw [g3, g4] at hr
  simp only [cond_false, Bool.or_false] at hr
  have hst := outP_false.1 g3
  have hs0 : steps ≠ 0 := by simpa using g4
  have hw1 : IntKind.i64.wrap (steps * 10000) = steps * 10000 := wrap_id (by omega) (by omega)
  have hw2 : IntKind.i64.wrap (-b.accs[m].loan) = -b.accs[m].loan := wrap_id (by omega) (by omega)
  have hmx : (if steps * 10000 < -b.accs[m].loan then -b.accs[m].loan else steps * 10000) = nB b.accs[m].loan steps := by unfold nB; split <;> split <;> omega
  have hns : -1000000000000 ≤ nB b.accs[m].loan steps ∧ nB b.accs[m].loan steps ≤ 10000000 := by unfold nB; split <;> omega
  have hsg : (0 < steps → 0 < nB b.accs[m].loan steps) ∧ (steps < 0 → nB b.accs[m].loan steps ≤ 0) ∧ 0 ≤ b.accs[m].loan + nB b.accs[m].loan steps := by unfold nB; split <;> omega
  revert hmx hns hsg hr
  generalize nB b.accs[m].loan steps = n
  intro hr hmx hns hsg
  have hw3 : IntKind.i64.wrap (b.accs[m].loan + n) = b.accs[m].loan + n := wrap_id (by omega) (by omega)
  have hw4 : IntKind.i64.wrap (-n) = -n := wrap_id (by omega) (by omega)
  have hw5 : (if 1000000000001 < prW b 500000 then (1000000000001 : Int) else prW b 500000) = prW b 500000 := if_neg (by omega)
  have hn : -1000000000000 ≤ n ∧ n ≤ 1000000000000 := by omega
  have hpc := bprice_x b 500000
  unfold bkP at hr
  rw [setB_at' hml] at hr
  simp only [setB, Int.toNat_natCast, plainB, List.set_set] at hr
  by_cases sp : 0 < steps
  · have k1 : decide (0 < steps) = true := decide_eq_true sp
    have k2 : decide (steps < 0) = false := decide_eq_false (by omega)
    have k3 : decide (0 < n) = true := decide_eq_true (by omega)
    have k4 : decide (n ≤ 0) = false := decide_eq_false (by omega)
    rw [k1, k2] at hr
    simp only [Bool.true_and, Bool.false_and, cond_false] at hr
    cases k5 : decide (prW b 500000 < b.accs[m].loan + n)
    case true =>
      rw [k5] at hr
      simp only [cond_true] at hr
      subst hr
      simp -implicitDefEqProofs [depth, Try.f42, g3, hpc, g4, g5, g6, k1, k2, k3, k4, k5, hk, hw1, hw2, hw3, hw4, hw5, hmx, hml, Acc.cells, max2, -decide_eq_true_eq, -decide_eq_false_iff_not]
      exact post_err _ _ _
    rw [k5] at hr
    simp only [cond_false] at hr
    have k6 : decide (1000000000000 < b.accs[m].loan + n) = false := decide_eq_false (by have := of_decide_eq_false k5; omega)
    simp -implicitDefEqProofs [depth, Try.f42, g3, hpc, g4, g5, g6, k1, k2, k3, k4, k5, k6, hk, hw1, hw2, hw3, hw4, hw5, hmx, hml, Acc.cells, max2, obm, Option.bind_assoc, -decide_eq_true_eq, -decide_eq_false_iff_not]
    refine copy_to (.inr rfl) b vb w _ _ _ ?_
    intro h1 c1 la v rows hc hlow O M
    have h0 : h1 0 = some ⟨5, [bc b]⟩ := by rw [hlow 0 (by omega)]; simp
    have h1' : h1 1 = some ⟨5, [noC]⟩ := by rw [hlow 1 (by omega)]; simp
    have hla := O.hla
    have hlt : m < rows.length := by rw [O.len]; exact hm
    obtain ⟨a, vp, vl, ha, hrw, hvp, hvl⟩ := O.get hm
    rw [List.getElem?_eq_getElem hml] at ha
    cases ha
    have hr' : rows[m] = [B b.accs[m].opn, I b.accs[m].cash, I b.accs[m].loan, vp, vl] := by rw [List.getElem?_eq_getElem hlt] at hrw; exact Option.some.inj hrw
    have lge := O.sep4.1
    have q1 : ¬ (la = 0) := by omega
    have q2 : ¬ (0 = la) := by omega
    have q3 : ¬ (la = 1) := by omega
    have q4 : ¬ (1 = la) := by omega
    have lc1 := O.sep4.2
    have d1 : ¬ (c1 = 0) := by omega
    have d2 : ¬ (0 = c1) := by omega
    have d3 : ¬ (c1 = 1) := by omega
    have d4 : ¬ (1 = c1) := by omega
    have d5 : ¬ (c1 = la) := by omega
    have d6 : ¬ (la = c1) := by omega
    have hv1 := slv_cells O.bkv
    have hv2 := slv_okc O.bkv
    unfold AV.cells at hv1
    unfold okc at hv2
    simp -implicitDefEqProofs [-frz, h0, h1', hla, hlt, hr', hm, hmi, q1, q2, q3, q4, d1, d2, d3, d4, d5, d6, hw3, booking_c, hv1, hv2, obm, Option.bind_assoc]
    have aO : (b.accs.set m { b.accs[m] with opn := b.accs[m].opn, cash := b.accs[m].cash, loan := b.accs[m].loan + n })[m]? = some { b.accs[m] with opn := b.accs[m].opn, cash := b.accs[m].cash, loan := b.accs[m].loan + n } := by simp [hml]
    have hbk := vb.book
    refine book91_to (Q := fun l => 4 ≤ l ∧ l ≠ c1) (d := c1) (p := 0) (la := la) (v := v) (r := b.rate) (f := b.infl) (x := b.idx) (a := { b.accs[m] with opn := b.accs[m].opn, cash := b.accs[m].cash, loan := b.accs[m].loan + n }) _ _ _ (by simp [q1, q2, q3, q4, d1, d2, d3, d4, d5, d6]) (by simp) ((O.excl (Nat.le_refl c1)).scal hm hrw hvp hvl (by simp [q1, q2, q3, q4, d1, d2, d3, d4, d5, d6]) (fun l hl hq => by simp [hl, show ¬ (l = 0) by omega, hq.2])) (mine_put M (M.get hm hrw).1 (M.get hm hrw).2) hm aO (by simp only; omega) hn (by omega) (by simp) (by simp) (by omega) ?_ ?_ ?_
    · intro e
      have e1 : ((n : Int) == 0) = true := by simpa using e
      rw [e1] at hr
      simp only [cond_true] at hr
      subst hr
      simp -implicitDefEqProofs [-frz, h1', hv1, hv2, q1, q2, q3, q4, d1, d2, d3, d4, d5, d6]
      have O3 := ((O.excl (Nat.le_refl c1)).scal hm hrw hvp hvl (o := b.accs[m].opn) (x := b.accs[m].cash) (y := b.accs[m].loan + n) (h' := h1.put la (some ⟨5, rows.set m (rw5 (b.accs[m].opn) (b.accs[m].cash) (b.accs[m].loan + n) vp vl)⟩)) (by simp) (fun l hl hq => by simp [hl]))
      refine post_nrm rfl (post_own (Own.frame O3 (Nat.le_refl _) (fun l hl hlc => ?_)) (mine_put M (M.get hm hrw).1 (M.get hm hrw).2) _ _ _ (by have := vb.book; omega) (small_set (small_of vb) (by have := aok.lp; simp only; omega) (by have := vb.last _ (List.getElem_mem hml); simp only; omega)))
      simp [show ¬ (l = 0) by omega, show ¬ (l = 1) by omega, hl.2]
    · intro e hbad
      have e1 : ((n : Int) == 0) = false := by simpa using e
      rw [e1, hbad] at hr
      simp only [cond_true, cond_false] at hr
      subst hr
      simp -implicitDefEqProofs [-frz, h1', q1, q2, q3, q4, d1, d2, d3, d4, d5, d6]
      exact post_err _ _ _
    · intro e hbad h2 c2 v2 rows2 p0 pk hc2 O2 M2
      have e1 : ((n : Int) == 0) = false := by simpa using e
      rw [e1, hbad] at hr
      simp only [cond_false] at hr
      subst hr
      have h21 : h2 1 = some ⟨5, [noC]⟩ := by rw [pk 1 (by simp) (by omega)]; simp [q1, q2, q3, q4, d1, d2, d3, d4, d5, d6, h1']
      have hw1 := slv_cells O2.bkv
      have hw2 := slv_okc O2.bkv
      unfold AV.cells at hw1
      unfold okc at hw2
      simp -implicitDefEqProofs [-frz, p0, h21, hw1, hw2, q1, q2, q3, q4, d1, d2, d3, d4, d5, d6]
      rw [List.set_set] at O2
      have O3 := O2.frame (h' := h2.put 1 (some ⟨5, [[.sl la 5 0 12, I b.rate, I b.infl, I b.idx, v2]]⟩)) (Nat.le_refl _) (fun l hl hlc => by simp [show ¬ (l = 1) by omega])
      exact post_nrm (by simp [Bnk.nrm, List.set_set]) (post_own O3 M2 _ _ _ (by simp; omega) (small_set (small_of vb) (by have := aok.lp; simp only; omega) (by have := vb.last _ (List.getElem_mem hml); simp only; omega)))
  · have k1 : decide (0 < steps) = false := decide_eq_false sp
    have k2 : decide (steps < 0) = true := decide_eq_true (by omega)
    have k3 : decide (0 < n) = false := decide_eq_false (by omega)
    have k4 : decide (n ≤ 0) = true := decide_eq_true (by omega)
    rw [k1, k2] at hr
    simp only [Bool.true_and, Bool.false_and, cond_false] at hr
    cases k5 : decide (b.accs[m].cash < -n)
    case true =>
      rw [k5] at hr
      simp only [cond_true] at hr
      subst hr
      simp -implicitDefEqProofs [depth, Try.f42, g3, hpc, g4, g5, g6, k1, k2, k3, k4, k5, hk, hw1, hw2, hw3, hw4, hw5, hmx, hml, Acc.cells, max2, -decide_eq_true_eq, -decide_eq_false_iff_not]
      exact post_err _ _ _
    rw [k5] at hr
    simp only [cond_false] at hr
    simp -implicitDefEqProofs [depth, Try.f42, g3, hpc, g4, g5, g6, k1, k2, k3, k4, k5, hk, hw1, hw2, hw3, hw4, hw5, hmx, hml, Acc.cells, max2, obm, Option.bind_assoc, -decide_eq_true_eq, -decide_eq_false_iff_not]
    refine copy_to (.inr rfl) b vb w _ _ _ ?_
    intro h1 c1 la v rows hc hlow O M
    have h0 : h1 0 = some ⟨5, [bc b]⟩ := by rw [hlow 0 (by omega)]; simp
    have h1' : h1 1 = some ⟨5, [noC]⟩ := by rw [hlow 1 (by omega)]; simp
    have hla := O.hla
    have hlt : m < rows.length := by rw [O.len]; exact hm
    obtain ⟨a, vp, vl, ha, hrw, hvp, hvl⟩ := O.get hm
    rw [List.getElem?_eq_getElem hml] at ha
    cases ha
    have hr' : rows[m] = [B b.accs[m].opn, I b.accs[m].cash, I b.accs[m].loan, vp, vl] := by rw [List.getElem?_eq_getElem hlt] at hrw; exact Option.some.inj hrw
    have lge := O.sep4.1
    have q1 : ¬ (la = 0) := by omega
    have q2 : ¬ (0 = la) := by omega
    have q3 : ¬ (la = 1) := by omega
    have q4 : ¬ (1 = la) := by omega
    have lc1 := O.sep4.2
    have d1 : ¬ (c1 = 0) := by omega
    have d2 : ¬ (0 = c1) := by omega
    have d3 : ¬ (c1 = 1) := by omega
    have d4 : ¬ (1 = c1) := by omega
    have d5 : ¬ (c1 = la) := by omega
    have d6 : ¬ (la = c1) := by omega
    have hv1 := slv_cells O.bkv
    have hv2 := slv_okc O.bkv
    unfold AV.cells at hv1
    unfold okc at hv2
    simp -implicitDefEqProofs [-frz, h0, h1', hla, hlt, hr', hm, hmi, q1, q2, q3, q4, d1, d2, d3, d4, d5, d6, hw3, booking_c, hv1, hv2, obm, Option.bind_assoc]
    have aO : (b.accs.set m { b.accs[m] with opn := b.accs[m].opn, cash := b.accs[m].cash, loan := b.accs[m].loan + n })[m]? = some { b.accs[m] with opn := b.accs[m].opn, cash := b.accs[m].cash, loan := b.accs[m].loan + n } := by simp [hml]
    have hbk := vb.book
    refine book91_to (Q := fun l => 4 ≤ l ∧ l ≠ c1) (d := c1) (p := 0) (la := la) (v := v) (r := b.rate) (f := b.infl) (x := b.idx) (a := { b.accs[m] with opn := b.accs[m].opn, cash := b.accs[m].cash, loan := b.accs[m].loan + n }) _ _ _ (by simp [q1, q2, q3, q4, d1, d2, d3, d4, d5, d6]) (by simp) ((O.excl (Nat.le_refl c1)).scal hm hrw hvp hvl (by simp [q1, q2, q3, q4, d1, d2, d3, d4, d5, d6]) (fun l hl hq => by simp [hl, show ¬ (l = 0) by omega, hq.2])) (mine_put M (M.get hm hrw).1 (M.get hm hrw).2) hm aO (by simp only; omega) hn (by omega) (by simp) (by simp) (by omega) ?_ ?_ ?_
    · intro e
      have e1 : ((n : Int) == 0) = true := by simpa using e
      rw [e1] at hr
      simp only [cond_true] at hr
      subst hr
      simp -implicitDefEqProofs [-frz, h1', hv1, hv2, q1, q2, q3, q4, d1, d2, d3, d4, d5, d6]
      have O3 := ((O.excl (Nat.le_refl c1)).scal hm hrw hvp hvl (o := b.accs[m].opn) (x := b.accs[m].cash) (y := b.accs[m].loan + n) (h' := h1.put la (some ⟨5, rows.set m (rw5 (b.accs[m].opn) (b.accs[m].cash) (b.accs[m].loan + n) vp vl)⟩)) (by simp) (fun l hl hq => by simp [hl]))
      refine post_nrm rfl (post_own (Own.frame O3 (Nat.le_refl _) (fun l hl hlc => ?_)) (mine_put M (M.get hm hrw).1 (M.get hm hrw).2) _ _ _ (by have := vb.book; omega) (small_set (small_of vb) (by have := aok.lp; simp only; omega) (by have := vb.last _ (List.getElem_mem hml); simp only; omega)))
      simp [show ¬ (l = 0) by omega, show ¬ (l = 1) by omega, hl.2]
    · intro e hbad
      have e1 : ((n : Int) == 0) = false := by simpa using e
      rw [e1, hbad] at hr
      simp only [cond_true, cond_false] at hr
      subst hr
      simp -implicitDefEqProofs [-frz, h1', q1, q2, q3, q4, d1, d2, d3, d4, d5, d6]
      exact post_err _ _ _
    · intro e hbad h2 c2 v2 rows2 p0 pk hc2 O2 M2
      have e1 : ((n : Int) == 0) = false := by simpa using e
      rw [e1, hbad] at hr
      simp only [cond_false] at hr
      subst hr
      have h21 : h2 1 = some ⟨5, [noC]⟩ := by rw [pk 1 (by simp) (by omega)]; simp [q1, q2, q3, q4, d1, d2, d3, d4, d5, d6, h1']
      have hw1 := slv_cells O2.bkv
      have hw2 := slv_okc O2.bkv
      unfold AV.cells at hw1
      unfold okc at hw2
      simp -implicitDefEqProofs [-frz, p0, h21, hw1, hw2, q1, q2, q3, q4, d1, d2, d3, d4, d5, d6]
      rw [List.set_set] at O2
      have O3 := O2.frame (h' := h2.put 1 (some ⟨5, [[.sl la 5 0 12, I b.rate, I b.infl, I b.idx, v2]]⟩)) (Nat.le_refl _) (fun l hl hlc => by simp [show ¬ (l = 1) by omega])
      exact post_nrm (by simp [Bnk.nrm, List.set_set]) (post_own O3 M2 _ _ _ (by simp; omega) (small_set (small_of vb) (by have := aok.lp; simp only; omega) (by have := vb.last _ (List.getElem_mem hml); simp only; omega)))
end Go.Proofs.Ytdckleaemkcapaa.AM
