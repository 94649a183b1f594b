/- Texts of the proof: part B50. -/
import Derived.Test.YtdckleaemkcapaaB49
set_option maxHeartbeats 0
set_option linter.unusedSimpArgs false
set_option linter.unusedVariables false
set_option linter.unusedSectionVars false
namespace Go.Proofs.Ytdckleaemkcapaa.AM
open Go Go.Proofs
attribute [local simp] AV.cells okc AV.isBad fieldAddrA ld setCells stA skipV appendA hd makeA bnd sliceA kindA freshA killOk loadsAt newT empT lay_get allocA buildA buildRow builtinA lenA els indexAddrA isNil opA evA lit yldA binA binI unA pickA boolV intV fieldA mk flat lf lf.lfs frz
def shutB (m : Nat) (X : Bnk) : Bnk := ⟨false, shutL m X.accs, X.rate, X.infl, X.idx, false, X.book⟩
def windP (b : Bnk) (co : Int) : Int × Bnk := bif chkP b [co] == 0 then bif (bkP b co 9 (-(accAt b co).cash)).1 == 0 then (0, shutB co.toNat (bkP b co 9 (-(accAt b co).cash)).2) else (10, noB) else (chkP b [co], noB)
theorem shutL_small {m : Nat} {X : List Acc} (h : Small X) : Small (shutL m X) := shN_small m (small_set h (by simp [shutA]) (by simp [shutA])) 12
theorem rwind_x (b : Bnk) (w : b.Wfb) (co : Int) : PostB (windP b co).1 (windP b co).2 (run Try.prog (mdT tblB) 50 [.agg (bc b), I co] Heap.none 0) := by
  have hk := fun v h c hv => rchk_c b w [co] (by simp) v h c hv
  generalize hr : windP b co = r
  unfold windP at hr
  rw [run_eq, show mdT tblB 50 = some .pure from rfl, Option.bind_some, Try.func50]
  by_cases g0 : chkP b [co] = 0
  case neg =>
    have g1 : (chkP b [co] == 0) = false := by simpa using g0
    have g2 : (chkP b [co] != 0) = true := by simp [bne, g1]
    rw [g1] at hr
    simp only [cond_false] at hr
    subst hr
    simp -implicitDefEqProofs [depth, Try.f50, hk, g2]
    exact post_err _ _ _
  rw [g0] at hk
  obtain ⟨vb, gg⟩ := chk_zero g0
  obtain ⟨n0, n1, hml, hop⟩ := gg co (by simp)
  rw [g0] at hr
  simp only [BEq.rfl, cond_true] at hr
  obtain ⟨m, rfl⟩ : ∃ m : Nat, co = m := ⟨co.toNat, by omega⟩
  simp only [Int.toNat_natCast] at hml hr
  have hm : m < 12 := by have := vb.len; omega
  have hmi : (m : Int) < 12 := by omega
  have haa : accAt b m = b.accs[m] := by unfold accAt; simp [hml]
  have aok := vb.accs _ (List.getElem_mem hml)
  have acash := aok.cash
  have l4 : ∀ a ∈ b.accs, a.parts.length = 4 := fun a ha => (vb.accs a ha).lp
  have wn : IntKind.i64.wrap (-b.accs[m].cash) = -b.accs[m].cash := wrap_id (by omega) (by omega)
  unfold bkP at hr
  rw [haa] at hr
  simp -implicitDefEqProofs [depth, Try.f50, hk, obm, Option.bind_assoc]
  refine copy_to (.inl rfl) b vb w _ _ _ ?_
  intro h1 c1 la v rows hc hlow O M
  have h0 : h1 0 = some ⟨5, [bc b]⟩ := by rw [hlow 0 (by omega)]; simp
  have h1' : h1 1 = some ⟨5, [noC]⟩ := by rw [hlow 1 (by omega)]; simp
  have hla := O.hla
  have hlt : m < rows.length := by rw [O.len]; exact hm
  obtain ⟨a, vp, vl, ha, hrw, hvp, hvl⟩ := O.get hm
  rw [List.getElem?_eq_getElem hml] at ha
  cases ha
  have hr' : rows[m] = [B b.accs[m].opn, I b.accs[m].cash, I b.accs[m].loan, vp, vl] := by rw [List.getElem?_eq_getElem hlt] at hrw; exact Option.some.inj hrw
  have lge := O.sep4.1
  have lc1 := O.sep4.2
  have q1 : ¬ (la = 0) := by omega
  have q2 : ¬ (0 = la) := by omega
  have q3 : ¬ (la = 1) := by omega
  have q4 : ¬ (1 = la) := by omega
  have hv1 := slv_cells O.bkv
  have hv2 := slv_okc O.bkv
  unfold AV.cells at hv1
  unfold okc at hv2
  simp -implicitDefEqProofs [-frz, h0, h1', hla, hlt, hr', hm, hmi, wn, q1, q2, q3, q4, hv1, hv2, obm, Option.bind_assoc]
  have hbk := vb.book
  have ham : b.accs[m]? = some b.accs[m] := List.getElem?_eq_getElem hml
  refine book_to (Q := fun l => 3 ≤ l) (p := 0) (la := la) (v := v) (r := b.rate) (f := b.infl) (x := b.idx) _ _ _ (by simp [q1, q2, q3, q4]) (by simp) (O.frame (Nat.le_refl _) (fun l hl hlc => by simp [show ¬ (l = 0) by omega, lay_get])) M hm ham acash (by omega) (by omega) ?_ ?_ ?_
  · intro e
    have e1 : ((-b.accs[m].cash : Int) == 0) = true := by simpa using e
    rw [e1] at hr
    simp only [cond_true, BEq.rfl] at hr
    subst hr
    simp -implicitDefEqProofs [-frz, q1, q2, q3, q4, hv1, hv2, obm, Option.bind_assoc]
    refine rshut_to _ _ _ (p := 0) (la := la) (r := b.rate) (f := b.infl) (x := b.idx) (by simp [q1, q2, q3, q4]) (by simp) (O.frame (Nat.le_refl _) (fun l hl hlc => by simp [show ¬ (l = 0) by omega, lay_get])) M hm l4 ?_
    intro h3 c3 rows3 hf3 hc3 O3 M3
    have h30 : h3 0 = some ⟨5, [[.sl la 5 0 12, I b.rate, I b.infl, I b.idx, v]]⟩ := by rw [hf3 0 (by simp)]; simp [q1, q2, q3, q4]
    have h31 : h3 1 = some ⟨5, [noC]⟩ := by rw [hf3 1 (by simp)]; simp [q1, q2, q3, q4, h1']
    simp -implicitDefEqProofs [-frz, h30, h31, hv1, hv2]
    have O4 := O3.frame (h' := h3.put 1 (some ⟨5, [[.sl la 5 0 12, I b.rate, I b.infl, I b.idx, v]]⟩)) (Nat.le_refl _) (fun l hl hlc => by simp [show ¬ (l = 1) by omega])
    exact post_nrm rfl (post_ownW O4 M3 _ _ _ (by have := vb.book; omega) (shutL_small (small_of vb)))
  · intro e hbad
    have e1 : ((-b.accs[m].cash : Int) == 0) = false := by simpa using e
    rw [e1, hbad] at hr
    simp only [cond_true, cond_false, show ((10 : Int) == 0) = false from rfl] at hr
    subst hr
    simp -implicitDefEqProofs [-frz, h1', q1, q2, q3, q4]
    exact post_err _ _ _
  · intro e hbad h2 c2 v2 rows2 p0 pk hc2 O2 M2
    have e1 : ((-b.accs[m].cash : Int) == 0) = false := by simpa using e
    rw [e1, hbad] at hr
    simp only [cond_false, BEq.rfl, cond_true] at hr
    subst hr
    have h21 : h2 1 = some ⟨5, [noC]⟩ := by rw [pk 1 (by simp) (by omega)]; simp [q1, q2, q3, q4, h1']
    have hw1 := slv_cells O2.bkv
    have hw2 := slv_okc O2.bkv
    unfold AV.cells at hw1
    unfold okc at hw2
    simp -implicitDefEqProofs [-frz, p0, h21, hw1, hw2, q1, q2, q3, q4, obm, Option.bind_assoc]
    refine rshut_to _ _ _ (p := 0) (la := la) (r := b.rate) (f := b.infl) (x := b.idx) p0 (by simp) O2 M2 hm (fun a ha => by rcases List.mem_or_eq_of_mem_set ha with ha | rfl; exact l4 a ha; exact aok.lp) ?_
    intro h3 c3 rows3 hf3 hc3 O3 M3
    have h30 : h3 0 = some ⟨5, [[.sl la 5 0 12, I b.rate, I b.infl, I b.idx, v2]]⟩ := by rw [hf3 0 (by simp)]; exact p0
    have h31 : h3 1 = some ⟨5, [noC]⟩ := by rw [hf3 1 (by simp)]; exact h21
    simp -implicitDefEqProofs [-frz, h30, h31, hw1, hw2]
    have O4 := O3.frame (h' := h3.put 1 (some ⟨5, [[.sl la 5 0 12, I b.rate, I b.infl, I b.idx, v2]]⟩)) (Nat.le_refl _) (fun l hl hlc => by simp [show ¬ (l = 1) by omega])
    exact post_nrm rfl (post_ownW O4 M3 _ _ _ (by have := bookBad_false hbad; simp; omega) (shutL_small (small_set (small_of vb) (by have := aok.lp; simp only; omega) (by have := vb.last _ (List.getElem_mem hml); simp only; omega))))
theorem bwind_x (b : Bnk) (w : b.Wfb) (co : Int) : PostB (windP b co).1 (windP b co).2 (run Try.prog (mdT tblB) 52 [.agg (bc b), I co] Heap.none 0) := by
  have hk := fun v h c hv => bchk_c b w [co] (by simp) v h c hv
  generalize hr : windP b co = r
  unfold windP at hr
  rw [run_eq, show mdT tblB 52 = some .pure from rfl, Option.bind_some, Try.func52]
  by_cases g0 : chkP b [co] = 0
  case neg =>
    have g1 : (chkP b [co] == 0) = false := by simpa using g0
    have g2 : (chkP b [co] != 0) = true := by simp [bne, g1]
    rw [g1] at hr
    simp only [cond_false] at hr
    subst hr
    simp -implicitDefEqProofs [depth, Try.f52, hk, g2]
    exact post_err _ _ _
  rw [g0] at hk
  obtain ⟨vb, gg⟩ := chk_zero g0
  obtain ⟨n0, n1, hml, hop⟩ := gg co (by simp)
  rw [g0] at hr
  simp only [BEq.rfl, cond_true] at hr
  obtain ⟨m, rfl⟩ : ∃ m : Nat, co = m := ⟨co.toNat, by omega⟩
  simp only [Int.toNat_natCast] at hml hr
  have hm : m < 12 := by have := vb.len; omega
  have hmi : (m : Int) < 12 := by omega
  have haa : accAt b m = b.accs[m] := by unfold accAt; simp [hml]
  have aok := vb.accs _ (List.getElem_mem hml)
  have acash := aok.cash
  have l4 : ∀ a ∈ b.accs, a.parts.length = 4 := fun a ha => (vb.accs a ha).lp
  have wn : IntKind.i64.wrap (-b.accs[m].cash) = -b.accs[m].cash := wrap_id (by omega) (by omega)
  unfold bkP at hr
  rw [haa] at hr
  simp -implicitDefEqProofs [depth, Try.f52, hk, obm, Option.bind_assoc]
  refine copy_to (.inr rfl) b vb w _ _ _ ?_
  intro h1 c1 la v rows hc hlow O M
  have h0 : h1 0 = some ⟨5, [bc b]⟩ := by rw [hlow 0 (by omega)]; simp
  have h1' : h1 1 = some ⟨5, [noC]⟩ := by rw [hlow 1 (by omega)]; simp
  have hla := O.hla
  have hlt : m < rows.length := by rw [O.len]; exact hm
  obtain ⟨a, vp, vl, ha, hrw, hvp, hvl⟩ := O.get hm
  rw [List.getElem?_eq_getElem hml] at ha
  cases ha
  have hr' : rows[m] = [B b.accs[m].opn, I b.accs[m].cash, I b.accs[m].loan, vp, vl] := by rw [List.getElem?_eq_getElem hlt] at hrw; exact Option.some.inj hrw
  have lge := O.sep4.1
  have lc1 := O.sep4.2
  have q1 : ¬ (la = 0) := by omega
  have q2 : ¬ (0 = la) := by omega
  have q3 : ¬ (la = 1) := by omega
  have q4 : ¬ (1 = la) := by omega
  have d1 : ¬ (c1 = 0) := by omega
  have d2 : ¬ (0 = c1) := by omega
  have d3 : ¬ (c1 = 1) := by omega
  have d4 : ¬ (1 = c1) := by omega
  have d5 : ¬ (c1 = la) := by omega
  have d6 : ¬ (la = c1) := by omega
  have d7 : ¬ (c1 ≤ la) := by omega
  have d8 : ¬ (c1 ≤ 0) := by omega
  have d9 : ¬ (c1 ≤ 1) := by omega
  have hv1 := slv_cells O.bkv
  have hv2 := slv_okc O.bkv
  unfold AV.cells at hv1
  unfold okc at hv2
  simp -implicitDefEqProofs [-frz, h0, h1', hla, hlt, hr', hm, hmi, wn, q1, q2, q3, q4, d1, d2, d3, d4, d5, d6, d7, d8, d9, booking_c, hv1, hv2, obm, Option.bind_assoc]
  have hbk := vb.book
  have ham : b.accs[m]? = some b.accs[m] := List.getElem?_eq_getElem hml
  refine book91_to (Q := fun l => 3 ≤ l ∧ l ≠ c1) (d := c1) (p := 0) (la := la) (v := v) (r := b.rate) (f := b.infl) (x := b.idx) _ _ _ (by simp [q1, q2, q3, q4, d1, d2, d3, d4, d5, d6, d7, d8, d9]) (by simp) ((O.excl (Nat.le_refl c1)).frame (Nat.le_refl _) (fun l hl hlc => by simp [show ¬ (l = 0) by omega, hl.2, lay_get])) M hm ham acash (by omega) (by omega) (by simp [d1, d2]) (by simp) (by omega) ?_ ?_ ?_
  · intro e
    have e1 : ((-b.accs[m].cash : Int) == 0) = true := by simpa using e
    rw [e1] at hr
    simp only [cond_true, BEq.rfl] at hr
    subst hr
    simp -implicitDefEqProofs [-frz, q1, q2, q3, q4, d1, d2, d3, d4, d5, d6, d7, d8, d9, hv1, hv2, obm, Option.bind_assoc]
    refine bshut_to _ _ _ ((O.excl (Nat.le_refl c1)).frame (Nat.le_refl _) (fun l hl hlc => by simp [show ¬ (l = 0) by omega, hl.2, lay_get])) M hm l4 ?_
    intro h3 c3 rows3 hf3 hc3 O3 M3
    have h30 : h3 0 = some ⟨5, [[.sl la 5 0 12, I b.rate, I b.infl, I b.idx, v]]⟩ := by rw [hf3 0 (by simp)]; simp [q1, q2, q3, q4, d1, d2, d3, d4, d5, d6, d7, d8, d9]
    have h31 : h3 1 = some ⟨5, [noC]⟩ := by rw [hf3 1 (by simp)]; simp [q1, q2, q3, q4, d1, d2, d3, d4, d5, d6, d7, d8, d9, h1']
    simp -implicitDefEqProofs [-frz, h30, h31, hv1, hv2]
    have O4 := O3.frame (h' := h3.put 1 (some ⟨5, [[.sl la 5 0 12, I b.rate, I b.infl, I b.idx, v]]⟩)) (Nat.le_refl _) (fun l hl hlc => by simp [show ¬ (l = 1) by omega])
    exact post_nrm rfl (post_ownW O4 M3 _ _ _ (by have := vb.book; omega) (shutL_small (small_of vb)))
  · intro e hbad
    have e1 : ((-b.accs[m].cash : Int) == 0) = false := by simpa using e
    rw [e1, hbad] at hr
    simp only [cond_true, cond_false, show ((10 : Int) == 0) = false from rfl] at hr
    subst hr
    simp -implicitDefEqProofs [-frz, h1', q1, q2, q3, q4, d1, d2, d3, d4, d5, d6, d7, d8, d9]
    exact post_err _ _ _
  · intro e hbad h2 c2 v2 rows2 p0 pk hc2 O2 M2
    have e1 : ((-b.accs[m].cash : Int) == 0) = false := by simpa using e
    rw [e1, hbad] at hr
    simp only [cond_false, BEq.rfl, cond_true] at hr
    subst hr
    have h21 : h2 1 = some ⟨5, [noC]⟩ := by rw [pk 1 (by simp) (by omega)]; simp [q1, q2, q3, q4, d1, d2, d3, d4, d5, d6, d7, d8, d9, h1']
    have hw1 := slv_cells O2.bkv
    have hw2 := slv_okc O2.bkv
    unfold AV.cells at hw1
    unfold okc at hw2
    simp -implicitDefEqProofs [-frz, p0, h21, hw1, hw2, q1, q2, q3, q4, d1, d2, d3, d4, d5, d6, d7, d8, d9, obm, Option.bind_assoc]
    refine bshut_to _ _ _ O2 M2 hm (fun a ha => by rcases List.mem_or_eq_of_mem_set ha with ha | rfl; exact l4 a ha; exact aok.lp) ?_
    intro h3 c3 rows3 hf3 hc3 O3 M3
    have h30 : h3 0 = some ⟨5, [[.sl la 5 0 12, I b.rate, I b.infl, I b.idx, v2]]⟩ := by rw [hf3 0 (by simp)]; exact p0
    have h31 : h3 1 = some ⟨5, [noC]⟩ := by rw [hf3 1 (by simp)]; exact h21
    simp -implicitDefEqProofs [-frz, h30, h31, hw1, hw2]
    have O4 := O3.frame (h' := h3.put 1 (some ⟨5, [[.sl la 5 0 12, I b.rate, I b.infl, I b.idx, v2]]⟩)) (Nat.le_refl _) (fun l hl hlc => by simp [show ¬ (l = 1) by omega])
    exact post_nrm rfl (post_ownW O4 M3 _ _ _ (by have := bookBad_false hbad; simp; omega) (shutL_small (small_set (small_of vb) (by have := aok.lp; simp only; omega) (by have := vb.last _ (List.getElem_mem hml); simp only; omega))))
end Go.Proofs.Ytdckleaemkcapaa.AM
