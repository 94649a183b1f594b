/- Texts of the proof: part B35. -/
import Derived.Test.YtdckleaemkcapaaB34
set_option maxHeartbeats 0
set_option linter.unusedSimpArgs false
set_option linter.unusedVariables false
set_option linter.unusedSectionVars false
namespace Go.Proofs.Ytdckleaemkcapaa.AM
open Go Go.Proofs
attribute [local simp] AV.cells okc AV.isBad fieldAddrA ld setCells stA skipV appendA hd makeA bnd sliceA kindA freshA killOk loadsAt newT empT lay_get allocA buildA buildRow builtinA lenA els indexAddrA isNil opA evA lit yldA binA binI unA pickA boolV intV fieldA mk flat lf lf.lfs frz
theorem ryear_x (b : Bnk) (w : b.Wfb) : PostB (yearP b).1 (yearP b).2 (run Try.prog (mdT tblB) 46 [.agg (bc b)] Heap.none 0) := by
  have hk := rval_c b w
  generalize hr : yearP b = r
  unfold yearP at hr
  rw [run_eq, show mdT tblB 46 = some .pure from rfl, Option.bind_some, Try.func46]
  by_cases g0 : valP b = 0
  case neg =>
    have g1 : (valP b == 0) = false := by simpa using g0
    have g2 : (valP b != 0) = true := by simp [bne, g1]
    rw [g1] at hr
    simp only [cond_false] at hr
    subst hr
    simp -implicitDefEqProofs [-frz, Try.f46, hk, g2]
    exact post_err _ _ _
  have vb := valid_of g0
  rw [g0] at hk hr
  simp only [BEq.rfl, cond_true] at hr
  subst hr
  have hy : (if IntKind.i64.wrap (b.idx + IntKind.i64.wrap (Int.tdiv (IntKind.i64.wrap (b.idx * b.infl)) 100)) < 262144 then IntKind.i64.wrap (b.idx + IntKind.i64.wrap (Int.tdiv (IntKind.i64.wrap (b.idx * b.infl)) 100)) else 262144) = yearI b := by unfold yearI; first | rfl | (simp only; split <;> split <;> omega)
  simp -implicitDefEqProofs [-frz, Try.f46, hk, obm, Option.bind_assoc]
  refine copy_to (.inl rfl) b vb w _ _ _ ?_
  intro h1 c1 la v rows hc hlow O M
  have h0 : h1 0 = some ⟨5, [bc b]⟩ := by rw [hlow 0 (by omega)]; simp
  have h1' : h1 1 = some ⟨5, [noC]⟩ := by rw [hlow 1 (by omega)]; simp
  have hv1 := slv_cells O.bkv
  have hv2 := slv_okc O.bkv
  unfold AV.cells at hv1
  unfold okc at hv2
  have lge := O.sep4.1
  have q1 : ¬ (la = 0) := by omega
  have q2 : ¬ (0 = la) := by omega
  have q3 : ¬ (la = 1) := by omega
  have q4 : ¬ (1 = la) := by omega
  simp -implicitDefEqProofs [-frz, h0, h1', hv1, hv2, hy, min2]
  exact post_nrm rfl (post_own (Own.frame O (Nat.le_refl _) (fun l hl hlc => by simp [show ¬ (l = 0) by omega, show ¬ (l = 1) by omega])) M _ _ _ (by have := vb.book; omega) (small_of vb))
theorem byear_x (b : Bnk) (w : b.Wfb) : PostB (yearP b).1 (yearP b).2 (run Try.prog (mdT tblB) 48 [.agg (bc b)] Heap.none 0) := by
  have hk := bval_c b w
  generalize hr : yearP b = r
  unfold yearP at hr
  rw [run_eq, show mdT tblB 48 = some .pure from rfl, Option.bind_some, Try.func48]
  by_cases g0 : valP b = 0
  case neg =>
    have g1 : (valP b == 0) = false := by simpa using g0
    have g2 : (valP b != 0) = true := by simp [bne, g1]
    rw [g1] at hr
    simp only [cond_false] at hr
    subst hr
    simp -implicitDefEqProofs [-frz, Try.f48, hk, g2]
    exact post_err _ _ _
  have vb := valid_of g0
  rw [g0] at hk hr
  simp only [BEq.rfl, cond_true] at hr
  subst hr
  have hy : (if 262144 < IntKind.i64.wrap (b.idx + IntKind.i64.wrap (Int.tdiv (IntKind.i64.wrap (b.idx * b.infl)) 100)) then 262144 else IntKind.i64.wrap (b.idx + IntKind.i64.wrap (Int.tdiv (IntKind.i64.wrap (b.idx * b.infl)) 100))) = yearI b := by unfold yearI; first | rfl | (simp only; split <;> split <;> omega)
  simp -implicitDefEqProofs [-frz, Try.f48, hk, obm, Option.bind_assoc]
  refine copy_to (.inr rfl) b vb w _ _ _ ?_
  intro h1 c1 la v rows hc hlow O M
  have h0 : h1 0 = some ⟨5, [bc b]⟩ := by rw [hlow 0 (by omega)]; simp
  have h1' : h1 1 = some ⟨5, [noC]⟩ := by rw [hlow 1 (by omega)]; simp
  have hv1 := slv_cells O.bkv
  have hv2 := slv_okc O.bkv
  unfold AV.cells at hv1
  unfold okc at hv2
  have lge := O.sep4.1
  have q1 : ¬ (la = 0) := by omega
  have q2 : ¬ (0 = la) := by omega
  have q3 : ¬ (la = 1) := by omega
  have q4 : ¬ (1 = la) := by omega
  simp -implicitDefEqProofs [-frz, h0, h1', hv1, hv2, hy, min2]
  exact post_nrm rfl (post_own (Own.frame O (Nat.le_refl _) (fun l hl hlc => by simp [show ¬ (l = 0) by omega, show ¬ (l = 1) by omega])) M _ _ _ (by have := vb.book; omega) (small_of vb))
theorem rmonth_x (b : Bnk) (w : b.Wfb) : PostB (monP b).1 (monP b).2 (run Try.prog (mdT tblB) 45 [.agg (bc b)] Heap.none 0) := by
  have hk := rval_c b w
  generalize hr : monP b = r
  unfold monP at hr
  rw [run_eq, show mdT tblB 45 = some .pure from rfl, Option.bind_some, Try.func45]
  by_cases g0 : valP b = 0
  case neg =>
    have g1 : (valP b == 0) = false := by simpa using g0
    have g2 : (valP b != 0) = true := by simp [bne, g1]
    rw [g1] at hr
    simp only [cond_false] at hr
    subst hr
    simp -implicitDefEqProofs [-frz, Try.f45, hk, g2]
    exact post_err _ _ _
  have vb := valid_of g0
  rw [g0] at hk hr
  simp only [BEq.rfl, cond_true] at hr
  simp -implicitDefEqProofs [-frz, Try.f45, hk, obm, Option.bind_assoc]
  refine copy_to (.inl rfl) b vb w _ _ _ ?_
  intro h1 c1 la v rows hc hlow O M
  have h0 : h1 0 = some ⟨5, [bc b]⟩ := by rw [hlow 0 (by omega)]; simp
  have h1' : h1 1 = some ⟨5, [noC]⟩ := by rw [hlow 1 (by omega)]; simp
  have hv1 := slv_cells O.bkv
  have hv2 := slv_okc O.bkv
  unfold AV.cells at hv1
  unfold okc at hv2
  have lge := O.sep4.1
  have q1 : ¬ (la = 0) := by omega
  have q2 : ¬ (0 = la) := by omega
  have q3 : ¬ (la = 1) := by omega
  have q4 : ¬ (1 = la) := by omega
  simp -implicitDefEqProofs [-frz, h0, h1', hv1, hv2, obm, Option.bind_assoc, q1, q2, q3, q4]
  refine count_round (R := PostB r.1 r.2) 12 (fun j s => ∃ X v rows, monN b j = some X ∧ s.t 1 = .ptr 0 0 0 ∧ s.t 2 = .ptr 1 0 0 ∧ s.t 5 = I j ∧ s.h 0 = some ⟨5, [[.sl la 5 0 12, I b.rate, I b.infl, I b.idx, v]]⟩ ∧ s.h 1 = some ⟨5, [noC]⟩ ∧ Own (fun l => 2 ≤ l) s.c s.h la v X.accs X.book rows ∧ Mine rows 12) _ ?_ ?_ ?_
  · simp -implicitDefEqProofs [h1', q1, q2, q3, q4]
    refine ⟨plainB b, rfl, rows, ?_, M⟩
    exact Own.frame O (Nat.le_refl _) (fun l hl hlc => by simp [show ¬ (l = 0) by omega])
  · rintro j ⟨t, h, c⟩ ⟨X, v, rows, hX, t1, t2, t5, k0, k1, O, M⟩ hj
    simp only at t1 t2 t5 k0 k1 O
    obtain ⟨vX, x1, x2, x3⟩ := mon_valid vb j X (by omega) hX
    have hm : j < 12 := hj
    have hmi : (j : Int) < 12 := by omega
    have k2 : decide ((j : Int) < 12) = true := decide_eq_true hmi
    have hml : j < X.accs.length := by have := vX.len; omega
    have hlt : j < rows.length := by rw [O.len]; exact hm
    have hla := O.hla
    have ws : IntKind.i64.wrap ((j : Int) + 1) = ((j + 1 : Nat) : Int) := wrap_succ (by omega)
    obtain ⟨a, vp, vl, ha, hrw, hvp, hvl⟩ := O.get hm
    rw [List.getElem?_eq_getElem hml] at ha
    cases ha
    have hr' : rows[j] = [B X.accs[j].opn, I X.accs[j].cash, I X.accs[j].loan, vp, vl] := by rw [List.getElem?_eq_getElem hlt] at hrw; exact Option.some.inj hrw
    have lge := O.sep4.1
    have lc := O.sep4.2
    have aok := vX.accs _ (List.getElem_mem hml)
    have haa : accAt X j = X.accs[j] := by unfold accAt; simp [hml]
    have hoa : opnAt X j = X.accs[j].opn := by unfold opnAt; simp [hml]
    obtain ⟨n1, n2, n3, n4⟩ := intN_small aok.loan vb.rate
    have m1 : IntKind.i64.wrap (X.accs[j].loan * b.rate) = X.accs[j].loan * b.rate := wrap_id (by omega) (by omega)
    have m2 : IntKind.i64.wrap (Int.tdiv (X.accs[j].loan * b.rate) 1200) = Int.tdiv (X.accs[j].loan * b.rate) 1200 := wrap_id (by omega) (by omega)
    have m3 : IntKind.i64.wrap (-(Int.tdiv (X.accs[j].loan * b.rate) 1200)) = intN X.accs[j].loan b.rate := wrap_id (by unfold intN at n2; omega) (by unfold intN at n2; omega)
    have nxt : monN b (j + 1) = monS j X := by show (monN b j).bind (monS j) = _; rw [hX]; rfl
    unfold monS at nxt
    rw [hoa, haa, x1] at nxt
    cases go : X.accs[j].opn
    · rw [go] at nxt
      simp only [cond_false] at nxt
      simp -implicitDefEqProofs [-frz, t1, t2, t5, k0, k1, k2, hm, hmi, hlt, hla, hr', ws, q1, q2, q3, q4, go, -decide_eq_true_eq]
      exact ⟨X, nxt, rows, O, M⟩
    · rw [go] at nxt
      simp only [cond_true] at nxt
      simp -implicitDefEqProofs [-frz, t1, t2, t5, k0, k1, k2, hm, hmi, hlt, hla, hr', ws, q1, q2, q3, q4, go, m1, m2, m3, obm, Option.bind_assoc, -decide_eq_true_eq]
      have ha : X.accs[j]? = some X.accs[j] := List.getElem?_eq_getElem hml
      unfold bkP at nxt
      rw [haa] at nxt
      refine book_to (Q := fun l => 2 ≤ l) (p := 0) (la := la) (v := v) (r := b.rate) (f := b.infl) (x := b.idx) _ _ _ (by simp [k0, q1, q2, q3, q4]) (by simp) O M hm ha aok.cash n2 (by have := vX.book; omega) ?_ ?_ ?_
      · intro e
        have e9 : (intN X.accs[j].loan b.rate == 0) = true := by simpa using e
        rw [e9] at nxt
        simp only [cond_true, BEq.rfl] at nxt
        simp -implicitDefEqProofs [-frz, t1, t2, t5, k0, k1, k2, hm, hmi, hlt, hla, hr', ws, q1, q2, q3, q4, go, -decide_eq_true_eq]
        exact ⟨_, nxt, rows, O, M⟩
      · intro e hbad
        have e9 : (intN X.accs[j].loan b.rate == 0) = false := by simpa using e
        rw [e9, hbad] at nxt
        simp only [cond_false, cond_true, show ((10 : Int) == 0) = false from rfl] at nxt
        rw [monN_none b nxt 12 (by omega)] at hr
        simp only at hr
        subst hr
        simp -implicitDefEqProofs [-frz, t1, t2, t5, k0, k1, k2, hm, hmi, hlt, hla, hr', ws, q1, q2, q3, q4, go, -decide_eq_true_eq]
        exact post_err _ _ _
      · intro e hbad h2 c2 v2 rows2 p0 pk hc2 O2 M2
        have e9 : (intN X.accs[j].loan b.rate == 0) = false := by simpa using e
        rw [e9, hbad] at nxt
        simp only [cond_false, BEq.rfl, cond_true] at nxt
        simp -implicitDefEqProofs [-frz, t1, t2, t5, k0, k1, k2, hm, hmi, hlt, hla, hr', ws, q1, q2, q3, q4, go, -decide_eq_true_eq]
        exact ⟨_, nxt, v2, p0, by rw [pk 1 (by simp) (by omega)]; exact k1, rows2, O2, M2⟩
  · rintro ⟨t, h, c⟩ ⟨X, v, rows, hX, t1, t2, t5, k0, k1, O, M⟩
    simp only at t1 t2 t5 k0 k1 O
    obtain ⟨vX, x1, x2, x3⟩ := mon_valid vb 12 X (by omega) hX
    have hv1 := slv_cells O.bkv
    have hv2 := slv_okc O.bkv
    unfold AV.cells at hv1
    unfold okc at hv2
    rw [hX] at hr
    simp only at hr
    subst hr
    simp -implicitDefEqProofs [-frz, t1, t2, t5, k0, k1, hv1, hv2]
    have O3 := Own.frame O (h' := h.put 1 (some ⟨5, [[.sl la 5 0 12, I b.rate, I b.infl, I b.idx, v]]⟩)) (Nat.le_refl _) (fun l hl hlc => by simp [show ¬ (l = 1) by omega])
    exact post_nrm (by unfold Bnk.nrm; simp only; rw [x1, x2, x3]) (post_own O3 M _ _ _ (by have := vX.book; omega) (small_of vX))
theorem bmonth_x (b : Bnk) (w : b.Wfb) : PostB (monP b).1 (monP b).2 (run Try.prog (mdT tblB) 47 [.agg (bc b)] Heap.none 0) := by
  have hk := bval_c b w
  generalize hr : monP b = r
  unfold monP at hr
  rw [run_eq, show mdT tblB 47 = some .pure from rfl, Option.bind_some, Try.func47]
  by_cases g0 : valP b = 0
  case neg =>
    have g1 : (valP b == 0) = false := by simpa using g0
    have g2 : (valP b != 0) = true := by simp [bne, g1]
    rw [g1] at hr
    simp only [cond_false] at hr
    subst hr
    simp -implicitDefEqProofs [-frz, Try.f47, hk, g2]
    exact post_err _ _ _
  have vb := valid_of g0
  rw [g0] at hk hr
  simp only [BEq.rfl, cond_true] at hr
  simp -implicitDefEqProofs [-frz, Try.f47, hk, obm, Option.bind_assoc]
  refine copy_to (.inr rfl) b vb w _ _ _ ?_
  intro h1 c1 la v rows hc hlow O M
  have h0 : h1 0 = some ⟨5, [bc b]⟩ := by rw [hlow 0 (by omega)]; simp
  have h1' : h1 1 = some ⟨5, [noC]⟩ := by rw [hlow 1 (by omega)]; simp
  have hv1 := slv_cells O.bkv
  have hv2 := slv_okc O.bkv
  unfold AV.cells at hv1
  unfold okc at hv2
  have lge := O.sep4.1
  have q1 : ¬ (la = 0) := by omega
  have q2 : ¬ (0 = la) := by omega
  have q3 : ¬ (la = 1) := by omega
  have q4 : ¬ (1 = la) := by omega
  have lc1 := O.sep4.2
  have d1 : ¬ (c1 = 0) := by omega
  have d2 : ¬ (0 = c1) := by omega
  have d3 : ¬ (c1 = 1) := by omega
  have d4 : ¬ (1 = c1) := by omega
  have d5 : ¬ (c1 = la) := by omega
  have d6 : ¬ (la = c1) := by omega
  simp -implicitDefEqProofs [-frz, h0, h1', hv1, hv2, booking_c, obm, Option.bind_assoc, q1, q2, q3, q4, d1, d2, d3, d4, d5, d6]
  refine count_round (R := PostB r.1 r.2) 12 (fun j s => ∃ X v rows, monN b j = some X ∧ s.t 1 = .ptr 0 0 0 ∧ s.t 2 = .ptr 1 0 0 ∧ s.t 5 = .fn 91 [.ptr c1 0 0] ∧ s.t 19 = .sl la 5 0 12 ∧ s.t 20 = I 12 ∧ s.t 21 = I j ∧ s.h c1 = some ⟨1, [[.ptr 0 0 0]]⟩ ∧ s.h 0 = some ⟨5, [[.sl la 5 0 12, I b.rate, I b.infl, I b.idx, v]]⟩ ∧ s.h 1 = some ⟨5, [noC]⟩ ∧ Own (fun l => 2 ≤ l ∧ l ≠ c1) s.c s.h la v X.accs X.book rows ∧ Mine rows 12) _ ?_ ?_ ?_
  · simp -implicitDefEqProofs [h1', q1, q2, q3, q4, d1, d2, d3, d4, d5, d6]
    refine ⟨plainB b, rfl, rows, ?_, M⟩
    exact Own.frame (O.excl (Nat.le_refl c1)) (Nat.le_refl _) (fun l hl hlc => by simp [show ¬ (l = 0) by omega, hl.2])
  · rintro j ⟨t, h, c⟩ ⟨X, v, rows, hX, t1, t2, t5, t19, t20, t21, hd0, k0, k1, O, M⟩ hj
    simp only at t1 t2 t5 t19 t20 t21 hd0 k0 k1 O
    obtain ⟨vX, x1, x2, x3⟩ := mon_valid vb j X (by omega) hX
    have hm : j < 12 := hj
    have hmi : (j : Int) < 12 := by omega
    have k2 : decide ((j : Int) < 12) = true := decide_eq_true hmi
    have hml : j < X.accs.length := by have := vX.len; omega
    have hlt : j < rows.length := by rw [O.len]; exact hm
    have hla := O.hla
    have ws : IntKind.i64.wrap ((j : Int) + 1) = ((j + 1 : Nat) : Int) := wrap_succ (by omega)
    obtain ⟨a, vp, vl, ha, hrw, hvp, hvl⟩ := O.get hm
    rw [List.getElem?_eq_getElem hml] at ha
    cases ha
    have hr' : rows[j] = [B X.accs[j].opn, I X.accs[j].cash, I X.accs[j].loan, vp, vl] := by rw [List.getElem?_eq_getElem hlt] at hrw; exact Option.some.inj hrw
    have lge := O.sep4.1
    have lc := O.sep4.2
    have aok := vX.accs _ (List.getElem_mem hml)
    have haa : accAt X j = X.accs[j] := by unfold accAt; simp [hml]
    have hoa : opnAt X j = X.accs[j].opn := by unfold opnAt; simp [hml]
    obtain ⟨n1, n2, n3, n4⟩ := intN_small aok.loan vb.rate
    have m1 : IntKind.i64.wrap (X.accs[j].loan * b.rate) = X.accs[j].loan * b.rate := wrap_id (by omega) (by omega)
    have m2 : IntKind.i64.wrap (Int.tdiv (X.accs[j].loan * b.rate) 1200) = Int.tdiv (X.accs[j].loan * b.rate) 1200 := wrap_id (by omega) (by omega)
    have m3 : IntKind.i64.wrap (-(Int.tdiv (X.accs[j].loan * b.rate) 1200)) = intN X.accs[j].loan b.rate := wrap_id (by unfold intN at n2; omega) (by unfold intN at n2; omega)
    have nxt : monN b (j + 1) = monS j X := by show (monN b j).bind (monS j) = _; rw [hX]; rfl
    unfold monS at nxt
    rw [hoa, haa, x1] at nxt
    have sp := M.get hm hrw
    have hp1 := slv_okc sp.1
    have hp2 := slv_okc sp.2
    unfold okc at hp1 hp2
    have e1 : ¬ (c = 0) := by omega
    have e2 : ¬ (0 = c) := by omega
    have e3 : ¬ (c = 1) := by omega
    have e4 : ¬ (1 = c) := by omega
    have e5 : ¬ (c = la) := by omega
    have e6 : ¬ (la = c) := by omega
    have lcd : c1 < c := by
      apply Classical.byContradiction
      intro hn
      exact (O.fr c1 (by omega)).2 rfl
    have e7 : ¬ (c = c1) := by omega
    have e8 : ¬ (c1 = c) := by omega
    have O' := fun z : Bool => O.frame (h' := (h.put c (some ⟨5, [[.val (.bool false), .val (.int .i64 0), .val (.int .i64 0), .ro true [], .ro true []]]⟩)).put c (some ⟨5, [[B z, I X.accs[j].cash, I X.accs[j].loan, vp, vl]]⟩)) (c' := c + 1) (by omega) (fun l hl hlc => by simp [show ¬ (l = c) by omega])
    cases go : X.accs[j].opn
    · rw [go] at nxt
      simp only [cond_false] at nxt
      simp -implicitDefEqProofs [-frz, t1, t2, t5, t19, t20, t21, hd0, k0, k1, k2, hm, hmi, hlt, hla, hr', ws, e1, e2, e3, e4, e5, e6, e7, e8, hp1, hp2, q1, q2, q3, q4, d1, d2, d3, d4, d5, d6, go, -decide_eq_true_eq]
      exact ⟨X, nxt, rows, O' false, M⟩
    · rw [go] at nxt
      simp only [cond_true] at nxt
      simp -implicitDefEqProofs [-frz, t1, t2, t5, t19, t20, t21, hd0, k0, k1, k2, hm, hmi, hlt, hla, hr', ws, e1, e2, e3, e4, e5, e6, e7, e8, hp1, hp2, q1, q2, q3, q4, d1, d2, d3, d4, d5, d6, go, m1, m2, m3, obm, Option.bind_assoc, -decide_eq_true_eq]
      have ha : X.accs[j]? = some X.accs[j] := List.getElem?_eq_getElem hml
      unfold bkP at nxt
      rw [haa] at nxt
      refine book91_to (Q := fun l => 2 ≤ l ∧ l ≠ c1) (d := c1) (p := 0) (la := la) (v := v) (r := b.rate) (f := b.infl) (x := b.idx) _ _ _ (by simp [k0, e1, e2, q1, q2, q3, q4, d1, d2, d3, d4, d5, d6]) (by simp) (O' true) M hm ha aok.cash n2 (by have := vX.book; omega) (by simp [hd0, e7, e8]) (by simp) (by omega) ?_ ?_ ?_
      · intro e
        have e9 : (intN X.accs[j].loan b.rate == 0) = true := by simpa using e
        rw [e9] at nxt
        simp only [cond_true, BEq.rfl] at nxt
        simp -implicitDefEqProofs [-frz, t1, t2, t5, t19, t20, t21, hd0, k0, k1, k2, hm, hmi, hlt, hla, hr', ws, e1, e2, e3, e4, e5, e6, e7, e8, hp1, hp2, q1, q2, q3, q4, d1, d2, d3, d4, d5, d6, go, -decide_eq_true_eq]
        exact ⟨_, nxt, rows, O' true, M⟩
      · intro e hbad
        have e9 : (intN X.accs[j].loan b.rate == 0) = false := by simpa using e
        rw [e9, hbad] at nxt
        simp only [cond_false, cond_true, show ((10 : Int) == 0) = false from rfl] at nxt
        rw [monN_none b nxt 12 (by omega)] at hr
        simp only at hr
        subst hr
        simp -implicitDefEqProofs [-frz, t1, t2, t5, t19, t20, t21, hd0, k0, k1, k2, hm, hmi, hlt, hla, hr', ws, e1, e2, e3, e4, e5, e6, e7, e8, hp1, hp2, q1, q2, q3, q4, d1, d2, d3, d4, d5, d6, go, -decide_eq_true_eq]
        exact post_err _ _ _
      · intro e hbad h2 c2 v2 rows2 p0 pk hc2 O2 M2
        have e9 : (intN X.accs[j].loan b.rate == 0) = false := by simpa using e
        rw [e9, hbad] at nxt
        simp only [cond_false, BEq.rfl, cond_true] at nxt
        simp -implicitDefEqProofs [-frz, t1, t2, t5, t19, t20, t21, hd0, k0, k1, k2, hm, hmi, hlt, hla, hr', ws, e1, e2, e3, e4, e5, e6, e7, e8, hp1, hp2, q1, q2, q3, q4, d1, d2, d3, d4, d5, d6, go, -decide_eq_true_eq]
        exact ⟨_, nxt, by rw [pk c1 (by simp) (by omega)]; simp [hd0, e7, e8], v2, p0, by rw [pk 1 (by simp) (by omega)]; simp [k1, e3, e4], rows2, O2, M2⟩
  · rintro ⟨t, h, c⟩ ⟨X, v, rows, hX, t1, t2, t5, t19, t20, t21, hd0, k0, k1, O, M⟩
    simp only at t1 t2 t5 t19 t20 t21 hd0 k0 k1 O
    obtain ⟨vX, x1, x2, x3⟩ := mon_valid vb 12 X (by omega) hX
    have hv1 := slv_cells O.bkv
    have hv2 := slv_okc O.bkv
    unfold AV.cells at hv1
    unfold okc at hv2
    rw [hX] at hr
    simp only at hr
    subst hr
    simp -implicitDefEqProofs [-frz, t1, t2, t5, t19, t20, t21, hd0, k0, k1, hv1, hv2]
    have O3 := Own.frame O (h' := h.put 1 (some ⟨5, [[.sl la 5 0 12, I b.rate, I b.infl, I b.idx, v]]⟩)) (Nat.le_refl _) (fun l hl hlc => by simp [show ¬ (l = 1) by omega])
    exact post_nrm (by unfold Bnk.nrm; simp only; rw [x1, x2, x3]) (post_own O3 M _ _ _ (by have := vX.book; omega) (small_of vX))
end Go.Proofs.Ytdckleaemkcapaa.AM
