/- Texts of the proof: part B42. -/
import Derived.Test.YtdckleaemkcapaaB41
set_option maxHeartbeats 0
set_option linter.unusedSimpArgs false
set_option linter.unusedVariables false
set_option linter.unusedSectionVars false
namespace Go.Proofs.Ytdckleaemkcapaa.AM
open Go Go.Proofs
attribute [local simp] AV.cells okc AV.isBad fieldAddrA ld setCells stA skipV appendA hd makeA bnd sliceA kindA freshA killOk loadsAt newT empT lay_get allocA buildA buildRow builtinA lenA els indexAddrA isNil opA evA lit yldA binA binI unA pickA boolV intV fieldA mk flat lf lf.lfs frz
def buyP (b : Bnk) (co of k : Int) : Int × Bnk := bif trdP b co of k == 0 then (match (accAt b of).parts.findIdx? (fun p => p == -1) with
  | none => (7, noB)
  | some i => bif decide ((accAt b co).cash < partsP (accAt b of) k) then (12, noB) else bkP (setB b of { accAt b of with parts := (accAt b of).parts.set i co }) co 6 (-(partsP (accAt b of) k)))
  else (trdP b co of k, noB)
theorem trd_zero {b : Bnk} {co of k : Int} (h : trdP b co of k = 0) : chkP b [co, of] = 0 ∧ co ≠ of ∧ outP k 0 1000000000000 = false := by
  unfold trdP at h
  cases h0 : chkP b [co, of] == 0 <;> rw [h0] at h <;> simp only [cond_true, cond_false] at h
  · rw [h] at h0; cases h0
  · cases h1 : co == of <;> rw [h1] at h <;> simp only [cond_true, cond_false] at h
    · cases h2 : outP k 0 1000000000000 <;> rw [h2] at h <;> simp only [cond_true, cond_false] at h
      · exact ⟨by simpa using h0, by simpa using h1, rfl⟩
      · cases h
    · cases h
theorem rbuy_x (b : Bnk) (w : b.Wfb) (co of k : Int) : PostB (buyP b co of k).1 (buyP b co of k).2 (run Try.prog (mdT tblB) 53 [.agg (bc b), I co, I of, I k] Heap.none 0) := by
  have hk := fun v h c hv => rchk_c b w [co, of] (by simp) v h c hv
  generalize hr : buyP b co of k = r
  unfold buyP at hr
  rw [run_eq, show mdT tblB 53 = some .pure from rfl, Option.bind_some, Try.func53]
  by_cases g0 : chkP b [co, of] = 0
  case neg =>
    have g1 : (chkP b [co, of] == 0) = false := by simpa using g0
    have g2 : (chkP b [co, of] != 0) = true := by simp [bne, g1]
    have ht : trdP b co of k = chkP b [co, of] := by unfold trdP; rw [g1]; rfl
    rw [ht, g1] at hr
    simp only [cond_false] at hr
    subst hr
    simp -implicitDefEqProofs [depth, Try.f53, hk, g2]
    exact post_err _ _ _
  rw [g0] at hk
  cases g3 : (co == of)
  case true =>
    have ht : trdP b co of k = 8 := by unfold trdP; rw [g0, g3]; rfl
    rw [ht] at hr
    simp only [show ((8 : Int) == 0) = false from rfl, cond_false] at hr
    subst hr
    simp -implicitDefEqProofs [depth, Try.f53, hk, g3]
    exact post_err _ _ _
  cases g4 : outP k 0 1000000000000
  case true =>
    have ht : trdP b co of k = 1 := by unfold trdP; rw [g0, g3, g4]; rfl
    rw [ht] at hr
    simp only [show ((1 : Int) == 0) = false from rfl, cond_false] at hr
    subst hr
    simp -implicitDefEqProofs [depth, Try.f53, hk, g3, g4]
    exact post_err _ _ _
  have ht : trdP b co of k = 0 := by unfold trdP; rw [g0, g3, g4]; rfl
  rw [ht] at hr
  simp only [BEq.rfl, cond_true] at hr
  obtain ⟨vb, gg⟩ := chk_zero g0
  obtain ⟨n0, n1, hml, hop⟩ := gg co (by simp)
  obtain ⟨f0, f1, hfl, hof⟩ := gg of (by simp)
  obtain ⟨m, rfl⟩ : ∃ m : Nat, co = m := ⟨co.toNat, by omega⟩
  obtain ⟨e, rfl⟩ : ∃ e : Nat, of = e := ⟨of.toNat, by omega⟩
  simp only [Int.toNat_natCast] at hml hfl
  have hne : m ≠ e := by intro h; subst h; simp at g3
  have hm : m < 12 := by have := vb.len; omega
  have he : e < 12 := by have := vb.len; omega
  have hmi : (m : Int) < 12 := by omega
  have hei : (e : Int) < 12 := by omega
  have haa : accAt b m = b.accs[m] := by unfold accAt; simp [hml]
  have hae : accAt b e = b.accs[e] := by unfold accAt; simp [hfl]
  rw [haa, hae] at hr
  have aok := vb.accs _ (List.getElem_mem hml)
  have eok := vb.accs _ (List.getElem_mem hfl)
  have lp := eok.lp
  simp -implicitDefEqProofs [depth, Try.f53, hk, g3, g4, obm, Option.bind_assoc]
  refine scan_first (R := PostB r.1 r.2) b.accs[e].parts (fun p => p == -1) (fun j s => s.h 0 = some ⟨5, [bc b]⟩ ∧ s.h 1 = some ⟨5, [noC]⟩ ∧ s.c = 3 ∧ s.t 1 = I m ∧ s.t 2 = I e ∧ s.t 3 = I k ∧ s.t 4 = .ptr 0 0 0 ∧ s.t 8 = .ptr 1 0 0 ∧ s.t 11 = I j) _ ?_ ?_ ?_ ?_
  · simp
  · rintro j ⟨t, h, c⟩ ⟨h0, h1, hc, t1, t2, t3, t4, t8, t11⟩ hj hp
    simp only at h0 h1 hc t1 t2 t3 t4 t8 t11 hp
    have k1 : decide ((j : Int) < 4) = true := decide_eq_true (by omega)
    have ws : IntKind.i64.wrap ((j : Int) + 1) = ((j + 1 : Nat) : Int) := wrap_succ (by omega)
    have hp' : (b.accs[e].parts[j] != -1) = true := by unfold bne; rw [hp]; rfl
    simp -implicitDefEqProofs [h0, h1, hc, t1, t2, t3, t4, t8, t11, hj, hfl, k1, hp', ws, Acc.cells, -decide_eq_true_eq]
  · rintro j ⟨t, h, c⟩ ⟨h0, h1, hc, t1, t2, t3, t4, t8, t11⟩ hj hp hidx
    simp only at h0 h1 hc t1 t2 t3 t4 t8 t11 hp
    subst hc
    rw [hidx] at hr
    simp only at hr
    have k1 : decide ((j : Int) < 4) = true := decide_eq_true (by omega)
    have hp' : (b.accs[e].parts[j] != -1) = false := by unfold bne; rw [hp]; rfl
    have hpx := rpart_x b.accs[e] k
    have hps := partsP_small b.accs[e] k
    revert hpx hps hr
    generalize partsP b.accs[e] k = q
    intro hr hpx hps
    have wq : IntKind.i64.wrap (-q) = -q := wrap_id (by omega) (by omega)
    cases g5 : decide (b.accs[m].cash < q)
    case true =>
      rw [g5] at hr
      simp only [cond_true] at hr
      subst hr
      simp -implicitDefEqProofs [-frz, h0, h1, t1, t2, t3, t4, t8, t11, hj, hfl, hml, k1, hp', hpx, g5, Acc.cells, -decide_eq_true_eq, -decide_eq_false_iff_not]
      exact post_err _ _ _
    rw [g5] at hr
    simp only [cond_false] at hr
    simp -implicitDefEqProofs [-frz, h0, h1, t1, t2, t3, t4, t8, t11, hj, hfl, hml, k1, hp', hpx, g5, wq, Acc.cells, obm, Option.bind_assoc, -decide_eq_true_eq, -decide_eq_false_iff_not]
    refine copy_to (.inl rfl) b vb w _ _ _ ?_
    intro h2 c1 la v rows hc hlow O M
    have h0' : h2 0 = some ⟨5, [bc b]⟩ := by rw [hlow 0 (by omega)]; exact h0
    have h1' : h2 1 = some ⟨5, [noC]⟩ := by rw [hlow 1 (by omega)]; exact h1
    have hla := O.hla
    have hlt : e < rows.length := by rw [O.len]; exact he
    obtain ⟨a, vp, vl, ha, hrw, hvp, hvl⟩ := O.get he
    rw [List.getElem?_eq_getElem hfl] at ha
    cases ha
    have hr' : rows[e] = [B b.accs[e].opn, I b.accs[e].cash, I b.accs[e].loan, vp, vl] := by rw [List.getElem?_eq_getElem hlt] at hrw; exact Option.some.inj hrw
    obtain ⟨sp, sl⟩ := M.get he hrw
    have lge := O.sep4.1
    have lc1 := O.sep4.2
    have q1 : ¬ (la = 0) := by omega
    have q2 : ¬ (0 = la) := by omega
    have q3 : ¬ (la = 1) := by omega
    have q4 : ¬ (1 = la) := by omega
    have hv1 := slv_cells O.bkv
    have hv2 := slv_okc O.bkv
    unfold AV.cells at hv1
    unfold okc at hv2
    obtain ⟨lq, off, n, rfl⟩ : ∃ l off n, vp = .sl l 1 off n := by
      rcases sp with h | rfl | rfl
      · exact h
      · have := congrArg List.length (Option.some.inj hvp); simp [lp] at this
      · have := congrArg List.length (Option.some.inj hvp); simp [lp] at this
    obtain ⟨BB, b1, b2, b3, b4⟩ := els_sl hvp
    have b5 : n = 4 := by simpa [lp] using b4.symm
    subst b5
    have at3 := O.sep2 e 3 lq ⟨_, _, hrw, rfl, by simp⟩
    have p1 : ¬ (lq = la) := at3.1
    have p2 : ¬ (la = lq) := fun h => p1 h.symm
    have p3 : ¬ (lq = 0) := by have := at3.2.2.1; omega
    have p4 : ¬ (0 = lq) := fun h => p3 h.symm
    have p5 : ¬ (lq = 1) := by have := at3.2.2.1; omega
    have p6 : ¬ (1 = lq) := fun h => p5 h.symm
    have hbj : off + j < BB.es.length := by omega
    have hj4 : j < 4 := by omega
    have hji : (j : Int) < 4 := by omega
    have hrow : BB.es[off + j] = [I b.accs[e].parts[j]] := by
      have t := congrArg (fun l => l[j]?) b3
      simp only [List.getElem?_take, List.getElem?_drop, List.getElem?_map, if_pos hj4] at t
      rw [List.getElem?_eq_getElem hbj, List.getElem?_eq_getElem hj] at t
      exact Option.some.inj t
    simp -implicitDefEqProofs [-frz, h0', h1', t1, t2, t3, t4, t8, t11, hla, hlt, hr', he, hei, hbj, hj4, hji, hrow, b1, q1, q2, q3, q4, p1, p2, p3, p4, p5, p6, hv1, hv2, wq, obm, Option.bind_assoc]
    have hem : (b.accs.set e { b.accs[e] with parts := b.accs[e].parts.set j m })[m]? = some b.accs[m] := by rw [List.getElem?_set, if_neg (by omega)]; exact List.getElem?_eq_getElem hml
    have ham : accAt (setB b e { b.accs[e] with parts := b.accs[e].parts.set j m }) m = b.accs[m] := by
      unfold accAt setB
      simp only [Int.toNat_natCast]
      rw [hem]
      rfl
    unfold bkP at hr
    rw [ham] at hr
    simp only [setB, Int.toNat_natCast, plainB] at hr
    rw [show ((-q : Int) == 0) = false by simp; omega] at hr
    simp only [cond_false] at hr
    have hbk := vb.book
    have O' := O.part (x := (m : Int)) (h' := (h2.put 0 (some ⟨5, [[.sl la 5 0 12, I b.rate, I b.infl, I b.idx, v]]⟩)).put lq (some ⟨BB.sz, BB.es.set (off + j) [I m]⟩)) he (List.getElem?_eq_getElem hfl) hrw b1 b2 b3 hvl hj4 (by simp) (fun y hy hq hyc => by simp [hy, show ¬ (y = 0) by omega])
    refine book_to (Q := fun l => 3 ≤ l) (p := 0) (la := la) (v := v) (r := b.rate) (f := b.infl) (x := b.idx) _ _ _ (by simp [p3, p4]) (by simp) O' M hm hem aok.cash (by omega) (by omega) ?_ ?_ ?_
    · intro h; omega
    · intro _ hbad
      rw [hbad] at hr
      simp only [cond_true] at hr
      subst hr
      simp -implicitDefEqProofs [-frz, h1', t1, t2, t3, t4, t8, t11, p5, p6]
      exact post_err _ _ _
    · intro _ hbad h3 c3 v3 rows3 x0 pk hc3 O3 M3
      rw [hbad] at hr
      simp only [cond_false] at hr
      subst hr
      have h31 : h3 1 = some ⟨5, [noC]⟩ := by rw [pk 1 (by simp) (by omega)]; simp [h1', p5, p6]
      have hw1 := slv_cells O3.bkv
      have hw2 := slv_okc O3.bkv
      unfold AV.cells at hw1
      unfold okc at hw2
      simp -implicitDefEqProofs [-frz, x0, h31, t1, t2, t3, t4, t8, t11, hw1, hw2]
      have O4 := O3.frame (h' := h3.put 1 (some ⟨5, [[.sl la 5 0 12, I b.rate, I b.infl, I b.idx, v3]]⟩)) (Nat.le_refl _) (fun l hl hlc => by simp [show ¬ (l = 1) by omega])
      have sm : Small (b.accs.set e { b.accs[e] with parts := b.accs[e].parts.set j m }) := small_set (small_of vb) (by simp [lp]) (by have := vb.last _ (List.getElem_mem hfl); simp only; omega)
      exact post_nrm rfl (post_own O4 M3 _ _ _ (by simp; omega) (small_set sm (by have := aok.lp; simp only; omega) (by have := vb.last _ (List.getElem_mem hml); simp only; omega)))
  · rintro ⟨t, h, c⟩ ⟨h0, h1, hc, t1, t2, t3, t4, t8, t11⟩ hidx
    simp only at h0 h1 hc t1 t2 t3 t4 t8 t11
    rw [hidx] at hr
    simp only at hr
    subst hr
    rw [lp] at t11
    simp -implicitDefEqProofs [-frz, h0, h1, t1, t2, t3, t4, t8, t11]
    exact post_err _ _ _
end Go.Proofs.Ytdckleaemkcapaa.AM
