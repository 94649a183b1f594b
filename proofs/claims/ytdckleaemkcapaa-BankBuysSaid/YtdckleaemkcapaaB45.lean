/- Texts of the proof: part B45. -/
import Derived.Test.YtdckleaemkcapaaB44
set_option maxHeartbeats 0
set_option linter.unusedSimpArgs false
set_option linter.unusedVariables false
set_option linter.unusedSectionVars false
namespace Go.Proofs.Ytdckleaemkcapaa.AM
open Go Go.Proofs
attribute [local simp] AV.cells okc AV.isBad fieldAddrA ld setCells stA skipV appendA hd makeA bnd sliceA kindA freshA killOk loadsAt newT empT lay_get allocA buildA buildRow builtinA lenA els indexAddrA isNil opA evA lit yldA binA binI unA pickA boolV intV fieldA mk flat lf lf.lfs frz
theorem bsell_x (b : Bnk) (w : b.Wfb) (co of k : Int) : PostB (sellP b co of k).1 (sellP b co of k).2 (run Try.prog (mdT tblB) 56 [.agg (bc b), I co, I of, I k] Heap.none 0) := by
  have hk := trade_c b w co of k
  generalize hr : sellP b co of k = r
  unfold sellP at hr
  rw [run_eq, show mdT tblB 56 = some .pure from rfl, Option.bind_some, Try.func56]
  by_cases g0 : trdP b co of k = 0
  case neg =>
    have g1 : (trdP b co of k == 0) = false := by simpa using g0
    have g2 : (trdP b co of k != 0) = true := by simp [bne, g1]
    rw [g1] at hr
    simp only [cond_false] at hr
    subst hr
    simp -implicitDefEqProofs [-frz, Try.f56, hk, g2]
    exact post_err _ _ _
  rw [g0] at hk hr
  simp only [BEq.rfl, cond_true] at hr
  obtain ⟨c0, hce, g4⟩ := trd_zero g0
  obtain ⟨vb, gg⟩ := chk_zero c0
  have c1 := chk_one c0
  obtain ⟨n0, n1, hml, hop⟩ := gg co (by simp)
  obtain ⟨f0, f1, hfl, hof⟩ := gg of (by simp)
  obtain ⟨m, rfl⟩ : ∃ m : Nat, co = m := ⟨co.toNat, by omega⟩
  obtain ⟨e, rfl⟩ : ∃ e : Nat, of = e := ⟨of.toNat, by omega⟩
  simp only [Int.toNat_natCast] at hml hfl
  have hne : m ≠ e := by intro h; subst h; simp at hce
  have hm : m < 12 := by have := vb.len; omega
  have he : e < 12 := by have := vb.len; omega
  have hmi : (m : Int) < 12 := by omega
  have hei : (e : Int) < 12 := by omega
  have haa : accAt b m = b.accs[m] := by unfold accAt; simp [hml]
  have hae : accAt b e = b.accs[e] := by unfold accAt; simp [hfl]
  rw [hae] at hr
  have aok := vb.accs _ (List.getElem_mem hml)
  have eok := vb.accs _ (List.getElem_mem hfl)
  have lp := eok.lp
  simp -implicitDefEqProofs [-frz, Try.f56, hk, obm, Option.bind_assoc]
  refine scan_first (R := PostB r.1 r.2) b.accs[e].parts.reverse (fun p => p == (m : Int)) (fun j s => s.h 0 = some ⟨5, [bc b]⟩ ∧ s.h 1 = some ⟨5, [noC]⟩ ∧ s.c = 2 ∧ s.t 1 = I m ∧ s.t 2 = I e ∧ s.t 3 = I k ∧ s.t 4 = .ptr 0 0 0 ∧ s.t 8 = .ptr 1 0 0 ∧ s.t 11 = I (3 - (j : Int))) _ ?_ ?_ ?_ ?_
  · simp
  · rintro j ⟨t, h, c⟩ ⟨h0, h1, hc, t1, t2, t3, t4, t8, t11⟩ hj hp
    simp only at h0 h1 hc t1 t2 t3 t4 t8 t11 hp
    have hj4 : j < 4 := by simpa [lp] using hj
    simp only [List.getElem_reverse, lp] at hp
    have ei : (3 : Int) - j = ((3 - j : Nat) : Int) := by omega
    rw [ei] at t11
    have k1 : decide (0 ≤ ((3 - j : Nat) : Int)) = true := decide_eq_true (by omega)
    have hji3 : 3 - j < b.accs[e].parts.length := by omega
    have ws : IntKind.i64.wrap (((3 - j : Nat) : Int) - 1) = 3 - ((j : Int) + 1) := by rw [wrap_id (by omega) (by omega)]; omega
    have hp' : (b.accs[e].parts[3 - j] != (m : Int)) = true := by unfold bne; rw [hp]; rfl
    clear hp
    generalize 3 - j = i at *
    simp -implicitDefEqProofs [h0, h1, hc, t1, t2, t3, t4, t8, t11, hji3, hfl, k1, hp', ws, Acc.cells, -decide_eq_true_eq]
  · rintro j ⟨t, h, c⟩ ⟨h0', h1', hc, t1, t2, t3, t4, t8, t11⟩ hj hp hidx
    simp only at h0' h1' hc t1 t2 t3 t4 t8 t11 hp
    subst hc
    rw [hidx] at hr
    simp only at hr
    have hj4 : j < 4 := by simpa [lp] using hj
    simp only [List.getElem_reverse, lp] at hp
    have ei : (3 : Int) - j = ((3 - j : Nat) : Int) := by omega
    rw [ei] at t11
    have k1 : decide (0 ≤ ((3 - j : Nat) : Int)) = true := decide_eq_true (by omega)
    have hji3 : 3 - j < b.accs[e].parts.length := by omega
    have hp' : (b.accs[e].parts[3 - j] != (m : Int)) = false := by unfold bne; rw [hp]; rfl
    have hi4 : 3 - j < 4 := by omega
    clear hidx hj ei hp
    generalize 3 - j = i at *
    have hii : (i : Int) < 4 := by omega
    have ki : decide ((i : Int) < 0) = false := decide_eq_false (by omega)
    have hpx := bpart_x b.accs[e] k
    have hps := partsP_small b.accs[e] k
    revert hpx hps hr
    generalize partsP b.accs[e] k = q
    intro hr hpx hps
    have hmv := moveP_of (sgn := 1) (st := false) vb c1 (q := q) (by omega)
    rw [haa, show (1 : Int) * q = q by omega] at hmv
    have hgood := move_good b m 6 q 1 false
    rw [hmv] at hgood
    simp only [Bool.false_and, cond_false] at hmv hgood
    simp -implicitDefEqProofs [-frz, h0', h1', t1, t2, t3, t4, t8, t11, hji3, hfl, hpx, k1, hp', ki, Acc.cells, obm, Option.bind_assoc, -decide_eq_true_eq, -decide_eq_false_iff_not]
    have hem : ∀ y : Acc, (b.accs.set e y)[m]? = some b.accs[m] := by intro y; rw [List.getElem?_set, if_neg (by omega)]; exact List.getElem?_eq_getElem hml
    have ham : ∀ y : Acc, accAt (setB b e y) m = b.accs[m] := by
      intro y
      unfold accAt setB
      simp only [Int.toNat_natCast]
      rw [hem]
      rfl
    unfold bkP at hr hmv hgood
    rw [ham] at hr
    rw [haa] at hmv hgood
    simp only [setB, Int.toNat_natCast, plainB] at hr hmv hgood
    rw [show ((q : Int) == 0) = false by simp; omega] at hr hmv hgood
    simp only [cond_false] at hr hmv hgood
    refine own_to rfl _ _ (fun R h => bearn_run b w m 6 q _ R h) _ ?_ ?_
    · rw [hmv]
      intro herr h1 d hd hlow
      have h0 : h1 1 = some ⟨5, [noC]⟩ := by rw [hlow 1 (by omega)]; exact h1'
      have h00 : h1 0 = some ⟨5, [bc b]⟩ := by rw [hlow 0 (by omega)]; exact h0'
      cases g6 : bookBad b.accs[m].cash (q) b.book.length
      · rw [g6] at herr; simp at herr
      · rw [g6] at hr
        simp only [cond_true] at hr
        subst hr
        simp -implicitDefEqProofs [-frz, h0, h00, h0', h1', g6, show ¬ (d = 0) by omega, show ¬ (d = 1) by omega, show ¬ (d ≤ 0) by omega, show ¬ (d ≤ 1) by omega, t1, t2, t3, t4, t8]
        exact post_err _ _ _
    · rw [hmv]
      intro hok h1 d la v rows hd hlow O M
      have h0 : h1 1 = some ⟨5, [noC]⟩ := by rw [hlow 1 (by omega)]; exact h1'
      have h00 : h1 0 = some ⟨5, [bc b]⟩ := by rw [hlow 0 (by omega)]; exact h0'
      cases g6 : bookBad b.accs[m].cash (q) b.book.length
      case true => rw [g6] at hok; simp at hok
      rw [g6] at hr O
      simp only [cond_false] at hr O
      subst hr
      have hem2 : ∀ y : Acc, (b.accs.set m y)[e]? = some b.accs[e] := by intro y; rw [List.getElem?_set, if_neg (by omega)]; exact List.getElem?_eq_getElem hfl
      have hla := O.hla
      have hlt : e < rows.length := by rw [O.len]; exact he
      obtain ⟨a, vp, vl, ha, hrw, hvp, hvl⟩ := O.get he
      rw [hem2] at ha
      cases ha
      have hr' : rows[e] = [B b.accs[e].opn, I b.accs[e].cash, I b.accs[e].loan, vp, vl] := by rw [List.getElem?_eq_getElem hlt] at hrw; exact Option.some.inj hrw
      obtain ⟨sp, sl⟩ := M.get he hrw
      have lge := O.sep4.1
      have lc1 := O.sep4.2
      have q1 : ¬ (la = 0) := by omega
      have q2 : ¬ (0 = la) := by omega
      have q3 : ¬ (la = 1) := by omega
      have q4 : ¬ (1 = la) := by omega
      have hv1 := slv_cells O.bkv
      have hv2 := slv_okc O.bkv
      unfold AV.cells at hv1
      unfold okc at hv2
      obtain ⟨lq, off, n, rfl⟩ : ∃ l off n, vp = .sl l 1 off n := by
        rcases sp with h | rfl | rfl
        · exact h
        · have := congrArg List.length (Option.some.inj hvp); simp [lp] at this
        · have := congrArg List.length (Option.some.inj hvp); simp [lp] at this
      obtain ⟨BB, b1, b2, b3, b4⟩ := els_sl hvp
      have b5 : n = 4 := by simpa [lp] using b4.symm
      subst b5
      have at3 := O.sep2 e 3 lq ⟨_, _, hrw, rfl, by simp⟩
      have p1 : ¬ (lq = la) := at3.1
      have p2 : ¬ (la = lq) := fun h => p1 h.symm
      have p3 : ¬ (lq = 0) := by have := at3.2.2.1; omega
      have p4 : ¬ (0 = lq) := fun h => p3 h.symm
      have p5 : ¬ (lq = 1) := by have := at3.2.2.1; omega
      have p6 : ¬ (1 = lq) := fun h => p5 h.symm
      have r1 : 2 ≤ la := lge
      have r2 : 2 ≤ lq := at3.2.2.1
      have r3 : lq < d := at3.2.2.2
      have hbj : off + i < BB.es.length := by omega
      have hrow : BB.es[off + i].length = 1 := by
        have hip : i < b.accs[e].parts.length := by omega
        have t := congrArg (fun l => l[i]?) b3
        simp only [List.getElem?_take, List.getElem?_drop, List.getElem?_map, if_pos hi4] at t
        rw [List.getElem?_eq_getElem hbj, List.getElem?_eq_getElem hip] at t
        rw [Option.some.inj t]
        rfl
      obtain ⟨cell, hcell⟩ : ∃ x, BB.es[off + i] = [x] := by
        match hh : BB.es[off + i], hrow with
        | [x], _ => exact ⟨x, rfl⟩
      simp -implicitDefEqProofs [-frz, h0, h00, h0', h1', show ¬ (d = 0) by omega, show ¬ (d = 1) by omega, show ¬ (d ≤ 0) by omega, show ¬ (d ≤ 1) by omega, t1, t2, t3, t4, t8, t11, hla, hlt, hr', he, hei, hbj, hcell, hi4, hii, b1, q1, q2, q3, q4, p1, p2, p3, p4, p5, p6, hv1, hv2, r1, r2, r3, lc1]
      have sm : Small (b.accs.set m { b.accs[m] with cash := b.accs[m].cash + q }) := small_set (small_of vb) (by have := aok.lp; simp only; omega) (by have := vb.last _ (List.getElem_mem hml); simp only; omega)
      refine post_nrm ?_ (post_own (O.part (x := -1) (k := i) he (hem2 _) hrw b1 b2 b3 hvl hi4 ?_ (fun y hy hq hyc => ?_)) M _ _ _ (by have := vb.book; simp; omega) (small_set sm (by simp [lp]) (by have := vb.last _ (List.getElem_mem hfl); simp only; omega)))
      · rw [List.set_comm _ _ (by omega : m ≠ e)]
      · simp [p5, p6]
      · have hq' : 2 ≤ y := hq
        simp [hy, show ¬ (y = 0) by omega, show ¬ (y = 1) by omega, lay_get, hq', hyc]
  · rintro ⟨t, h, c⟩ ⟨h0, h1, hc, t1, t2, t3, t4, t8, t11⟩ hidx
    simp only at h0 h1 hc t1 t2 t3 t4 t8 t11
    rw [hidx] at hr
    simp only at hr
    subst hr
    rw [List.length_reverse, lp] at t11
    simp -implicitDefEqProofs [-frz, h0, h1, t1, t2, t3, t4, t8, t11]
    exact post_err _ _ _
end Go.Proofs.Ytdckleaemkcapaa.AM
