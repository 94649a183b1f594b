/- Texts of the proof: part B43. -/
import Derived.Test.YtdckleaemkcapaaB42
set_option maxHeartbeats 0
set_option linter.unusedSimpArgs false
set_option linter.unusedVariables false
set_option linter.unusedSectionVars false
namespace Go.Proofs.Ytdckleaemkcapaa.AM
open Go Go.Proofs
attribute [local simp] AV.cells okc AV.isBad fieldAddrA ld setCells stA skipV appendA hd makeA bnd sliceA kindA freshA killOk loadsAt newT empT lay_get allocA buildA buildRow builtinA lenA els indexAddrA isNil opA evA lit yldA binA binI unA pickA boolV intV fieldA mk flat lf lf.lfs frz
theorem index_c (z : Bool) (l : List Int) (hl : l.length ≤ 1000) (x : Int) (h : Heap) (c : Nat) : callA (mdT tblB) (run Try.prog (mdT tblB)) 85 [.ro z (ints l), I x] h c = some (I (match l.findIdx? (fun p => x == p) with | some i => (i : Int) | none => -1), h, c) := by
  obtain ⟨h', c', e⟩ : ∃ h c, run Try.prog (mdT tblB) 85 [.ro z (ints l), I x] Heap.none 0 = some (I (match l.findIdx? (fun p => x == p) with | some i => (i : Int) | none => -1), h, c) := by
    generalize hv : (match l.findIdx? (fun p => x == p) with | some i => (i : Int) | none => -1) = v
    rw [run_eq, show mdT tblB 85 = some .pure from rfl, Option.bind_some, Try.func85]
    simp -implicitDefEqProofs [Try.f85, Option.bind_assoc]
    refine scan_first (R := fun o => ∃ h c, o = some (I v, h, c)) l (fun p => x == p) (fun j s => s.t 0 = .ro z (ints l) ∧ s.t 1 = I x ∧ s.t 7 = I l.length ∧ s.t 8 = I j) _ ?_ ?_ ?_ ?_
    · simp
    · rintro j ⟨t, h, c⟩ ⟨t0, t1, t7, t8⟩ hj hp
      simp only at t0 t1 t7 t8 hp
      simp -implicitDefEqProofs [t0, t1, t7, t8, hj, hp]
      exact wrap_succ (by omega)
    · rintro j ⟨t, h, c⟩ ⟨t0, t1, t7, t8⟩ hj hp hi
      simp only at t0 t1 t7 t8 hp
      rw [hi] at hv
      simp only at hv
      simp -implicitDefEqProofs [t0, t1, t7, t8, hj, hp, ← hv]
    · rintro ⟨t, h, c⟩ ⟨t0, t1, t7, t8⟩ hi
      simp only at t0 t1 t7 t8
      rw [hi] at hv
      simp only at hv
      simp -implicitDefEqProofs [t0, t1, t7, t8, ← hv]
  exact call_of rfl rfl e rfl rfl
theorem moveP_of {b : Bnk} (vb : Valid b) {m : Nat} {q sgn : Int} {st : Bool} (hc : chkP b [(m : Int)] = 0) (hq : 0 ≤ q ∧ q ≤ 1000000000000) : moveP b m 6 q sgn st = bif st && decide ((accAt b m).cash < q) then (12, noB) else bkP b m 6 (sgn * q) := by
  unfold moveP
  rw [hc, show outP 6 0 9 = false from rfl, outP_false.2 hq]
  rfl
theorem findIdx_flip (l : List Int) (x : Int) : l.findIdx? (fun p => x == p) = l.findIdx? (fun p => p == x) := by
  congr 1
  funext p
  rw [Bool.eq_iff_iff]
  simp only [beq_iff_eq]
  exact eq_comm
theorem chk_one {b : Bnk} {m e : Int} (h : chkP b [m, e] = 0) : chkP b [m] = 0 := by
  obtain ⟨vb, g⟩ := chk_zero h
  exact chkP_of vb fun n hn => by
    simp at hn
    subst hn
    have := g n (by simp)
    exact ⟨this.1, this.2.1, this.2.2.2⟩
theorem bbuy_x (b : Bnk) (w : b.Wfb) (co of k : Int) : PostB (buyP b co of k).1 (buyP b co of k).2 (run Try.prog (mdT tblB) 55 [.agg (bc b), I co, I of, I k] Heap.none 0) := by
  have hk := trade_c b w co of k
  generalize hr : buyP b co of k = r
  unfold buyP at hr
  rw [run_eq, show mdT tblB 55 = some .pure from rfl, Option.bind_some, Try.func55]
  by_cases g0 : trdP b co of k = 0
  case neg =>
    have g1 : (trdP b co of k == 0) = false := by simpa using g0
    have g2 : (trdP b co of k != 0) = true := by simp [bne, g1]
    rw [g1] at hr
    simp only [cond_false] at hr
    subst hr
    simp -implicitDefEqProofs [-frz, Try.f55, hk, g2]
    exact post_err _ _ _
  rw [g0] at hk hr
  simp only [BEq.rfl, cond_true] at hr
  obtain ⟨c0, hce, g4⟩ := trd_zero g0
  obtain ⟨vb, gg⟩ := chk_zero c0
  have c1 := chk_one c0
  obtain ⟨n0, n1, hml, hop⟩ := gg co (by simp)
  obtain ⟨f0, f1, hfl, hof⟩ := gg of (by simp)
  obtain ⟨m, rfl⟩ : ∃ m : Nat, co = m := ⟨co.toNat, by omega⟩
  obtain ⟨e, rfl⟩ : ∃ e : Nat, of = e := ⟨of.toNat, by omega⟩
  simp only [Int.toNat_natCast] at hml hfl
  have hne : m ≠ e := by intro h; subst h; simp at hce
  have hm : m < 12 := by have := vb.len; omega
  have he : e < 12 := by have := vb.len; omega
  have hmi : (m : Int) < 12 := by omega
  have hei : (e : Int) < 12 := by omega
  have haa : accAt b m = b.accs[m] := by unfold accAt; simp [hml]
  have hae : accAt b e = b.accs[e] := by unfold accAt; simp [hfl]
  rw [haa, hae] at hr
  have aok := vb.accs _ (List.getElem_mem hml)
  have eok := vb.accs _ (List.getElem_mem hfl)
  have lp := eok.lp
  have hix := index_c b.accs[e].np b.accs[e].parts (by omega) (-1)
  rw [findIdx_flip] at hix
  cases hidx : b.accs[e].parts.findIdx? (fun p => p == -1) with
  | none =>
    rw [hidx] at hr hix
    simp only at hr hix
    subst hr
    simp -implicitDefEqProofs [-frz, Try.f55, hk, hix, hfl, Acc.cells]
    exact post_err _ _ _
  | some i =>
    rw [hidx] at hr hix
    simp only at hr hix
    have hi4 : i < 4 := by
      rw [List.findIdx?_eq_some_iff_getElem] at hidx
      obtain ⟨h, _⟩ := hidx
      omega
    have hii : (i : Int) < 4 := by omega
    have ki : decide ((i : Int) < 0) = false := decide_eq_false (by omega)
    have hpx := bpart_x b.accs[e] k
    have hps := partsP_small b.accs[e] k
    revert hpx hps hr
    generalize partsP b.accs[e] k = q
    intro hr hpx hps
    have hmv := moveP_of (sgn := -1) (st := true) vb c1 (q := q) (by omega)
    rw [haa, show (-1 : Int) * q = -q by omega] at hmv
    have hgood := move_good b m 6 q (-1) true
    rw [hmv] at hgood
    simp only [Bool.true_and] at hmv hgood
    simp -implicitDefEqProofs [-frz, Try.f55, hk, hix, hfl, hpx, ki, Acc.cells, obm, Option.bind_assoc, -decide_eq_true_eq, -decide_eq_false_iff_not]
    have hem : ∀ y : Acc, (b.accs.set e y)[m]? = some b.accs[m] := by intro y; rw [List.getElem?_set, if_neg (by omega)]; exact List.getElem?_eq_getElem hml
    have ham : ∀ y : Acc, accAt (setB b e y) m = b.accs[m] := by
      intro y
      unfold accAt setB
      simp only [Int.toNat_natCast]
      rw [hem]
      rfl
    unfold bkP at hr hmv hgood
    rw [ham] at hr
    rw [haa] at hmv hgood
    simp only [setB, Int.toNat_natCast, plainB] at hr hmv hgood
    rw [show ((-q : Int) == 0) = false by simp; omega] at hr hmv hgood
    simp only [cond_false] at hr hmv hgood
    refine own_to rfl _ _ (fun R h => bpay_run b w m 6 q _ R h) _ ?_ ?_
    · rw [hmv]
      intro herr h1 d hd hlow
      have h0 : h1 1 = some ⟨5, [noC]⟩ := by rw [hlow 1 (by omega)]; simp
      have h00 : h1 0 = some ⟨5, [bc b]⟩ := by rw [hlow 0 (by omega)]; simp
      cases g5 : decide (b.accs[m].cash < q)
      · rw [g5] at hr herr
        simp only [cond_false] at hr herr
        cases g6 : bookBad b.accs[m].cash (-q) b.book.length
        · rw [g6] at herr; simp at herr
        · rw [g6] at hr
          simp only [cond_true] at hr
          subst hr
          simp -implicitDefEqProofs [-frz, h0, h00, g6]
          exact post_err _ _ _
      · rw [g5] at hr
        simp only [cond_true] at hr
        subst hr
        simp -implicitDefEqProofs [-frz, h0, h00]
        exact post_err _ _ _
    · rw [hmv]
      intro hok h1 d la v rows hd hlow O M
      have h0 : h1 1 = some ⟨5, [noC]⟩ := by rw [hlow 1 (by omega)]; simp
      have h00 : h1 0 = some ⟨5, [bc b]⟩ := by rw [hlow 0 (by omega)]; simp
      cases g5 : decide (b.accs[m].cash < q)
      case true => rw [g5] at hok; simp at hok
      rw [g5] at hr hok O
      simp only [cond_false] at hr hok O
      cases g6 : bookBad b.accs[m].cash (-q) b.book.length
      case true => rw [g6] at hok; simp at hok
      rw [g6] at hr O
      simp only [cond_false] at hr O
      subst hr
      have hem2 : ∀ y : Acc, (b.accs.set m y)[e]? = some b.accs[e] := by intro y; rw [List.getElem?_set, if_neg (by omega)]; exact List.getElem?_eq_getElem hfl
      have hla := O.hla
      have hlt : e < rows.length := by rw [O.len]; exact he
      obtain ⟨a, vp, vl, ha, hrw, hvp, hvl⟩ := O.get he
      rw [hem2] at ha
      cases ha
      have hr' : rows[e] = [B b.accs[e].opn, I b.accs[e].cash, I b.accs[e].loan, vp, vl] := by rw [List.getElem?_eq_getElem hlt] at hrw; exact Option.some.inj hrw
      obtain ⟨sp, sl⟩ := M.get he hrw
      have lge := O.sep4.1
      have lc1 := O.sep4.2
      have q1 : ¬ (la = 0) := by omega
      have q2 : ¬ (0 = la) := by omega
      have q3 : ¬ (la = 1) := by omega
      have q4 : ¬ (1 = la) := by omega
      have hv1 := slv_cells O.bkv
      have hv2 := slv_okc O.bkv
      unfold AV.cells at hv1
      unfold okc at hv2
      obtain ⟨lq, off, n, rfl⟩ : ∃ l off n, vp = .sl l 1 off n := by
        rcases sp with h | rfl | rfl
        · exact h
        · have := congrArg List.length (Option.some.inj hvp); simp [lp] at this
        · have := congrArg List.length (Option.some.inj hvp); simp [lp] at this
      obtain ⟨BB, b1, b2, b3, b4⟩ := els_sl hvp
      have b5 : n = 4 := by simpa [lp] using b4.symm
      subst b5
      have at3 := O.sep2 e 3 lq ⟨_, _, hrw, rfl, by simp⟩
      have p1 : ¬ (lq = la) := at3.1
      have p2 : ¬ (la = lq) := fun h => p1 h.symm
      have p3 : ¬ (lq = 0) := by have := at3.2.2.1; omega
      have p4 : ¬ (0 = lq) := fun h => p3 h.symm
      have p5 : ¬ (lq = 1) := by have := at3.2.2.1; omega
      have p6 : ¬ (1 = lq) := fun h => p5 h.symm
      have r1 : 2 ≤ la := lge
      have r2 : 2 ≤ lq := at3.2.2.1
      have r3 : lq < d := at3.2.2.2
      have hbj : off + i < BB.es.length := by omega
      have hrow : BB.es[off + i].length = 1 := by
        have hip : i < b.accs[e].parts.length := by omega
        have t := congrArg (fun l => l[i]?) b3
        simp only [List.getElem?_take, List.getElem?_drop, List.getElem?_map, if_pos hi4] at t
        rw [List.getElem?_eq_getElem hbj, List.getElem?_eq_getElem hip] at t
        rw [Option.some.inj t]
        rfl
      obtain ⟨cell, hcell⟩ : ∃ x, BB.es[off + i] = [x] := by
        match hh : BB.es[off + i], hrow with
        | [x], _ => exact ⟨x, rfl⟩
      simp -implicitDefEqProofs [-frz, h0, h00, hla, hlt, hr', he, hei, hbj, hcell, hi4, hii, b1, q1, q2, q3, q4, p1, p2, p3, p4, p5, p6, hv1, hv2, r1, r2, r3, lc1]
      have sm : Small (b.accs.set m { b.accs[m] with cash := b.accs[m].cash + -q }) := small_set (small_of vb) (by have := aok.lp; simp only; omega) (by have := vb.last _ (List.getElem_mem hml); simp only; omega)
      refine post_nrm ?_ (post_own (O.part (x := (m : Int)) (k := i) he (hem2 _) hrw b1 b2 b3 hvl hi4 ?_ (fun y hy hq hyc => ?_)) M _ _ _ (by have := vb.book; simp; omega) (small_set sm (by simp [lp]) (by have := vb.last _ (List.getElem_mem hfl); simp only; omega)))
      · rw [List.set_comm _ _ (by omega : m ≠ e)]
      · simp [p5, p6]
      · have hq' : 2 ≤ y := hq
        simp [hy, show ¬ (y = 0) by omega, show ¬ (y = 1) by omega, lay_get, hq', hyc]
end Go.Proofs.Ytdckleaemkcapaa.AM
