/- Texts of the proof: part B52. -/
import Derived.Test.YtdckleaemkcapaaB51
import Derived.Test.YtdckleaemkcapaaME
set_option maxHeartbeats 0
set_option linter.unusedSimpArgs false
set_option linter.unusedVariables false
set_option linter.unusedSectionVars false
namespace Go.Proofs.Ytdckleaemkcapaa.AM
open Go Go.Proofs
attribute [local simp] AV.cells okc AV.isBad fieldAddrA ld setCells stA skipV appendA hd makeA bnd sliceA kindA freshA killOk loadsAt newT empT lay_get allocA buildA buildRow builtinA lenA els indexAddrA isNil opA evA lit yldA binA binI unA pickA boolV intV fieldA mk flat lf lf.lfs frz
theorem bmerge_x (b : Bnk) (w : b.Wfb) (co of : Int) : PostB (mergeP b co of).1 (mergeP b co of).2 (run Try.prog (mdT tblB) 51 [.agg (bc b), I co, I of] Heap.none 0) := by
  have hk := trade_c b w co of 0
  generalize hr : mergeP b co of = r
  unfold mergeP at hr
  rw [run_eq, show mdT tblB 51 = some .pure from rfl, Option.bind_some, Try.func51]
  by_cases g0 : trdP b co of 0 = 0
  case neg =>
    have g1 : (trdP b co of 0 == 0) = false := by simpa using g0
    have g2 : (trdP b co of 0 != 0) = true := by simp [bne, g1]
    rw [g1] at hr
    simp only [cond_false] at hr
    subst hr
    simp -implicitDefEqProofs [-frz, Try.f51, hk, g2]
    exact post_err _ _ _
  rw [g0] at hk hr
  simp only [BEq.rfl, cond_true] at hr
  obtain ⟨c0, hce, g4⟩ := trd_zero g0
  obtain ⟨vb, gg⟩ := chk_zero c0
  obtain ⟨n0, n1, hml, hop⟩ := gg co (by simp)
  obtain ⟨f0, f1, hfl, hof⟩ := gg of (by simp)
  obtain ⟨m, rfl⟩ : ∃ m : Nat, co = m := ⟨co.toNat, by omega⟩
  obtain ⟨e, rfl⟩ : ∃ e : Nat, of = e := ⟨of.toNat, by omega⟩
  simp only [Int.toNat_natCast] at hml hfl hr
  have hne : m ≠ e := by intro h; subst h; simp at hce
  have hm : m < 12 := by have := vb.len; omega
  have he : e < 12 := by have := vb.len; omega
  have hmi : (m : Int) < 12 := by omega
  have hei : (e : Int) < 12 := by omega
  have haa : accAt b m = b.accs[m] := by unfold accAt; simp [hml]
  have hae : accAt b e = b.accs[e] := by unfold accAt; simp [hfl]
  have aok := vb.accs _ (List.getElem_mem hml)
  have eok := vb.accs _ (List.getElem_mem hfl)
  have acash := aok.cash
  have ecash := eok.cash
  have aloan := aok.loan
  have eloan := eok.loan
  have lp := eok.lp
  have l4 : ∀ a ∈ b.accs, a.parts.length = 4 := fun a ha => (vb.accs a ha).lp
  have wn : IntKind.i64.wrap (-b.accs[e].cash) = -b.accs[e].cash := wrap_id (by omega) (by omega)
  have wl : IntKind.i64.wrap (b.accs[m].loan + b.accs[e].loan) = b.accs[m].loan + b.accs[e].loan := wrap_id (by omega) (by omega)
  have hem : ∀ y : Acc, (b.accs.set e y)[m]? = some b.accs[m] := by intro y; rw [List.getElem?_set, if_neg (by omega)]; exact List.getElem?_eq_getElem hml
  rw [hae, haa] at hr
  have hcf := fun (h : Heap) (c : Nat) (hq : h 1 = some ⟨1, [[I (m : Int)]]⟩) => containsf_c b.accs[e].np b.accs[e].parts (by omega) 82 [.ptr 1 0 0] (fun p => p != (m : Int)) h c (fun n => merge1_c n m hq c)
  cases g5 : b.accs[e].parts.any (fun p => p != (m : Int))
  case true =>
    rw [g5] at hr
    simp only [cond_true] at hr
    subst hr
    simp -implicitDefEqProofs [-frz, Try.f51, hk, hfl, hcf, g5, Acc.cells]
    exact post_err _ _ _
  rw [g5] at hr
  simp only [cond_false] at hr
  simp -implicitDefEqProofs [-frz, Try.f51, hk, hfl, hcf, g5, Acc.cells, obm, Option.bind_assoc]
  refine copy_to (.inr rfl) b vb w _ _ _ ?_
  intro h2 c1 la v rows hc hlow O M
  have h0' : h2 0 = some ⟨5, [bc b]⟩ := by rw [hlow 0 (by omega)]; simp
  have h1' : h2 2 = some ⟨5, [noC]⟩ := by rw [hlow 2 (by omega)]; simp
  have hx1 : h2 1 = some ⟨1, [[I (m : Int)]]⟩ := by rw [hlow 1 (by omega)]; simp
  have hla := O.hla
  have hlt : m < rows.length := by rw [O.len]; exact hm
  have hlt' : e < rows.length := by rw [O.len]; exact he
  obtain ⟨a, vp, vl, ha, hrw, hvp, hvl⟩ := O.get hm
  rw [List.getElem?_eq_getElem hml] at ha
  cases ha
  obtain ⟨a', vp', vl', ha', hrw', hvp', hvl'⟩ := O.get he
  rw [List.getElem?_eq_getElem hfl] at ha'
  cases ha'
  have hr1 : rows[m] = [B b.accs[m].opn, I b.accs[m].cash, I b.accs[m].loan, vp, vl] := by rw [List.getElem?_eq_getElem hlt] at hrw; exact Option.some.inj hrw
  have hr2 : rows[e] = [B b.accs[e].opn, I b.accs[e].cash, I b.accs[e].loan, vp', vl'] := by rw [List.getElem?_eq_getElem hlt'] at hrw'; exact Option.some.inj hrw'
  have lge := O.sep4.1
  have lc1 := O.sep4.2
  have q1 : ¬ (la = 0) := by omega
  have q2 : ¬ (0 = la) := by omega
  have q3 : ¬ (la = 1) := by omega
  have q4 : ¬ (1 = la) := by omega
  have q5 : ¬ (la = 2) := by omega
  have q6 : ¬ (2 = la) := by omega
  have d1 : ¬ (c1 = 0) := by omega
  have d2 : ¬ (0 = c1) := by omega
  have d3 : ¬ (c1 = 1) := by omega
  have d4 : ¬ (1 = c1) := by omega
  have d5 : ¬ (c1 = la) := by omega
  have d6 : ¬ (la = c1) := by omega
  have d7 : ¬ (c1 = 2) := by omega
  have d8 : ¬ (2 = c1) := by omega
  have d10 : ¬ (c1 ≤ la) := by omega
  have hv1 := slv_cells O.bkv
  have hv2 := slv_okc O.bkv
  unfold AV.cells at hv1
  unfold okc at hv2
  have hbk := vb.book
  simp -implicitDefEqProofs [-frz, h0', h1', hx1, hla, hlt, hlt', hr1, hr2, hm, he, hmi, hei, wn, wl, q1, q2, q3, q4, q5, q6, d1, d2, d3, d4, d5, d6, d7, d8, d10, booking_c, hv1, hv2, obm, Option.bind_assoc]
  refine book91_to (Q := fun l => 3 ≤ l ∧ l ≠ c1) (d := c1) (p := 0) (la := la) (r := b.rate) (f := b.infl) (x := b.idx) (v := v) _ _ _ (by simp [q1, q2, q3, q4, q5, q6, d1, d2, d3, d4, d5, d6, d7, d8, d10]) (by simp) ((O.excl (Nat.le_refl c1)).frame (Nat.le_refl _) (fun l hl hlc => by simp [show ¬ (l = 0) by omega, hl.2])) M he (List.getElem?_eq_getElem hfl) ecash (by omega) (by omega) (by simp [d1, d2]) (by simp) (by omega) ?_ ?_ ?_
  · intro hz
    have hz' : b.accs[e].cash = 0 := by omega
    rw [hz', bkP_zero b _ _ (show (-(0 : Int)) = 0 from rfl)] at hr
    simp only [BEq.rfl, cond_true] at hr
    rw [bkP_zero _ _ _ rfl] at hr
    simp only [BEq.rfl, cond_true] at hr
    simp -implicitDefEqProofs [-frz, hx1, q1, q2, q3, q4, q5, q6, d1, d2, d3, d4, d5, d6, d7, d8, d10, hz', obm, Option.bind_assoc]
    refine book91_to (Q := fun l => 3 ≤ l ∧ l ≠ c1) (d := c1) (p := 0) (la := la) (r := b.rate) (f := b.infl) (x := b.idx) (v := v) _ _ _ (by simp [q1, q2, q3, q4, q5, q6, d1, d2, d3, d4, d5, d6, d7, d8, d10]) (by simp) ((O.excl (Nat.le_refl c1)).frame (Nat.le_refl _) (fun l hl hlc => by simp [show ¬ (l = 0) by omega, hl.2])) M hm (List.getElem?_eq_getElem hml) acash (by omega) (by omega) (by simp [d1, d2]) (by simp) (by omega) ?_ (fun h => absurd rfl h) (fun h => absurd rfl h)
    intro _
    have O0 := ((O.excl (Nat.le_refl c1)).frame (h' := ((h2.put 0 (some ⟨5, [[.sl la 5 0 12, I b.rate, I b.infl, I b.idx, v]]⟩)).put c1 (some ⟨1, [[.ptr 0 0 0]]⟩))) (Nat.le_refl _) (fun l hl hlc => by simp [show ¬ (l = 0) by omega, hl.2]))
    obtain ⟨ax, vpx, vlx, hax, hrwx, hvpx, hvlx⟩ := Own.get O0 hm
    rw [List.getElem?_eq_getElem hml] at hax
    cases hax
    have hltx : m < rows.length := by rw [Own.len O0]; exact hm
    have hrx : rows[m] = [B b.accs[m].opn, I b.accs[m].cash, I b.accs[m].loan, vpx, vlx] := by rw [List.getElem?_eq_getElem hltx] at hrwx; exact Option.some.inj hrwx
    have hlax := Own.hla O0
    have hvx1 := slv_cells (Own.bkv O0)
    have hvx2 := slv_okc (Own.bkv O0)
    unfold AV.cells at hvx1
    unfold okc at hvx2
    have hmz : accAt (plainB (plainB b)) m = b.accs[m] := haa
    rw [hmz] at hr
    cases g7 : decide (1000000000000 < b.accs[m].loan + b.accs[e].loan)
    case true =>
      rw [g7] at hr
      simp only [cond_true] at hr
      subst hr
      simp -implicitDefEqProofs [-frz, h1', hla, hlt, hx1, hz', hlax, hltx, hrx, hm, hmi, wl, q1, q2, q3, q4, q5, q6, d1, d2, d3, d4, d5, d6, d7, d8, d10, g7, -decide_eq_true_eq, -decide_eq_false_iff_not]
      exact post_err _ _ _
    rw [g7] at hr
    simp only [cond_false] at hr
    subst hr
    simp -implicitDefEqProofs [-frz, h1', hla, hlt, hx1, hz', hlax, hltx, hrx, hm, hmi, wl, q1, q2, q3, q4, q5, q6, d1, d2, d3, d4, d5, d6, d7, d8, d10, g7, obm, Option.bind_assoc, hvx1, hvx2, -decide_eq_true_eq, -decide_eq_false_iff_not]
    refine bshut_to _ _ _ (Own.scal O0 hm hrwx hvpx hvlx (o := b.accs[m].opn) (x := b.accs[m].cash) (y := b.accs[m].loan + b.accs[e].loan) (by simp [q1, q2, q3, q4, q5, q6, d1, d2, d3, d4, d5, d6, d7, d8, d10]) (fun l hl hq => by simp [hl])) (mine_put M (Mine.get M hm hrwx).1 (Mine.get M hm hrwx).2) he (fun a ha => by rcases List.mem_or_eq_of_mem_set ha with ha | rfl; exact l4 a ha; exact aok.lp) ?_
    intro h5 c5 rows5 hf5 hc5 O5 M5
    have h50 : h5 0 = some ⟨5, [[.sl la 5 0 12, I b.rate, I b.infl, I b.idx, v]]⟩ := by rw [hf5 0 (by simp)]; simp [h1', hla, hlt, hx1, hz', q1, q2, q3, q4, q5, q6, d1, d2, d3, d4, d5, d6, d7, d8, d10]
    have h51 : h5 2 = some ⟨5, [noC]⟩ := by rw [hf5 2 (by simp)]; simp [h1', hla, hlt, hx1, hz', q1, q2, q3, q4, q5, q6, d1, d2, d3, d4, d5, d6, d7, d8, d10]
    simp -implicitDefEqProofs [-frz, h50, h51, hvx1, hvx2]
    have O6 := O5.frame (h' := h5.put 2 (some ⟨5, [[.sl la 5 0 12, I b.rate, I b.infl, I b.idx, v]]⟩)) (Nat.le_refl _) (fun l hl hlc => by simp [show ¬ (l = 2) by omega])
    exact post_nrm (by simp [shutB, setB, plainB, Bnk.nrm, List.set_set]) (post_ownW O6 M5 _ _ _ (by have := vb.book; omega) (shutL_small (small_set (small_of vb) (by have := aok.lp; simp only; omega) (by have := vb.last _ (List.getElem_mem hml); simp only; omega))))
  · intro hn hbad
    rw [bkP_bad hn (by rw [hae]; exact hbad)] at hr
    simp only [show ((10 : Int) == 0) = false from rfl, cond_false] at hr
    subst hr
    simp -implicitDefEqProofs [-frz, h1', q1, q2, q3, q4, q5, q6, d1, d2, d3, d4, d5, d6, d7, d8, d10]
    exact post_err _ _ _
  · intro hn hbad h3 c3 v3 rows3 x0 pk hc3 O3 M3
    rw [bkP_good hn (by rw [hae]; exact hbad)] at hr
    simp only [BEq.rfl, cond_true, hae, Int.toNat_natCast] at hr
    have h31 : h3 2 = some ⟨5, [noC]⟩ := by rw [pk 2 (by simp) (by omega)]; simp [h1', q1, q2, q3, q4, q5, q6, d1, d2, d3, d4, d5, d6, d7, d8, d10]
    have hx3 : h3 1 = some ⟨1, [[I (m : Int)]]⟩ := by rw [pk 1 (by simp) (by omega)]; simp [hx1, q1, q2, q3, q4, q5, q6, d1, d2, d3, d4, d5, d6, d7, d8, d10]
    have hx3d : h3 c1 = some ⟨1, [[.ptr 0 0 0]]⟩ := by rw [pk c1 (by simp) (by omega)]; simp [q1, q2, q3, q4, q5, q6, d1, d2, d3, d4, d5, d6, d7, d8, d10]
    have hm1 : accAt ⟨false, b.accs.set e { b.accs[e] with cash := b.accs[e].cash + -b.accs[e].cash }, b.rate, b.infl, b.idx, false, b.book ++ [⟨e, 9, -b.accs[e].cash⟩]⟩ m = b.accs[m] := by
      unfold accAt
      simp only [Int.toNat_natCast]
      rw [hem]
      rfl
    have bg := bookBad_false hbad
    simp -implicitDefEqProofs [-frz, x0, h31, hx3, hx3d, q1, q2, q3, q4, q5, q6, d1, d2, d3, d4, d5, d6, d7, d8, d10, obm, Option.bind_assoc]
    refine book91_to (Q := fun l => 3 ≤ l ∧ l ≠ c1) (d := c1) (p := 0) (la := la) (r := b.rate) (f := b.infl) (x := b.idx) (v := v3) _ _ _ x0 (by simp) O3 M3 hm (hem _) acash (by omega) (by simp; omega) hx3d (by simp) (by omega) ?_ ?_ ?_
    · intro h; omega
    · intro hn2 hbad2
      rw [bkP_bad hn2 (by rw [hm1]; exact hbad2)] at hr
      simp only [show ((10 : Int) == 0) = false from rfl, cond_false] at hr
      subst hr
      simp -implicitDefEqProofs [-frz, h31, q1, q2, q3, q4, q5, q6, d1, d2, d3, d4, d5, d6, d7, d8, d10]
      exact post_err _ _ _
    · intro hn2 hbad2 h4 c4 v4 rows4 y0 pk4 hc4 O4 M4
      rw [bkP_good hn2 (by rw [hm1]; exact hbad2)] at hr
      simp only [BEq.rfl, cond_true, hm1, Int.toNat_natCast] at hr
      have h41 : h4 2 = some ⟨5, [noC]⟩ := by rw [pk4 2 (by simp) (by omega)]; exact h31
      have hx4 : h4 1 = some ⟨1, [[I (m : Int)]]⟩ := by rw [pk4 1 (by simp) (by omega)]; exact hx3
      have bg2 := bookBad_false hbad2
      obtain ⟨ax, vpx, vlx, hax, hrwx, hvpx, hvlx⟩ := Own.get O4 hm
      rw [show ((b.accs.set e { b.accs[e] with cash := b.accs[e].cash + -b.accs[e].cash }).set m { b.accs[m] with cash := b.accs[m].cash + b.accs[e].cash })[m]? = some { b.accs[m] with cash := b.accs[m].cash + b.accs[e].cash } by simp [hml]] at hax
      cases hax
      have hltx : m < rows4.length := by rw [Own.len O4]; exact hm
      have hrx : rows4[m] = [B b.accs[m].opn, I (b.accs[m].cash + b.accs[e].cash), I b.accs[m].loan, vpx, vlx] := by rw [List.getElem?_eq_getElem hltx] at hrwx; exact Option.some.inj hrwx
      have hlax := Own.hla O4
      have hvx1 := slv_cells (Own.bkv O4)
      have hvx2 := slv_okc (Own.bkv O4)
      unfold AV.cells at hvx1
      unfold okc at hvx2
      have hm2 : accAt ⟨false, (b.accs.set e { b.accs[e] with cash := b.accs[e].cash + -b.accs[e].cash }).set m { b.accs[m] with cash := b.accs[m].cash + b.accs[e].cash }, b.rate, b.infl, b.idx, false, b.book ++ [⟨e, 9, -b.accs[e].cash⟩] ++ [⟨m, 9, b.accs[e].cash⟩]⟩ m = { b.accs[m] with cash := b.accs[m].cash + b.accs[e].cash } := by unfold accAt; simp [hml]
      rw [hm2] at hr
      cases g7 : decide (1000000000000 < b.accs[m].loan + b.accs[e].loan)
      case true =>
        rw [g7] at hr
        simp only [cond_true] at hr
        subst hr
        simp -implicitDefEqProofs [-frz, y0, h41, hx4, hlax, hltx, hrx, hm, hmi, wl, q1, q2, q3, q4, q5, q6, d1, d2, d3, d4, d5, d6, d7, d8, d10, g7, -decide_eq_true_eq, -decide_eq_false_iff_not]
        exact post_err _ _ _
      rw [g7] at hr
      simp only [cond_false] at hr
      subst hr
      simp -implicitDefEqProofs [-frz, y0, h41, hx4, hlax, hltx, hrx, hm, hmi, wl, q1, q2, q3, q4, q5, q6, d1, d2, d3, d4, d5, d6, d7, d8, d10, g7, obm, Option.bind_assoc, hvx1, hvx2, -decide_eq_true_eq, -decide_eq_false_iff_not]
      refine bshut_to _ _ _ (Own.scal O4 hm hrwx hvpx hvlx (o := b.accs[m].opn) (x := (b.accs[m].cash + b.accs[e].cash)) (y := b.accs[m].loan + b.accs[e].loan) (by simp [q1, q2, q3, q4, q5, q6, d1, d2, d3, d4, d5, d6, d7, d8, d10]) (fun l hl hq => by simp [hl])) (mine_put M4 (Mine.get M4 hm hrwx).1 (Mine.get M4 hm hrwx).2) he (fun a ha => by rcases List.mem_or_eq_of_mem_set ha with ha | rfl; (rcases List.mem_or_eq_of_mem_set ha with ha | rfl; (rcases List.mem_or_eq_of_mem_set ha with ha | rfl; exact l4 a ha; exact eok.lp); exact aok.lp); exact aok.lp) ?_
      intro h5 c5 rows5 hf5 hc5 O5 M5
      have h50 : h5 0 = some ⟨5, [[.sl la 5 0 12, I b.rate, I b.infl, I b.idx, v4]]⟩ := by rw [hf5 0 (by simp)]; simp [y0, h41, hx4, q1, q2, q3, q4, q5, q6, d1, d2, d3, d4, d5, d6, d7, d8, d10]
      have h51 : h5 2 = some ⟨5, [noC]⟩ := by rw [hf5 2 (by simp)]; simp [y0, h41, hx4, q1, q2, q3, q4, q5, q6, d1, d2, d3, d4, d5, d6, d7, d8, d10]
      simp -implicitDefEqProofs [-frz, h50, h51, hvx1, hvx2]
      have O6 := O5.frame (h' := h5.put 2 (some ⟨5, [[.sl la 5 0 12, I b.rate, I b.infl, I b.idx, v4]]⟩)) (Nat.le_refl _) (fun l hl hlc => by simp [show ¬ (l = 2) by omega])
      exact post_nrm (by simp [shutB, setB, plainB, Bnk.nrm, List.set_set]) (post_ownW O6 M5 _ _ _ (by simp; omega) (shutL_small (small_set (small_set (small_set (small_of vb) (by have := eok.lp; simp only; omega) (by have := vb.last _ (List.getElem_mem hfl); simp only; omega)) (by have := aok.lp; simp only; omega) (by have := vb.last _ (List.getElem_mem hml); simp only; omega)) (by have := aok.lp; simp only; omega) (by have := vb.last _ (List.getElem_mem hml); simp only; omega))))
end Go.Proofs.Ytdckleaemkcapaa.AM
