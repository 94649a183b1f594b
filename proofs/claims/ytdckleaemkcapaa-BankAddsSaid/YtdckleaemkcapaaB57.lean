/- Texts of the proof: part B57. -/
import Derived.Test.YtdckleaemkcapaaB56
set_option maxHeartbeats 0
set_option linter.unusedSimpArgs false
set_option linter.unusedVariables false
set_option linter.unusedSectionVars false
namespace Go.Proofs.Ytdckleaemkcapaa.AM
open Go Go.Proofs
attribute [local simp] AV.cells okc AV.isBad fieldAddrA ld setCells stA skipV appendA hd makeA bnd sliceA kindA freshA killOk loadsAt newT empT lay_get allocA buildA buildRow builtinA lenA els indexAddrA isNil opA evA lit yldA binA binI unA pickA boolV intV fieldA mk flat lf lf.lfs frz
theorem play_x (b : Bnk) (w : b.Wfb) (s : Stp) (hl : s.l.length ≤ 9223372036854775807) : PostB (stepP b s).1 (stepP b s).2 (run Try.prog (mdT tblB) 57 [.agg (bc b), .agg (sc s)] Heap.none 0) := by
  generalize hr : stepP b s = r
  unfold stepP at hr
  rw [run_eq, show mdT tblB 57 = some .pure from rfl, Option.bind_some, Try.func57]
  cases g0 : s.k == 0
  case true =>
    rw [g0] at hr
    simp only [cond_true, cond_false] at hr
    subst hr
    obtain ⟨b1, n1, w1, c1⟩ := call_post (args := [.agg (bc b), I s.a]) rfl (fun h => rfl) (bfound_x b w s.a) rfl
    simp -implicitDefEqProofs [-frz, Try.f57, g0, c1]
    exact post_plain n1 w1 _ _
  cases g1 : s.k == 1
  case true =>
    rw [g0, g1] at hr
    simp only [cond_true, cond_false] at hr
    subst hr
    have gd := move_good b s.a s.b s.c (-1) true
    simp -implicitDefEqProofs [-frz, Try.f57, g0, g1, obm, Option.bind_assoc]
    refine own_to rfl _ _ (fun R h => bpay_run b w s.a s.b s.c _ R h) _ ?_ ?_
    · intro he h1 c1 hc hlow
      have h0 : h1 2 = some ⟨5, [noC]⟩ := by rw [hlow 2 (by omega)]; simp
      rw [gd.err he]
      simp -implicitDefEqProofs [-frz, h0]
      exact post_err _ _ _
    · intro he h1 c1 la v rows hc hlow O M
      have h0 : h1 2 = some ⟨5, [noC]⟩ := by rw [hlow 2 (by omega)]; simp
      have hv1 := slv_cells O.bkv
      have hv2 := slv_okc O.bkv
      unfold AV.cells at hv1
      unfold okc at hv2
      simp -implicitDefEqProofs [-frz, h0, hv1, hv2]
      rw [he]
      refine post_nrm (X := ⟨false, (moveP b s.a s.b s.c (-1) true).2.accs, (moveP b s.a s.b s.c (-1) true).2.rate, (moveP b s.a s.b s.c (-1) true).2.infl, (moveP b s.a s.b s.c (-1) true).2.idx, false, (moveP b s.a s.b s.c (-1) true).2.book⟩) ?_ (post_own (c' := c1) (Own.frame O (Nat.le_refl _) (fun l hl hlc => ?_)) M _ _ _ gd.bk gd.sm)
      · rfl
      · simp [show ¬ (l = 2) by omega]
  cases g2 : s.k == 2
  case true =>
    rw [g0, g1, g2] at hr
    simp only [cond_true, cond_false] at hr
    subst hr
    obtain ⟨b1, n1, w1, c1⟩ := call_post (args := [.agg (bc b), I s.a, I s.b, I s.c]) rfl (fun h => rfl) (bcharge_x b w s.a s.b s.c) rfl
    simp -implicitDefEqProofs [-frz, Try.f57, g0, g1, g2, c1]
    exact post_plain n1 w1 _ _
  cases g3 : s.k == 3
  case true =>
    rw [g0, g1, g2, g3] at hr
    simp only [cond_true, cond_false] at hr
    subst hr
    have gd := move_good b s.a s.b s.c 1 false
    simp -implicitDefEqProofs [-frz, Try.f57, g0, g1, g2, g3, obm, Option.bind_assoc]
    refine own_to rfl _ _ (fun R h => bearn_run b w s.a s.b s.c _ R h) _ ?_ ?_
    · intro he h1 c1 hc hlow
      have h0 : h1 2 = some ⟨5, [noC]⟩ := by rw [hlow 2 (by omega)]; simp
      rw [gd.err he]
      simp -implicitDefEqProofs [-frz, h0]
      exact post_err _ _ _
    · intro he h1 c1 la v rows hc hlow O M
      have h0 : h1 2 = some ⟨5, [noC]⟩ := by rw [hlow 2 (by omega)]; simp
      have hv1 := slv_cells O.bkv
      have hv2 := slv_okc O.bkv
      unfold AV.cells at hv1
      unfold okc at hv2
      simp -implicitDefEqProofs [-frz, h0, hv1, hv2]
      rw [he]
      refine post_nrm (X := ⟨false, (moveP b s.a s.b s.c 1 false).2.accs, (moveP b s.a s.b s.c 1 false).2.rate, (moveP b s.a s.b s.c 1 false).2.infl, (moveP b s.a s.b s.c 1 false).2.idx, false, (moveP b s.a s.b s.c 1 false).2.book⟩) ?_ (post_own (c' := c1) (Own.frame O (Nat.le_refl _) (fun l hl hlc => ?_)) M _ _ _ gd.bk gd.sm)
      · rfl
      · simp [show ¬ (l = 2) by omega]
  cases g4 : s.k == 4
  case true =>
    rw [g0, g1, g2, g3, g4] at hr
    simp only [cond_true, cond_false] at hr
    subst hr
    obtain ⟨b1, n1, w1, c1⟩ := call_post (args := [.agg (bc b), I s.a, I s.b]) rfl (fun h => rfl) (bbor_x b w s.a s.b) rfl
    simp -implicitDefEqProofs [-frz, Try.f57, g0, g1, g2, g3, g4, c1]
    exact post_plain n1 w1 _ _
  cases g5 : s.k == 5
  case true =>
    rw [g0, g1, g2, g3, g4, g5] at hr
    simp only [cond_true, cond_false] at hr
    subst hr
    obtain ⟨b1, n1, w1, c1⟩ := call_post (args := [.agg (bc b)]) rfl (fun h => rfl) (bmonth_x b w ) rfl
    simp -implicitDefEqProofs [-frz, Try.f57, g0, g1, g2, g3, g4, g5, c1]
    exact post_plain n1 w1 _ _
  cases g6 : s.k == 6
  case true =>
    rw [g0, g1, g2, g3, g4, g5, g6] at hr
    simp only [cond_true, cond_false] at hr
    subst hr
    obtain ⟨b1, n1, w1, c1⟩ := call_post (args := [.agg (bc b), .ro s.z (ints s.l)]) rfl (fun h => rfl) (bquarter_x b w s.z s.l hl) rfl
    simp -implicitDefEqProofs [-frz, Try.f57, g0, g1, g2, g3, g4, g5, g6, c1]
    exact post_plain n1 w1 _ _
  cases g7 : s.k == 7
  case true =>
    rw [g0, g1, g2, g3, g4, g5, g6, g7] at hr
    simp only [cond_true, cond_false] at hr
    subst hr
    obtain ⟨b1, n1, w1, c1⟩ := call_post (args := [.agg (bc b)]) rfl (fun h => rfl) (byear_x b w ) rfl
    simp -implicitDefEqProofs [-frz, Try.f57, g0, g1, g2, g3, g4, g5, g6, g7, c1]
    exact post_plain n1 w1 _ _
  cases g8 : s.k == 8
  case true =>
    rw [g0, g1, g2, g3, g4, g5, g6, g7, g8] at hr
    simp only [cond_true, cond_false] at hr
    subst hr
    obtain ⟨b1, n1, w1, c1⟩ := call_post (args := [.agg (bc b), I s.a, I s.b, I s.c]) rfl (fun h => rfl) (bbuy_x b w s.a s.b s.c) rfl
    simp -implicitDefEqProofs [-frz, Try.f57, g0, g1, g2, g3, g4, g5, g6, g7, g8, c1]
    exact post_plain n1 w1 _ _
  cases g9 : s.k == 9
  case true =>
    rw [g0, g1, g2, g3, g4, g5, g6, g7, g8, g9] at hr
    simp only [cond_true, cond_false] at hr
    subst hr
    obtain ⟨b1, n1, w1, c1⟩ := call_post (args := [.agg (bc b), I s.a, I s.b, I s.c]) rfl (fun h => rfl) (bsell_x b w s.a s.b s.c) rfl
    simp -implicitDefEqProofs [-frz, Try.f57, g0, g1, g2, g3, g4, g5, g6, g7, g8, g9, c1]
    exact post_plain n1 w1 _ _
  cases g10 : s.k == 10
  case true =>
    rw [g0, g1, g2, g3, g4, g5, g6, g7, g8, g9, g10] at hr
    simp only [cond_true, cond_false] at hr
    subst hr
    obtain ⟨b1, n1, w1, c1⟩ := call_post (args := [.agg (bc b), I s.a, I s.b]) rfl (fun h => rfl) (bmerge_x b w s.a s.b) rfl
    simp -implicitDefEqProofs [-frz, Try.f57, g0, g1, g2, g3, g4, g5, g6, g7, g8, g9, g10, c1]
    exact post_plain n1 w1 _ _
  cases g11 : s.k == 11
  case true =>
    rw [g0, g1, g2, g3, g4, g5, g6, g7, g8, g9, g10, g11] at hr
    simp only [cond_true, cond_false] at hr
    subst hr
    obtain ⟨b1, n1, w1, c1⟩ := call_post (args := [.agg (bc b), I s.a]) rfl (fun h => rfl) (bwind_x b w s.a) rfl
    simp -implicitDefEqProofs [-frz, Try.f57, g0, g1, g2, g3, g4, g5, g6, g7, g8, g9, g10, g11, c1]
    exact post_plain n1 w1 _ _
  rw [g0, g1, g2, g3, g4, g5, g6, g7, g8, g9, g10, g11] at hr
  simp only [cond_false] at hr
  subst hr
  simp -implicitDefEqProofs [-frz, Try.f57, g0, g1, g2, g3, g4, g5, g6, g7, g8, g9, g10, g11]
  exact post_err _ _ _
end Go.Proofs.Ytdckleaemkcapaa.AM
