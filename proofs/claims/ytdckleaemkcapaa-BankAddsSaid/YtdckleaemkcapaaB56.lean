/- Texts of the proof: part B56. -/
import Derived.Test.YtdckleaemkcapaaMG
set_option maxHeartbeats 0
set_option linter.unusedSimpArgs false
set_option linter.unusedVariables false
set_option linter.unusedSectionVars false
namespace Go.Proofs.Ytdckleaemkcapaa.AM
open Go Go.Proofs
attribute [local simp] AV.cells okc AV.isBad fieldAddrA ld setCells stA skipV appendA hd makeA bnd sliceA kindA freshA killOk loadsAt newT empT lay_get allocA buildA buildRow builtinA lenA els indexAddrA isNil opA evA lit yldA binA binI unA pickA boolV intV fieldA mk flat lf lf.lfs frz
structure Stp where
  k : Int
  a : Int
  b : Int
  c : Int
  z : Bool
  l : List Int
def Stp.cells (s : Stp) : List AV := [I s.k, I s.a, I s.b, I s.c, .ro s.z (ints s.l)]
abbrev sc (s : Stp) : List AV := [I s.k, I s.a, I s.b, I s.c, .ro s.z (ints s.l)]
def stepP (b : Bnk) (s : Stp) : Int × Bnk := bif s.k == 0 then foundP b s.a else bif s.k == 1 then moveP b s.a s.b s.c (-1) true else bif s.k == 2 then moveP b s.a s.b s.c (-1) false else bif s.k == 3 then moveP b s.a s.b s.c 1 false else bif s.k == 4 then borP b s.a s.b else bif s.k == 5 then monP b else bif s.k == 6 then quP b s.l else bif s.k == 7 then yearP b else bif s.k == 8 then buyP b s.a s.b s.c else bif s.k == 9 then sellP b s.a s.b s.c else bif s.k == 10 then mergeP b s.a s.b else bif s.k == 11 then windP b s.a else (1, noB)
theorem stepP_same {b c : Bnk} (h : b.nrm = c.nrm) (s : Stp) : Same (stepP b s) (stepP c s) := by
  unfold stepP
  exact same_bif (Eq.refl _) (foundP_same h s.a) (same_bif (Eq.refl _) (moveP_same h s.a s.b s.c (-1) true) (same_bif (Eq.refl _) (moveP_same h s.a s.b s.c (-1) false) (same_bif (Eq.refl _) (moveP_same h s.a s.b s.c 1 false) (same_bif (Eq.refl _) (borP_same h s.a s.b) (same_bif (Eq.refl _) (monP_same h ) (same_bif (Eq.refl _) (quP_same h s.l) (same_bif (Eq.refl _) (yearP_same h ) (same_bif (Eq.refl _) (buyP_same h s.a s.b s.c) (same_bif (Eq.refl _) (sellP_same h s.a s.b s.c) (same_bif (Eq.refl _) (mergeP_same h s.a s.b) (same_bif (Eq.refl _) (windP_same h s.a) (Same.rfl _))))))))))))
theorem stepP_valid {b : Bnk} {s : Stp} (h : (stepP b s).1 = 0) : Valid (stepP b s).2 := by
  unfold stepP at h ⊢
  cases g0 : s.k == 0 <;> rw [g0] at h <;> simp only [cond_true, cond_false] at h ⊢
  case true => exact found_valid h
  cases g1 : s.k == 1 <;> rw [g1] at h <;> simp only [cond_true, cond_false] at h ⊢
  case true => exact move_valid (by simp) h
  cases g2 : s.k == 2 <;> rw [g2] at h <;> simp only [cond_true, cond_false] at h ⊢
  case true => exact move_valid (by simp) h
  cases g3 : s.k == 3 <;> rw [g3] at h <;> simp only [cond_true, cond_false] at h ⊢
  case true => exact move_valid (by simp) h
  cases g4 : s.k == 4 <;> rw [g4] at h <;> simp only [cond_true, cond_false] at h ⊢
  case true => exact bor_valid h
  cases g5 : s.k == 5 <;> rw [g5] at h <;> simp only [cond_true, cond_false] at h ⊢
  case true => exact monP_valid h
  cases g6 : s.k == 6 <;> rw [g6] at h <;> simp only [cond_true, cond_false] at h ⊢
  case true => exact quP_valid h
  cases g7 : s.k == 7 <;> rw [g7] at h <;> simp only [cond_true, cond_false] at h ⊢
  case true => exact year_valid h
  cases g8 : s.k == 8 <;> rw [g8] at h <;> simp only [cond_true, cond_false] at h ⊢
  case true => exact buyP_valid h
  cases g9 : s.k == 9 <;> rw [g9] at h <;> simp only [cond_true, cond_false] at h ⊢
  case true => exact sellP_valid h
  cases g10 : s.k == 10 <;> rw [g10] at h <;> simp only [cond_true, cond_false] at h ⊢
  case true => exact mergeP_valid h
  cases g11 : s.k == 11 <;> rw [g11] at h <;> simp only [cond_true, cond_false] at h ⊢
  case true => exact windP_valid h
  simp at h
theorem due_x (b : Bnk) (w : b.Wfb) (s : Stp) (hl : s.l.length ≤ 9223372036854775807) : PostB (stepP b s).1 (stepP b s).2 (run Try.prog (mdT tblB) 58 [.agg (bc b), .agg (sc s)] Heap.none 0) := by
  generalize hr : stepP b s = r
  unfold stepP at hr
  rw [run_eq, show mdT tblB 58 = some .pure from rfl, Option.bind_some, Try.func58]
  cases g0 : s.k == 0
  case true =>
    rw [g0] at hr
    simp only [cond_true, cond_false] at hr
    subst hr
    obtain ⟨b1, n1, w1, c1⟩ := call_post (args := [.agg (bc b), I s.a]) rfl (fun h => rfl) (rfound_x b w s.a) rfl
    simp -implicitDefEqProofs [-frz, Try.f58, g0, c1]
    exact post_plain n1 w1 _ _
  cases g1 : s.k == 1
  case true =>
    rw [g0, g1] at hr
    simp only [cond_true, cond_false] at hr
    subst hr
    obtain ⟨b1, n1, w1, c1⟩ := call_post (args := [.agg (bc b), I s.a, I s.b, I s.c]) rfl (fun h => rfl) (rpay_x b w s.a s.b s.c) rfl
    simp -implicitDefEqProofs [-frz, Try.f58, g0, g1, c1]
    exact post_plain n1 w1 _ _
  cases g2 : s.k == 2
  case true =>
    rw [g0, g1, g2] at hr
    simp only [cond_true, cond_false] at hr
    subst hr
    obtain ⟨b1, n1, w1, c1⟩ := call_post (args := [.agg (bc b), I s.a, I s.b, I s.c]) rfl (fun h => rfl) (rcharge_x b w s.a s.b s.c) rfl
    simp -implicitDefEqProofs [-frz, Try.f58, g0, g1, g2, c1]
    exact post_plain n1 w1 _ _
  cases g3 : s.k == 3
  case true =>
    rw [g0, g1, g2, g3] at hr
    simp only [cond_true, cond_false] at hr
    subst hr
    obtain ⟨b1, n1, w1, c1⟩ := call_post (args := [.agg (bc b), I s.a, I s.b, I s.c]) rfl (fun h => rfl) (rearn_x b w s.a s.b s.c) rfl
    simp -implicitDefEqProofs [-frz, Try.f58, g0, g1, g2, g3, c1]
    exact post_plain n1 w1 _ _
  cases g4 : s.k == 4
  case true =>
    rw [g0, g1, g2, g3, g4] at hr
    simp only [cond_true, cond_false] at hr
    subst hr
    obtain ⟨b1, n1, w1, c1⟩ := call_post (args := [.agg (bc b), I s.a, I s.b]) rfl (fun h => rfl) (rbor_x b w s.a s.b) rfl
    simp -implicitDefEqProofs [-frz, Try.f58, g0, g1, g2, g3, g4, c1]
    exact post_plain n1 w1 _ _
  cases g5 : s.k == 5
  case true =>
    rw [g0, g1, g2, g3, g4, g5] at hr
    simp only [cond_true, cond_false] at hr
    subst hr
    obtain ⟨b1, n1, w1, c1⟩ := call_post (args := [.agg (bc b)]) rfl (fun h => rfl) (rmonth_x b w ) rfl
    simp -implicitDefEqProofs [-frz, Try.f58, g0, g1, g2, g3, g4, g5, c1]
    exact post_plain n1 w1 _ _
  cases g6 : s.k == 6
  case true =>
    rw [g0, g1, g2, g3, g4, g5, g6] at hr
    simp only [cond_true, cond_false] at hr
    subst hr
    obtain ⟨b1, n1, w1, c1⟩ := call_post (args := [.agg (bc b), .ro s.z (ints s.l)]) rfl (fun h => rfl) (rquarter_x b w s.z s.l hl) rfl
    simp -implicitDefEqProofs [-frz, Try.f58, g0, g1, g2, g3, g4, g5, g6, c1]
    exact post_plain n1 w1 _ _
  cases g7 : s.k == 7
  case true =>
    rw [g0, g1, g2, g3, g4, g5, g6, g7] at hr
    simp only [cond_true, cond_false] at hr
    subst hr
    obtain ⟨b1, n1, w1, c1⟩ := call_post (args := [.agg (bc b)]) rfl (fun h => rfl) (ryear_x b w ) rfl
    simp -implicitDefEqProofs [-frz, Try.f58, g0, g1, g2, g3, g4, g5, g6, g7, c1]
    exact post_plain n1 w1 _ _
  cases g8 : s.k == 8
  case true =>
    rw [g0, g1, g2, g3, g4, g5, g6, g7, g8] at hr
    simp only [cond_true, cond_false] at hr
    subst hr
    obtain ⟨b1, n1, w1, c1⟩ := call_post (args := [.agg (bc b), I s.a, I s.b, I s.c]) rfl (fun h => rfl) (rbuy_x b w s.a s.b s.c) rfl
    simp -implicitDefEqProofs [-frz, Try.f58, g0, g1, g2, g3, g4, g5, g6, g7, g8, c1]
    exact post_plain n1 w1 _ _
  cases g9 : s.k == 9
  case true =>
    rw [g0, g1, g2, g3, g4, g5, g6, g7, g8, g9] at hr
    simp only [cond_true, cond_false] at hr
    subst hr
    obtain ⟨b1, n1, w1, c1⟩ := call_post (args := [.agg (bc b), I s.a, I s.b, I s.c]) rfl (fun h => rfl) (rsell_x b w s.a s.b s.c) rfl
    simp -implicitDefEqProofs [-frz, Try.f58, g0, g1, g2, g3, g4, g5, g6, g7, g8, g9, c1]
    exact post_plain n1 w1 _ _
  cases g10 : s.k == 10
  case true =>
    rw [g0, g1, g2, g3, g4, g5, g6, g7, g8, g9, g10] at hr
    simp only [cond_true, cond_false] at hr
    subst hr
    obtain ⟨b1, n1, w1, c1⟩ := call_post (args := [.agg (bc b), I s.a, I s.b]) rfl (fun h => rfl) (rmerge_x b w s.a s.b) rfl
    simp -implicitDefEqProofs [-frz, Try.f58, g0, g1, g2, g3, g4, g5, g6, g7, g8, g9, g10, c1]
    exact post_plain n1 w1 _ _
  cases g11 : s.k == 11
  case true =>
    rw [g0, g1, g2, g3, g4, g5, g6, g7, g8, g9, g10, g11] at hr
    simp only [cond_true, cond_false] at hr
    subst hr
    obtain ⟨b1, n1, w1, c1⟩ := call_post (args := [.agg (bc b), I s.a]) rfl (fun h => rfl) (rwind_x b w s.a) rfl
    simp -implicitDefEqProofs [-frz, Try.f58, g0, g1, g2, g3, g4, g5, g6, g7, g8, g9, g10, g11, c1]
    exact post_plain n1 w1 _ _
  rw [g0, g1, g2, g3, g4, g5, g6, g7, g8, g9, g10, g11] at hr
  simp only [cond_false] at hr
  subst hr
  simp -implicitDefEqProofs [-frz, Try.f58, g0, g1, g2, g3, g4, g5, g6, g7, g8, g9, g10, g11]
  exact post_err _ _ _
end Go.Proofs.Ytdckleaemkcapaa.AM
