/- Texts of the proof: part B58. -/
import Derived.Test.YtdckleaemkcapaaB57
set_option maxHeartbeats 0
set_option linter.unusedSimpArgs false
set_option linter.unusedVariables false
set_option linter.unusedSectionVars false
namespace Go.Proofs.Ytdckleaemkcapaa.AM
open Go Go.Proofs
attribute [local simp] AV.cells okc AV.isBad fieldAddrA ld setCells stA skipV appendA hd makeA bnd sliceA kindA freshA killOk loadsAt newT empT lay_get allocA buildA buildRow builtinA lenA els indexAddrA isNil opA evA lit yldA binA binI unA pickA boolV intV fieldA mk flat lf lf.lfs frz
theorem cells54 : Try.prog.cellsOf 54 = 5 := by kernel_rfl
theorem ty54 {n : Nat} {avs : List AV} (h : TyOk Try.prog (n + 3) 54 avs) : ∃ s : Stp, avs = s.cells ∧ s.l.length ≤ 9223372036854775807 := by
  unfold TyOk at h
  rw [Try.underlying54, cells54] at h
  simp only at h
  obtain ⟨h0, h⟩ := h
  match avs, h0 with
  | [x0, x1, x2, x3, x4], _ =>
  simp [cells3, cells40] at h
  obtain ⟨g0, g1, g2, g3, g4⟩ := h
  obtain ⟨i0, e0, _⟩ := ty3 g0
  obtain ⟨i1, e1, _⟩ := ty3 g1
  obtain ⟨i2, e2, _⟩ := ty3 g2
  obtain ⟨i3, e3, _⟩ := ty3 g3
  obtain ⟨z4, l4, e4, v4, _⟩ := ty40 g4
  cases e0; cases e1; cases e2; cases e3; cases e4
  exact ⟨⟨i0, i1, i2, i3, z4, l4⟩, rfl, v4⟩
theorem arg52 {n : Nat} {x : AV} (h : TyArg Try.prog (n + 4) 52 x) : ∃ (z : Bool) (l : List Stp), x = .ro z (l.map Stp.cells) ∧ l.length ≤ 9223372036854775807 ∧ ∀ s ∈ l, s.l.length ≤ 9223372036854775807 := by
  unfold TyArg at h
  rw [Try.underlying52] at h
  unfold TyOk at h
  rw [Try.underlying52] at h
  obtain ⟨z, es, h1, h2, h3, h4⟩ := h
  obtain ⟨l, rfl, hw⟩ := rows_of (cells := Stp.cells) (W := fun s => s.l.length ≤ 9223372036854775807) (fun r (hr : _ ∧ _) => ty54 hr.2) es h4
  cases h1
  exact ⟨z, l, rfl, by unfold maxLen at h3; simpa using h3, hw⟩
theorem newB_valid {rate infl : Int} (h : newP rate infl = 0) : Valid (newB rate infl) := by
  unfold newP at h
  cases h1 : (outP rate 0 100 || outP infl 0 100) <;> rw [h1] at h <;> simp only [cond_true, cond_false] at h
  case true => cases h
  simp only [Bool.or_eq_false_iff] at h1
  exact ⟨by simp [newB], outP_false.1 h1.1, outP_false.1 h1.2, by simp [newB], fun a ha => by simp [newB] at ha; subst ha; exact shutA_ok, fun a ha => by simp [newB] at ha; subst ha; simp [shutA], by simp [newB], fun e he => by simp [newB] at he⟩
theorem law17 (rate infl : Int) (z : Bool) (l : List Stp) (hl : l.length ≤ 9223372036854775807) (hs : ∀ s ∈ l, s.l.length ≤ 9223372036854775807) : ∃ hp c, run Try.prog (mdT tblB) 17 [I rate, I infl, .ro z (l.map Stp.cells)] Heap.none 0 = some (B true, hp, c) := by
  have kn := known_c
  have r1 := rnew_c rate infl
  have r2 := bnew_c rate infl
  rw [resB_eq] at r1 r2
  have hw : Bnk.Wfb (pickB (newP rate infl) (newB rate infl)) := pick_sized (newB_sized _ _)
  have hv : newP rate infl = 0 → Valid (pickB (newP rate infl) (newB rate infl)) := by
    intro h
    have := newB_valid h
    rw [h]
    exact this
  revert r1 r2 hw hv
  generalize pickB (newP rate infl) (newB rate infl) = n0
  generalize newP rate infl = e
  intro r1 r2 hw hv
  rw [run_eq, show mdT tblB 17 = some .pure from rfl, Option.bind_some, Try.func17]
  cases g0 : decide (100 < (l.length : Int))
  case true => simp -implicitDefEqProofs [Try.f17, r1, r2, kn, g0, -decide_eq_true_eq, -decide_eq_false_iff_not]
  have hl100 := of_decide_eq_false g0
  simp -implicitDefEqProofs [Try.f17, r1, r2, kn, g0, Option.bind_assoc, -decide_eq_true_eq, -decide_eq_false_iff_not]
  refine count_or (R := fun o => ∃ hp c, o = some (B true, hp, c)) l.length (fun j s => ∃ b c : Bnk, b.nrm = c.nrm ∧ b.Wfb ∧ c.Wfb ∧ (e = 0 → Valid b) ∧ s.h 0 = some ⟨5, [bc c]⟩ ∧ s.h 1 = some ⟨5, [bc b]⟩ ∧ 1 < s.c ∧ s.t 2 = .ro z (l.map Stp.cells) ∧ s.t 7 = .ptr 0 0 0 ∧ s.t 9 = .ptr 1 0 0 ∧ s.t 10 = E e ∧ s.t 11 = I j) _ ?_ ?_ ?_
  · simp
    exact ⟨n0, n0, rfl, hw, hw, hv, by simp⟩
  · rintro j ⟨t, h, d⟩ ⟨b, c, hbc, wb, wc, vb, h0, h1, hd, t2, t7, t9, t10, t11⟩ hj
    simp only at h0 h1 hd t2 t7 t9 t10 t11
    have k1 : decide ((j : Int) < (l.length : Int)) = true := decide_eq_true (by omega)
    by_cases he : e = 0
    case neg =>
      right
      have e1 : (e == 0) = false := by simpa using he
      simp -implicitDefEqProofs [h0, h1, t2, t7, t9, t10, t11, hj, k1, e1, kn, -decide_eq_true_eq, -decide_eq_false_iff_not]
    have e1 : (e == 0) = true := by simpa using he
    cases g1 : decide (300 < (l[j].l.length : Int))
    case true =>
      right
      simp -implicitDefEqProofs [h0, h1, t2, t7, t9, t10, t11, hj, k1, e1, kn, g1, Stp.cells, -decide_eq_true_eq, -decide_eq_false_iff_not]
    left
    obtain ⟨x1, nx1, wx1, cx1⟩ := call_post (args := [.agg (bc b), .agg (sc l[j])]) rfl (fun h => rfl) (play_x b wb l[j] (hs _ (List.getElem_mem hj))) rfl
    obtain ⟨y1, ny1, wy1, cy1⟩ := call_post (args := [.agg (bc c), .agg (sc l[j])]) rfl (fun h => rfl) (due_x c wc l[j] (hs _ (List.getElem_mem hj))) rfl
    have sm := stepP_same hbc l[j]
    rw [← sm.e] at cy1
    have hxy : x1.nrm = y1.nrm := by rw [nx1, sm.n, ny1]
    have ss := same_c x1 y1 hxy wx1
    have wj : IntKind.i64.wrap ((j : Int) + 1) = ((j + 1 : Nat) : Int) := wrap_succ (by omega)
    have n1 : ¬ (0 = d) := by omega
    have n2 : ¬ (d = 0) := by omega
    have n3 : ¬ (1 = d) := by omega
    have n4 : ¬ (d = 1) := by omega
    have n5 : ¬ (0 = d + 1) := by omega
    have n6 : ¬ (1 = d + 1) := by omega
    have n7 : ¬ (d + 1 = 0) := by omega
    have n8 : ¬ (d + 1 = 1) := by omega
    have n9 : ¬ (d ≤ 0) := by omega
    have m1 : ¬ (d ≤ 1) := by omega
    have m2 : ¬ (d + 1 ≤ 0) := by omega
    have m3 : ¬ (d + 1 ≤ 1) := by omega
    have m4 : ¬ (d + 1 ≤ d) := by omega
    by_cases hz : (stepP b l[j]).1 = 0
    · have vx : Valid x1 := valid_same nx1 (stepP_valid hz)
      have hval := bval_c x1 wx1
      rw [valP_of vx] at hval
      rw [hz] at cx1 cy1
      simp -implicitDefEqProofs [h0, h1, t2, t7, t9, t10, t11, hj, k1, e1, g1, cx1, cy1, ss, hval, wj, n1, n2, n3, n4, n5, n6, n7, n8, n9, m1, m2, m3, m4, Stp.cells, -decide_eq_true_eq, -decide_eq_false_iff_not]
      refine ⟨x1, y1, hxy, wx1, wy1, fun _ => vx, ?_⟩
      simp
      first | done | omega | exact wj | exact ⟨by omega, wj⟩
    · have hz1 : ((stepP b l[j]).1 != 0) = true := by simpa using hz
      simp -implicitDefEqProofs [h0, h1, t2, t7, t9, t10, t11, hj, k1, e1, g1, cx1, cy1, hz1, wj, n1, n2, n3, n4, n5, n6, n7, n8, n9, m1, m2, m3, m4, Stp.cells, -decide_eq_true_eq, -decide_eq_false_iff_not]
      refine ⟨b, c, hbc, wb, wc, fun _ => vb he, ?_⟩
      simp
      first | done | omega | exact wj | exact ⟨by omega, wj⟩
  · rintro ⟨t, h, d⟩ ⟨b, c, hbc, wb, wc, vb, h0, h1, hd, t2, t7, t9, t10, t11⟩
    simp only at h0 h1 hd t2 t7 t9 t10 t11
    have k1 : decide ((l.length : Int) < (l.length : Int)) = false := decide_eq_false (by omega)
    simp -implicitDefEqProofs [h0, h1, t2, t7, t9, t10, t11, k1, kn, -decide_eq_true_eq, -decide_eq_false_iff_not]
theorem pure17 (x0 x1 x2 : AV) (h0 : TyArg Try.prog 8 3 x0) (h1 : TyArg Try.prog 8 3 x1) (h2 : TyArg Try.prog 8 52 x2) : ∃ h c, run Try.prog (mdT tblB) 17 [x0, x1, x2] Heap.none 0 = some (B true, h, c) := by
  obtain ⟨a, rfl, _⟩ := arg3 h0
  obtain ⟨b, rfl, _⟩ := arg3 h1
  obtain ⟨z, l, rfl, hl, hs⟩ := arg52 h2
  exact law17 a b z l hl hs
end Go.Proofs.Ytdckleaemkcapaa.AM
