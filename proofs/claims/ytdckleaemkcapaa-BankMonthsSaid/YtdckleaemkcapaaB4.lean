/- Texts of the proof: part B4. -/
import Derived.Test.YtdckleaemkcapaaB3
set_option maxHeartbeats 0
set_option linter.unusedSimpArgs false
set_option linter.unusedVariables false
set_option linter.unusedSectionVars false
namespace Go.Proofs.Ytdckleaemkcapaa.AM
open Go Go.Proofs
attribute [local simp] AV.cells okc AV.isBad fieldAddrA ld setCells stA skipV appendA hd makeA bnd sliceA kindA freshA killOk loadsAt newT empT lay_get allocA buildA buildRow builtinA lenA els indexAddrA isNil opA evA lit yldA binA binI unA pickA boolV intV fieldA mk flat lf lf.lfs frz
def partP (a : Acc) (p : Int) : Bool := outP p (-1) 11 || (!a.opn && p != -1)
def lastP (n : Int) : Bool := outP n (-1000000000000) 1000000000000
def badP (a : Acc) : Bool := ((a.parts.length : Int) != 4) || outP a.cash (-1000000000000) 1000000000000 || outP a.loan 0 1000000000000 || a.parts.any (partP a) || a.last.any lastP || (!a.opn && (a.cash != 0 || a.loan != 0 || (a.last.length : Int) != 0))
theorem bad_ev (a : Acc) (w : a.Wfa) : ∃ h c, run Try.prog (mdT tblB) 60 [a.av] Heap.none 0 = some (B (badP a), h, c) := by
  have hm : a.last.length ≤ 9223372036854775807 := w.ll
  rw [run_eq, show mdT tblB 60 = some .pure from rfl, Option.bind_some, Try.func60]
  generalize hv : badP a = v
  unfold badP at hv
  unfold Acc.av Acc.cells
  cases g0 : ((a.parts.length : Int) != 4)
  case true =>
    rw [g0] at hv; simp only [Bool.true_or] at hv
    simp -implicitDefEqProofs [Try.f60, g0, ← hv]
  cases g1 : outP a.cash (-1000000000000) 1000000000000
  case true =>
    rw [g0, g1] at hv; simp only [Bool.true_or, Bool.false_or] at hv
    simp -implicitDefEqProofs [Try.f60, g0, g1, ← hv]
  cases g2 : outP a.loan 0 1000000000000
  case true =>
    rw [g0, g1, g2] at hv; simp only [Bool.true_or, Bool.false_or] at hv
    simp -implicitDefEqProofs [Try.f60, g0, g1, g2, ← hv]
  rw [g0, g1, g2] at hv; simp only [Bool.false_or] at hv
  have h4 : a.parts.length = 4 := by simp at g0; omega
  simp -implicitDefEqProofs [Try.f60, g0, g1, g2, Option.bind_assoc]
  refine scan_list (R := fun o => ∃ h c, o = some (B v, h, c)) a.parts (partP a) (fun j s => s.h 0 = some ⟨5, [[B a.opn, I a.cash, I a.loan, .ro a.np (ints a.parts), .ro a.nl (ints a.last)]]⟩ ∧ s.t 1 = .ptr 0 0 0 ∧ s.t 3 = I j) _ ?_ ?_ ?_ ?_
  · simp
  · rintro j ⟨t, h, c⟩ ⟨h0, t1, t3⟩ hj hp
    simp only at h0 t1 t3
    have k1 : decide ((j : Int) < 4) = true := by simp; omega
    unfold partP at hp
    cases p0 : outP a.parts[j] (-1) 11
    case true => rw [p0] at hp; simp at hp
    rw [p0] at hp; simp only [Bool.false_or] at hp
    cases p1 : a.opn
    · rw [p1] at hp; simp only [Bool.not_false, Bool.true_and] at hp
      simp -implicitDefEqProofs [h0, t1, t3, hj, k1, p0, p1, hp, -decide_eq_true_eq]
      exact wrap_succ (by omega)
    · simp -implicitDefEqProofs [h0, t1, t3, hj, k1, p0, p1, -decide_eq_true_eq]
      exact wrap_succ (by omega)
  · rintro j ⟨t, h, c⟩ ⟨h0, t1, t3⟩ hj hp ha
    simp only at h0 t1 t3
    rw [ha] at hv; simp only [Bool.true_or] at hv
    have k1 : decide ((j : Int) < 4) = true := by simp; omega
    unfold partP at hp
    cases p0 : outP a.parts[j] (-1) 11
    · rw [p0] at hp; simp only [Bool.false_or, Bool.and_eq_true, Bool.not_eq_true'] at hp
      simp -implicitDefEqProofs [h0, t1, t3, hj, k1, p0, hp, ← hv, -decide_eq_true_eq]
    · simp -implicitDefEqProofs [h0, t1, t3, hj, k1, p0, ← hv, -decide_eq_true_eq]
  · rintro ⟨t, h, c⟩ ⟨h0, t1, t3⟩ ha
    simp only at h0 t1 t3
    rw [ha] at hv; simp only [Bool.false_or] at hv
    rw [h4] at t3
    simp -implicitDefEqProofs [h0, t1, t3, Option.bind_assoc]
    refine scan_list (R := fun o => ∃ h c, o = some (B v, h, c)) a.last lastP (fun j s => s.h 0 = some ⟨5, [[B a.opn, I a.cash, I a.loan, .ro a.np (ints a.parts), .ro a.nl (ints a.last)]]⟩ ∧ s.t 1 = .ptr 0 0 0 ∧ s.t 4 = I j) _ ?_ ?_ ?_ ?_
    · simp [h0, t1]
    · rintro j ⟨t, h, c⟩ ⟨h0, t1, t3⟩ hj hp
      simp only at h0 t1 t3
      unfold lastP at hp
      simp -implicitDefEqProofs [h0, t1, t3, hj, hp]
      exact wrap_succ (by omega)
    · rintro j ⟨t, h, c⟩ ⟨h0, t1, t3⟩ hj hp ha
      simp only at h0 t1 t3
      rw [ha] at hv; simp only [Bool.true_or] at hv
      unfold lastP at hp
      simp -implicitDefEqProofs [h0, t1, t3, hj, hp, ← hv]
    · rintro ⟨t, h, c⟩ ⟨h0, t1, t3⟩ ha
      simp only at h0 t1 t3
      rw [ha] at hv; simp only [Bool.false_or] at hv
      cases p0 : a.opn
      case true =>
        rw [p0] at hv
        simp only [Bool.not_true, Bool.false_and] at hv
        simp -implicitDefEqProofs [h0, t1, t3, p0, ← hv]
      cases p1 : (a.cash != 0)
      case true =>
        rw [p0, p1] at hv
        simp only [Bool.not_false, Bool.true_and, Bool.true_or] at hv
        simp -implicitDefEqProofs [h0, t1, t3, p0, p1, ← hv]
      cases p2 : (a.loan != 0)
      case true =>
        rw [p0, p1, p2] at hv
        simp only [Bool.not_false, Bool.true_and, Bool.true_or, Bool.false_or] at hv
        simp -implicitDefEqProofs [h0, t1, t3, p0, p1, p2, ← hv]
      rw [p0, p1, p2] at hv
      simp only [Bool.not_false, Bool.true_and, Bool.false_or] at hv
      rw [← hv]
      simp -implicitDefEqProofs [h0, t1, t3, p0, p1, p2]
@[simp] theorem bad_c (a : Acc) (w : a.Wfa) (h : Heap) (c : Nat) : callA (mdT tblB) (run Try.prog (mdT tblB)) 60 [a.av] h c = some (B (badP a), h, c) := by
  obtain ⟨h', c', e⟩ := bad_ev a w
  exact call_of rfl rfl e rfl rfl
theorem sound_ev (a : Acc) (w : a.Wfa) : ∃ h c, run Try.prog (mdT tblB) 62 [a.av] Heap.none 0 = some (B (!badP a), h, c) := by
  have hm : a.parts.length ≤ 9223372036854775807 := w.lp
  have hc := fun (h : Heap) (c : Nat) => containsf_c a.nl a.last w.ll 87 [] lastP h c (fun n => sound1_c n h c)
  rw [run_eq, show mdT tblB 62 = some .pure from rfl, Option.bind_some, Try.func62]
  generalize hv : badP a = v
  unfold badP at hv
  unfold Acc.av Acc.cells
  cases g1 : outP a.cash (-1000000000000) 1000000000000
  case true =>
    rw [g1] at hv; simp only [Bool.true_or, Bool.or_true] at hv
    simp -implicitDefEqProofs [Try.f62, g1, ← hv]
  cases g2 : outP a.loan 0 1000000000000
  case true =>
    rw [g1, g2] at hv; simp only [Bool.true_or, Bool.or_true] at hv
    simp -implicitDefEqProofs [Try.f62, g1, g2, ← hv]
  cases g0 : ((a.parts.length : Int) != 4)
  case true =>
    rw [g0] at hv; simp only [Bool.true_or] at hv
    simp -implicitDefEqProofs [Try.f62, g0, g1, g2, ← hv]
  cases g3 : a.last.any lastP
  case true =>
    rw [g3] at hv; simp only [Bool.true_or, Bool.or_true] at hv
    simp -implicitDefEqProofs [Try.f62, g0, g1, g2, g3, hc, ← hv]
  rw [g0, g1, g2, g3] at hv; simp only [Bool.false_or, Bool.or_false] at hv
  simp -implicitDefEqProofs [Try.f62, g0, g1, g2, g3, hc, Option.bind_assoc]
  refine scan_list (R := fun o => ∃ h c, o = some (B (!v), h, c)) a.parts (partP a) (fun j s => s.h 0 = some ⟨5, [[B a.opn, I a.cash, I a.loan, .ro a.np (ints a.parts), .ro a.nl (ints a.last)]]⟩ ∧ s.t 1 = .ptr 0 0 0 ∧ s.t 27 = .ro a.np (ints a.parts) ∧ s.t 28 = I a.parts.length ∧ s.t 29 = I j) _ ?_ ?_ ?_ ?_
  · simp
  · rintro j ⟨t, h, c⟩ ⟨h0, t1, t27, t28, t3⟩ hj hp
    simp only at h0 t1 t27 t28 t3
    unfold partP outP at hp
    simp only [Bool.or_eq_false_iff] at hp
    obtain ⟨⟨p0, p1⟩, p2⟩ := hp
    have p1' : decide (12 ≤ a.parts[j]) = false := by simp at p1 ⊢; omega
    cases p3 : a.opn
    · rw [p3] at p2; simp only [Bool.not_false, Bool.true_and] at p2
      simp -implicitDefEqProofs [h0, t1, t27, t28, t3, hj, p0, p1', p2, p3, -decide_eq_true_eq, -decide_eq_false_iff_not]
      exact wrap_succ (by omega)
    · simp -implicitDefEqProofs [h0, t1, t27, t28, t3, hj, p0, p1', p3, -decide_eq_true_eq, -decide_eq_false_iff_not]
      exact wrap_succ (by omega)
  · rintro j ⟨t, h, c⟩ ⟨h0, t1, t27, t28, t3⟩ hj hp ha
    simp only at h0 t1 t27 t28 t3
    rw [ha] at hv; simp only [Bool.true_or] at hv
    unfold partP outP at hp
    cases p0 : decide (a.parts[j] < -1)
    case true => simp -implicitDefEqProofs [h0, t1, t27, t28, t3, hj, p0, ← hv, -decide_eq_true_eq, -decide_eq_false_iff_not]
    cases p1 : decide (12 ≤ a.parts[j])
    case true => simp -implicitDefEqProofs [h0, t1, t27, t28, t3, hj, p0, p1, ← hv, -decide_eq_true_eq, -decide_eq_false_iff_not]
    have p1' : decide (11 < a.parts[j]) = false := by simp at p1 ⊢; omega
    rw [p0, p1'] at hp
    simp only [Bool.false_or, Bool.or_false, Bool.and_eq_true, Bool.not_eq_true'] at hp
    simp -implicitDefEqProofs [h0, t1, t27, t28, t3, hj, p0, p1, hp, ← hv, -decide_eq_true_eq, -decide_eq_false_iff_not]
  · rintro ⟨t, h, c⟩ ⟨h0, t1, t27, t28, t3⟩ ha
    simp only at h0 t1 t27 t28 t3
    rw [ha] at hv; simp only [Bool.false_or] at hv
    cases p0 : a.opn
    case true =>
      rw [p0] at hv
      simp only [Bool.not_true, Bool.false_and] at hv
      simp -implicitDefEqProofs [h0, t1, t27, t28, t3, p0, ← hv]
    cases p1 : (a.cash == 0)
    case false =>
      have p1' : (a.cash != 0) = true := by unfold bne; rw [p1]; rfl
      rw [p0, p1'] at hv
      simp only [Bool.not_false, Bool.true_and, Bool.true_or] at hv
      simp -implicitDefEqProofs [h0, t1, t27, t28, t3, p0, p1, ← hv]
    have p1' : (a.cash != 0) = false := by unfold bne; rw [p1]; rfl
    cases p2 : (a.loan == 0)
    case false =>
      have p2' : (a.loan != 0) = true := by unfold bne; rw [p2]; rfl
      rw [p0, p1', p2'] at hv
      simp only [Bool.not_false, Bool.true_and, Bool.true_or, Bool.false_or] at hv
      simp -implicitDefEqProofs [h0, t1, t27, t28, t3, p0, p1, p2, ← hv]
    have p2' : (a.loan != 0) = false := by unfold bne; rw [p2]; rfl
    rw [p0, p1', p2'] at hv
    simp only [Bool.not_false, Bool.true_and, Bool.false_or] at hv
    rw [← hv]
    simp -implicitDefEqProofs [h0, t1, t27, t28, t3, p0, p1, p2, bne]
@[simp] theorem sound_c (a : Acc) (w : a.Wfa) (h : Heap) (c : Nat) : callA (mdT tblB) (run Try.prog (mdT tblB)) 62 [a.av] h c = some (B (!badP a), h, c) := by
  obtain ⟨h', c', e⟩ := sound_ev a w
  exact call_of rfl rfl e rfl rfl
end Go.Proofs.Ytdckleaemkcapaa.AM
