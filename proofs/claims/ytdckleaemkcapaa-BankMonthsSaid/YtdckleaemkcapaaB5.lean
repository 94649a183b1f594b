/- Texts of the proof: part B5. -/
import Derived.Test.YtdckleaemkcapaaB4
set_option maxHeartbeats 0
set_option linter.unusedSimpArgs false
set_option linter.unusedVariables false
set_option linter.unusedSectionVars false
namespace Go.Proofs.Ytdckleaemkcapaa.AM
open Go Go.Proofs
attribute [local simp] AV.cells okc AV.isBad fieldAddrA ld setCells stA skipV appendA hd makeA bnd sliceA kindA freshA killOk loadsAt newT empT lay_get allocA buildA buildRow builtinA lenA els indexAddrA isNil opA evA lit yldA binA binI unA pickA boolV intV fieldA mk flat lf lf.lfs frz
abbrev ac (a : Acc) : List AV := [B a.opn, I a.cash, I a.loan, .ro a.np (ints a.parts), .ro a.nl (ints a.last)]
abbrev ec (e : Ent) : List AV := [I e.co, I e.kd, I e.am]
abbrev bc (b : Bnk) : List AV := [.ro b.na (b.accs.map Acc.cells), I b.rate, I b.infl, I b.idx, .ro b.nb (b.book.map Ent.cells)]
theorem bad_x (a : Acc) (w : a.Wfa) (h : Heap) (c : Nat) : callA (mdT tblB) (run Try.prog (mdT tblB)) 60 [.agg (ac a)] h c = some (B (badP a), h, c) := bad_c a w h c
theorem sound_x (a : Acc) (w : a.Wfa) (h : Heap) (c : Nat) : callA (mdT tblB) (run Try.prog (mdT tblB)) 62 [.agg (ac a)] h c = some (B (!badP a), h, c) := sound_c a w h c
def farA (a : Acc) : Bool := decide (300 < (a.parts.length : Int)) || decide (300 < (a.last.length : Int))
def farP (b : Bnk) : Bool := decide (30000 < (b.book.length : Int)) || decide (300 < (b.accs.length : Int)) || b.accs.any farA
theorem far_ev (b : Bnk) (w : b.Wfb) : ∃ h c, run Try.prog (mdT tblB) 19 [b.av] Heap.none 0 = some (B (farP b), h, c) := by
  have hm : b.accs.length ≤ 9223372036854775807 := w.la
  rw [run_eq, show mdT tblB 19 = some .pure from rfl, Option.bind_some, Try.func19]
  generalize hv : farP b = v
  unfold farP at hv
  unfold Bnk.av
  cases g0 : decide (30000 < (b.book.length : Int))
  case true =>
    rw [g0] at hv; simp only [Bool.true_or] at hv
    simp -implicitDefEqProofs [Try.f19, g0, ← hv, -decide_eq_true_eq, -decide_eq_false_iff_not]
  cases g1 : decide (300 < (b.accs.length : Int))
  case true =>
    rw [g0, g1] at hv; simp only [Bool.true_or, Bool.false_or] at hv
    simp -implicitDefEqProofs [Try.f19, g0, g1, ← hv, -decide_eq_true_eq, -decide_eq_false_iff_not]
  rw [g0, g1] at hv; simp only [Bool.false_or] at hv
  simp -implicitDefEqProofs [Try.f19, g0, g1, Option.bind_assoc, -decide_eq_true_eq, -decide_eq_false_iff_not]
  refine scan_list (R := fun o => ∃ h c, o = some (B v, h, c)) b.accs farA (fun j s => s.h 0 = some ⟨5, [bc b]⟩ ∧ s.t 1 = .ptr 0 0 0 ∧ s.t 3 = I j) _ ?_ ?_ ?_ ?_
  · simp
  · rintro j ⟨t, h, c⟩ ⟨h0, t1, t3⟩ hj hp
    simp only at h0 t1 t3
    unfold farA at hp
    simp only [Bool.or_eq_false_iff] at hp
    obtain ⟨p0, p1⟩ := hp
    have k1 : decide ((j : Int) < (b.accs.length : Int)) = true := decide_eq_true (by omega)
    simp -implicitDefEqProofs [h0, t1, t3, hj, p0, p1, k1, Acc.cells, -decide_eq_true_eq, -decide_eq_false_iff_not]
    exact wrap_succ (by omega)
  · rintro j ⟨t, h, c⟩ ⟨h0, t1, t3⟩ hj hp ha
    simp only at h0 t1 t3
    rw [ha] at hv
    have k1 : decide ((j : Int) < (b.accs.length : Int)) = true := decide_eq_true (by omega)
    unfold farA at hp
    cases p0 : decide (300 < (b.accs[j].parts.length : Int))
    · rw [p0] at hp; simp only [Bool.false_or] at hp
      simp -implicitDefEqProofs [h0, t1, t3, hj, p0, hp, k1, ← hv, Acc.cells, -decide_eq_true_eq, -decide_eq_false_iff_not]
    · simp -implicitDefEqProofs [h0, t1, t3, hj, p0, k1, ← hv, Acc.cells, -decide_eq_true_eq, -decide_eq_false_iff_not]
  · rintro ⟨t, h, c⟩ ⟨h0, t1, t3⟩ ha
    simp only at h0 t1 t3
    rw [ha] at hv
    have k1 : decide ((b.accs.length : Int) < (b.accs.length : Int)) = false := decide_eq_false (by omega)
    simp -implicitDefEqProofs [h0, t1, t3, k1, ← hv, -decide_eq_true_eq, -decide_eq_false_iff_not]
theorem far_c (b : Bnk) (w : b.Wfb) (h : Heap) (c : Nat) : callA (mdT tblB) (run Try.prog (mdT tblB)) 19 [.agg (bc b)] h c = some (B (farP b), h, c) := by
  obtain ⟨h', c', e⟩ := far_ev b w
  exact call_of rfl rfl e rfl rfl
def longA (a : Acc) : Bool := decide (24 < (a.last.length : Int))
def entP (e : Ent) : Bool := outP e.co 0 11 || outP e.kd 0 9 || (e.am == 0) || outP e.am (-1000000000000) 1000000000000
def headP (b : Bnk) : Bool := ((b.accs.length : Int) != 12) || outP b.rate 0 100 || outP b.infl 0 100 || outP b.idx 65536 262144
def valP (b : Bnk) : Int := bif decide (20000 < (b.book.length : Int)) then 4 else bif b.accs.any longA then 4 else bif headP b then 1 else bif b.accs.any badP then 1 else bif b.book.any entP then 1 else 0
theorem rval_ev (b : Bnk) (w : b.Wfb) : ∃ h c, run Try.prog (mdT tblB) 21 [b.av] Heap.none 0 = some (E (valP b), h, c) := by
  rw [run_eq, show mdT tblB 21 = some .pure from rfl, Option.bind_some, Try.func21]
  have hm : b.accs.length ≤ 9223372036854775807 := w.la
  have hm2 : b.book.length ≤ 9223372036854775807 := w.lb
  generalize hv : valP b = v
  unfold valP at hv
  unfold Bnk.av
  cases g0 : decide (20000 < (b.book.length : Int))
  case true =>
    rw [g0] at hv; simp only [cond_true] at hv
    simp -implicitDefEqProofs [Try.f21, g0, ← hv, -decide_eq_true_eq, -decide_eq_false_iff_not]
  rw [g0] at hv; simp only [cond_false] at hv
  simp -implicitDefEqProofs [Try.f21, g0, Option.bind_assoc, -decide_eq_true_eq, -decide_eq_false_iff_not]
  refine scan_list (R := fun o => ∃ h c, o = some (E v, h, c)) b.accs longA (fun j s => s.h 0 = some ⟨5, [bc b]⟩ ∧ 0 < s.c ∧ s.t 1 = .ptr 0 0 0 ∧ s.t 3 = I j) _ ?_ ?_ ?_ ?_
  · simp
  · rintro j ⟨t, h, c⟩ ⟨h0, hc, t1, t3⟩ hj hp
    simp only at h0 hc t1 t3
    have n1 : ¬ (0 = c) := by omega
    have n2 : ¬ (c = 0) := by omega
    have k1 : decide ((j : Int) < (b.accs.length : Int)) = true := decide_eq_true (by omega)
    unfold longA at hp
    simp -implicitDefEqProofs [n1, n2, h0, t1, t3, hj, k1, hp, Acc.cells, -decide_eq_true_eq, -decide_eq_false_iff_not]
    first | exact ⟨by omega, wrap_succ (by omega)⟩ | exact wrap_succ (by omega)
  · rintro j ⟨t, h, c⟩ ⟨h0, hc, t1, t3⟩ hj hp ha
    simp only at h0 hc t1 t3
    have n1 : ¬ (0 = c) := by omega
    have n2 : ¬ (c = 0) := by omega
    have k1 : decide ((j : Int) < (b.accs.length : Int)) = true := decide_eq_true (by omega)
    rw [ha] at hv; simp only [cond_true] at hv
    unfold longA at hp
    simp -implicitDefEqProofs [n1, n2, h0, t1, t3, hj, k1, hp, ← hv, Acc.cells, -decide_eq_true_eq, -decide_eq_false_iff_not]
  · rintro ⟨t, h, c⟩ ⟨h0, hc, t1, t3⟩ ha
    simp only at h0 hc t1 t3
    have n1 : ¬ (0 = c) := by omega
    have n2 : ¬ (c = 0) := by omega
    have k1 : decide ((b.accs.length : Int) < (b.accs.length : Int)) = false := decide_eq_false (by omega)
    rw [ha] at hv; simp only [cond_false] at hv
    unfold headP at hv
    cases g1 : ((b.accs.length : Int) != 12)
    case true =>
      rw [g1] at hv; simp only [Bool.true_or, Bool.or_true, Bool.false_or, cond_true] at hv
      simp -implicitDefEqProofs [n1, n2, h0, t1, t3, k1, g1, ← hv, -decide_eq_true_eq, -decide_eq_false_iff_not]
    cases g2 : (outP b.rate 0 100)
    case true =>
      rw [g1, g2] at hv; simp only [Bool.true_or, Bool.or_true, Bool.false_or, cond_true] at hv
      simp -implicitDefEqProofs [n1, n2, h0, t1, t3, k1, g1, g2, ← hv, -decide_eq_true_eq, -decide_eq_false_iff_not]
    cases g3 : (outP b.infl 0 100)
    case true =>
      rw [g1, g2, g3] at hv; simp only [Bool.true_or, Bool.or_true, Bool.false_or, cond_true] at hv
      simp -implicitDefEqProofs [n1, n2, h0, t1, t3, k1, g1, g2, g3, ← hv, -decide_eq_true_eq, -decide_eq_false_iff_not]
    cases g4 : outP b.idx 65536 262144
    case true =>
      rw [g1, g2, g3, g4] at hv; simp only [Bool.true_or, Bool.or_true, Bool.false_or, cond_true] at hv
      simp -implicitDefEqProofs [n1, n2, h0, t1, t3, k1, g1, g2, g3, g4, ← hv, -decide_eq_true_eq, -decide_eq_false_iff_not]
    rw [g1, g2, g3, g4] at hv; simp only [Bool.false_or, cond_false] at hv
    simp -implicitDefEqProofs [n1, n2, h0, t1, t3, k1, g1, g2, g3, g4, Option.bind_assoc, -decide_eq_true_eq, -decide_eq_false_iff_not]
    refine scan_list (R := fun o => ∃ h c, o = some (E v, h, c)) b.accs badP (fun j s => s.h 0 = some ⟨5, [bc b]⟩ ∧ 0 < s.c ∧ s.t 1 = .ptr 0 0 0 ∧ s.t 4 = I j) _ ?_ ?_ ?_ ?_
    · simp [h0, hc, t1, t3]
    · rintro j ⟨t, h, c⟩ ⟨h0, hc, t1, t3⟩ hj hp
      simp only at h0 hc t1 t3
      have n1 : ¬ (0 = c) := by omega
      have n2 : ¬ (c = 0) := by omega
      have k1 : decide ((j : Int) < (b.accs.length : Int)) = true := decide_eq_true (by omega)
      have hb := fun h c => bad_x b.accs[j] (w.accs _ (List.getElem_mem hj)) h c
      simp -implicitDefEqProofs [n1, n2, h0, t1, t3, hj, k1, hb, hp, Acc.cells, -decide_eq_true_eq, -decide_eq_false_iff_not]
      first | exact ⟨by omega, wrap_succ (by omega)⟩ | exact wrap_succ (by omega)
    · rintro j ⟨t, h, c⟩ ⟨h0, hc, t1, t3⟩ hj hp ha
      simp only at h0 hc t1 t3
      have n1 : ¬ (0 = c) := by omega
      have n2 : ¬ (c = 0) := by omega
      have k1 : decide ((j : Int) < (b.accs.length : Int)) = true := decide_eq_true (by omega)
      rw [ha] at hv; simp only [cond_true] at hv
      have hb := fun h c => bad_x b.accs[j] (w.accs _ (List.getElem_mem hj)) h c
      simp -implicitDefEqProofs [n1, n2, h0, t1, t3, hj, k1, hb, hp, ← hv, Acc.cells, -decide_eq_true_eq, -decide_eq_false_iff_not]
    · rintro ⟨t, h, c⟩ ⟨h0, hc, t1, t3⟩ ha
      simp only at h0 hc t1 t3
      have n1 : ¬ (0 = c) := by omega
      have n2 : ¬ (c = 0) := by omega
      have k1 : decide ((b.accs.length : Int) < (b.accs.length : Int)) = false := decide_eq_false (by omega)
      rw [ha] at hv; simp only [cond_false] at hv
      simp -implicitDefEqProofs [n1, n2, h0, t1, t3, k1, Option.bind_assoc, -decide_eq_true_eq, -decide_eq_false_iff_not]
      refine scan_list (R := fun o => ∃ h c, o = some (E v, h, c)) b.book entP (fun j s => s.h 0 = some ⟨5, [bc b]⟩ ∧ 0 < s.c ∧ s.t 1 = .ptr 0 0 0 ∧ s.t 5 = I j) _ ?_ ?_ ?_ ?_
      · simp [h0, hc, t1, t3]
      · rintro j ⟨t, h, c⟩ ⟨h0, hc, t1, t3⟩ hj hp
        simp only at h0 hc t1 t3
        have n1 : ¬ (0 = c) := by omega
        have n2 : ¬ (c = 0) := by omega
        have k1 : decide ((j : Int) < (b.book.length : Int)) = true := decide_eq_true (by omega)
        unfold entP at hp
        simp only [Bool.or_eq_false_iff] at hp
        obtain ⟨⟨⟨p0, p1⟩, p2⟩, p3⟩ := hp
        simp -implicitDefEqProofs [n1, n2, h0, t1, t3, hj, k1, p0, p1, p2, p3, Ent.cells, -decide_eq_true_eq, -decide_eq_false_iff_not]
        first | exact ⟨by omega, wrap_succ (by omega)⟩ | exact wrap_succ (by omega)
      · rintro j ⟨t, h, c⟩ ⟨h0, hc, t1, t3⟩ hj hp ha
        simp only at h0 hc t1 t3
        have n1 : ¬ (0 = c) := by omega
        have n2 : ¬ (c = 0) := by omega
        have k1 : decide ((j : Int) < (b.book.length : Int)) = true := decide_eq_true (by omega)
        rw [ha] at hv; simp only [cond_true] at hv
        unfold entP at hp
        cases p0 : (outP b.book[j].co 0 11)
        case true => simp -implicitDefEqProofs [n1, n2, h0, t1, t3, hj, k1, p0, ← hv, Ent.cells, -decide_eq_true_eq, -decide_eq_false_iff_not]
        cases p1 : (outP b.book[j].kd 0 9)
        case true => simp -implicitDefEqProofs [n1, n2, h0, t1, t3, hj, k1, p0, p1, ← hv, Ent.cells, -decide_eq_true_eq, -decide_eq_false_iff_not]
        cases p2 : (b.book[j].am == 0)
        case true => simp -implicitDefEqProofs [n1, n2, h0, t1, t3, hj, k1, p0, p1, p2, ← hv, Ent.cells, -decide_eq_true_eq, -decide_eq_false_iff_not]
        rw [p0, p1, p2] at hp; simp only [Bool.false_or] at hp
        simp -implicitDefEqProofs [n1, n2, h0, t1, t3, hj, k1, p0, p1, p2, hp, ← hv, Ent.cells, -decide_eq_true_eq, -decide_eq_false_iff_not]
      · rintro ⟨t, h, c⟩ ⟨h0, hc, t1, t3⟩ ha
        simp only at h0 hc t1 t3
        have n1 : ¬ (0 = c) := by omega
        have n2 : ¬ (c = 0) := by omega
        have k1 : decide ((b.book.length : Int) < (b.book.length : Int)) = false := decide_eq_false (by omega)
        rw [ha] at hv; simp only [cond_false] at hv
        simp -implicitDefEqProofs [n1, n2, h0, t1, t3, k1, ← hv, -decide_eq_true_eq, -decide_eq_false_iff_not]
theorem rval_c (b : Bnk) (w : b.Wfb) (h : Heap) (c : Nat) : callA (mdT tblB) (run Try.prog (mdT tblB)) 21 [.agg (bc b)] h c = some (E (valP b), h, c) := by
  obtain ⟨h', c', e⟩ := rval_ev b w
  exact call_of rfl rfl e rfl rfl
theorem bval_ev (b : Bnk) (w : b.Wfb) : ∃ h c, run Try.prog (mdT tblB) 22 [b.av] Heap.none 0 = some (E (valP b), h, c) := by
  rw [run_eq, show mdT tblB 22 = some .pure from rfl, Option.bind_some, Try.func22]
  have hm : b.accs.length ≤ 9223372036854775807 := w.la
  have hm2 : b.book.length ≤ 9223372036854775807 := w.lb
  generalize hv : valP b = v
  unfold valP at hv
  unfold Bnk.av
  cases g0 : decide (20000 < (b.book.length : Int))
  case true =>
    rw [g0] at hv; simp only [cond_true] at hv
    simp -implicitDefEqProofs [Try.f22, g0, ← hv, -decide_eq_true_eq, -decide_eq_false_iff_not]
  rw [g0] at hv; simp only [cond_false] at hv
  simp -implicitDefEqProofs [Try.f22, g0, Option.bind_assoc, -decide_eq_true_eq, -decide_eq_false_iff_not]
  refine scan_list (R := fun o => ∃ h c, o = some (E v, h, c)) b.accs longA (fun j s => s.h 0 = some ⟨5, [bc b]⟩ ∧ 0 < s.c ∧ s.t 1 = .ptr 0 0 0 ∧ s.t 14 = .ro b.na (b.accs.map Acc.cells) ∧ s.t 15 = I b.accs.length ∧ s.t 16 = I j) _ ?_ ?_ ?_ ?_
  · simp
  · rintro j ⟨t, h, c⟩ ⟨h0, hc, t1, ta, tb, t3⟩ hj hp
    simp only at h0 hc t1 ta tb t3
    have n1 : ¬ (0 = c) := by omega
    have n2 : ¬ (c = 0) := by omega
    have k1 : decide ((j : Int) < (b.accs.length : Int)) = true := decide_eq_true (by omega)
    unfold longA at hp
    simp -implicitDefEqProofs [n1, n2, h0, t1, ta, tb, t3, hj, k1, hp, Acc.cells, -decide_eq_true_eq, -decide_eq_false_iff_not]
    first | exact ⟨by omega, wrap_succ (by omega)⟩ | exact wrap_succ (by omega)
  · rintro j ⟨t, h, c⟩ ⟨h0, hc, t1, ta, tb, t3⟩ hj hp ha
    simp only at h0 hc t1 ta tb t3
    have n1 : ¬ (0 = c) := by omega
    have n2 : ¬ (c = 0) := by omega
    have k1 : decide ((j : Int) < (b.accs.length : Int)) = true := decide_eq_true (by omega)
    rw [ha] at hv; simp only [cond_true] at hv
    unfold longA at hp
    simp -implicitDefEqProofs [n1, n2, h0, t1, ta, tb, t3, hj, k1, hp, ← hv, Acc.cells, -decide_eq_true_eq, -decide_eq_false_iff_not]
  · rintro ⟨t, h, c⟩ ⟨h0, hc, t1, ta, tb, t3⟩ ha
    simp only at h0 hc t1 ta tb t3
    have n1 : ¬ (0 = c) := by omega
    have n2 : ¬ (c = 0) := by omega
    have k1 : decide ((b.accs.length : Int) < (b.accs.length : Int)) = false := decide_eq_false (by omega)
    rw [ha] at hv; simp only [cond_false] at hv
    unfold headP at hv
    cases g1 : ((b.accs.length : Int) != 12)
    case true =>
      rw [g1] at hv; simp only [Bool.true_or, Bool.or_true, Bool.false_or, cond_true] at hv
      simp -implicitDefEqProofs [n1, n2, h0, t1, ta, tb, t3, k1, g1, ← hv, -decide_eq_true_eq, -decide_eq_false_iff_not]
    cases g2 : (outP b.rate 0 100)
    case true =>
      rw [g1, g2] at hv; simp only [Bool.true_or, Bool.or_true, Bool.false_or, cond_true] at hv
      simp -implicitDefEqProofs [n1, n2, h0, t1, ta, tb, t3, k1, g1, g2, ← hv, -decide_eq_true_eq, -decide_eq_false_iff_not]
    cases g3 : (outP b.infl 0 100)
    case true =>
      rw [g1, g2, g3] at hv; simp only [Bool.true_or, Bool.or_true, Bool.false_or, cond_true] at hv
      simp -implicitDefEqProofs [n1, n2, h0, t1, ta, tb, t3, k1, g1, g2, g3, ← hv, -decide_eq_true_eq, -decide_eq_false_iff_not]
    cases g5 : decide (b.idx < 65536)
    case true =>
      have g4 : outP b.idx 65536 262144 = true := by unfold outP; rw [g5]; rfl
      rw [g1, g2, g3, g4] at hv; simp only [Bool.true_or, Bool.or_true, Bool.false_or, cond_true] at hv
      simp -implicitDefEqProofs [n1, n2, h0, t1, ta, tb, t3, k1, g1, g2, g3, g5, ← hv, -decide_eq_true_eq, -decide_eq_false_iff_not]
    cases g6 : decide (262144 < b.idx)
    case true =>
      have g4 : outP b.idx 65536 262144 = true := by unfold outP; rw [g5, g6]; rfl
      rw [g1, g2, g3, g4] at hv; simp only [Bool.true_or, Bool.or_true, Bool.false_or, cond_true] at hv
      simp -implicitDefEqProofs [n1, n2, h0, t1, ta, tb, t3, k1, g1, g2, g3, g5, g6, ← hv, -decide_eq_true_eq, -decide_eq_false_iff_not]
    have g4 : outP b.idx 65536 262144 = false := by unfold outP; rw [g5, g6]; rfl
    rw [g1, g2, g3, g4] at hv; simp only [Bool.false_or, cond_false] at hv
    simp -implicitDefEqProofs [n1, n2, h0, t1, ta, tb, t3, k1, g1, g2, g3, g5, g6, Option.bind_assoc, -decide_eq_true_eq, -decide_eq_false_iff_not]
    refine scan_list (R := fun o => ∃ h c, o = some (E v, h, c)) b.accs badP (fun j s => s.h 0 = some ⟨5, [bc b]⟩ ∧ 0 < s.c ∧ s.t 1 = .ptr 0 0 0 ∧ s.t 52 = .ro b.na (b.accs.map Acc.cells) ∧ s.t 53 = I b.accs.length ∧ s.t 54 = I j) _ ?_ ?_ ?_ ?_
    · simp [h0, hc, t1, ta, tb, t3]
    · rintro j ⟨t, h, c⟩ ⟨h0, hc, t1, ta, tb, t3⟩ hj hp
      simp only at h0 hc t1 ta tb t3
      have n1 : ¬ (0 = c) := by omega
      have n2 : ¬ (c = 0) := by omega
      have k1 : decide ((j : Int) < (b.accs.length : Int)) = true := decide_eq_true (by omega)
      have hb := fun h c => sound_x b.accs[j] (w.accs _ (List.getElem_mem hj)) h c
      simp -implicitDefEqProofs [n1, n2, h0, t1, ta, tb, t3, hj, k1, hb, hp, Acc.cells, -decide_eq_true_eq, -decide_eq_false_iff_not]
      first | exact ⟨by omega, wrap_succ (by omega)⟩ | exact wrap_succ (by omega)
    · rintro j ⟨t, h, c⟩ ⟨h0, hc, t1, ta, tb, t3⟩ hj hp ha
      simp only at h0 hc t1 ta tb t3
      have n1 : ¬ (0 = c) := by omega
      have n2 : ¬ (c = 0) := by omega
      have k1 : decide ((j : Int) < (b.accs.length : Int)) = true := decide_eq_true (by omega)
      rw [ha] at hv; simp only [cond_true] at hv
      have hb := fun h c => sound_x b.accs[j] (w.accs _ (List.getElem_mem hj)) h c
      simp -implicitDefEqProofs [n1, n2, h0, t1, ta, tb, t3, hj, k1, hb, hp, ← hv, Acc.cells, -decide_eq_true_eq, -decide_eq_false_iff_not]
    · rintro ⟨t, h, c⟩ ⟨h0, hc, t1, ta, tb, t3⟩ ha
      simp only at h0 hc t1 ta tb t3
      have n1 : ¬ (0 = c) := by omega
      have n2 : ¬ (c = 0) := by omega
      have k1 : decide ((b.accs.length : Int) < (b.accs.length : Int)) = false := decide_eq_false (by omega)
      rw [ha] at hv; simp only [cond_false] at hv
      simp -implicitDefEqProofs [n1, n2, h0, t1, ta, tb, t3, k1, Option.bind_assoc, -decide_eq_true_eq, -decide_eq_false_iff_not]
      refine scan_list (R := fun o => ∃ h c, o = some (E v, h, c)) b.book entP (fun j s => s.h 0 = some ⟨5, [bc b]⟩ ∧ 0 < s.c ∧ s.t 1 = .ptr 0 0 0 ∧ s.t 63 = .ro b.nb (b.book.map Ent.cells) ∧ s.t 64 = I b.book.length ∧ s.t 65 = I j) _ ?_ ?_ ?_ ?_
      · simp [h0, hc, t1, ta, tb, t3]
      · rintro j ⟨t, h, c⟩ ⟨h0, hc, t1, ta, tb, t3⟩ hj hp
        simp only at h0 hc t1 ta tb t3
        have n1 : ¬ (0 = c) := by omega
        have n2 : ¬ (c = 0) := by omega
        have k1 : decide ((j : Int) < (b.book.length : Int)) = true := decide_eq_true (by omega)
        unfold entP at hp
        simp only [Bool.or_eq_false_iff] at hp
        obtain ⟨⟨⟨p0, p1⟩, p2⟩, p3⟩ := hp
        simp -implicitDefEqProofs [n1, n2, h0, t1, ta, tb, t3, hj, k1, p0, p1, p2, p3, Ent.cells, -decide_eq_true_eq, -decide_eq_false_iff_not]
        first | exact ⟨by omega, wrap_succ (by omega)⟩ | exact wrap_succ (by omega)
      · rintro j ⟨t, h, c⟩ ⟨h0, hc, t1, ta, tb, t3⟩ hj hp ha
        simp only at h0 hc t1 ta tb t3
        have n1 : ¬ (0 = c) := by omega
        have n2 : ¬ (c = 0) := by omega
        have k1 : decide ((j : Int) < (b.book.length : Int)) = true := decide_eq_true (by omega)
        rw [ha] at hv; simp only [cond_true] at hv
        unfold entP at hp
        cases p0 : (outP b.book[j].co 0 11)
        case true => simp -implicitDefEqProofs [n1, n2, h0, t1, ta, tb, t3, hj, k1, p0, ← hv, Ent.cells, -decide_eq_true_eq, -decide_eq_false_iff_not]
        cases p1 : (outP b.book[j].kd 0 9)
        case true => simp -implicitDefEqProofs [n1, n2, h0, t1, ta, tb, t3, hj, k1, p0, p1, ← hv, Ent.cells, -decide_eq_true_eq, -decide_eq_false_iff_not]
        cases p2 : (b.book[j].am == 0)
        case true => simp -implicitDefEqProofs [n1, n2, h0, t1, ta, tb, t3, hj, k1, p0, p1, p2, ← hv, Ent.cells, -decide_eq_true_eq, -decide_eq_false_iff_not]
        rw [p0, p1, p2] at hp; simp only [Bool.false_or] at hp
        simp -implicitDefEqProofs [n1, n2, h0, t1, ta, tb, t3, hj, k1, p0, p1, p2, hp, ← hv, Ent.cells, -decide_eq_true_eq, -decide_eq_false_iff_not]
      · rintro ⟨t, h, c⟩ ⟨h0, hc, t1, ta, tb, t3⟩ ha
        simp only at h0 hc t1 ta tb t3
        have n1 : ¬ (0 = c) := by omega
        have n2 : ¬ (c = 0) := by omega
        have k1 : decide ((b.book.length : Int) < (b.book.length : Int)) = false := decide_eq_false (by omega)
        rw [ha] at hv; simp only [cond_false] at hv
        simp -implicitDefEqProofs [n1, n2, h0, t1, ta, tb, t3, k1, ← hv, -decide_eq_true_eq, -decide_eq_false_iff_not]
theorem bval_c (b : Bnk) (w : b.Wfb) (h : Heap) (c : Nat) : callA (mdT tblB) (run Try.prog (mdT tblB)) 22 [.agg (bc b)] h c = some (E (valP b), h, c) := by
  obtain ⟨h', c', e⟩ := bval_ev b w
  exact call_of rfl rfl e rfl rfl
end Go.Proofs.Ytdckleaemkcapaa.AM
