/- Texts of the proof: part B32. -/
import Derived.Test.YtdckleaemkcapaaB31
set_option maxHeartbeats 0
set_option linter.unusedSimpArgs false
set_option linter.unusedVariables false
set_option linter.unusedSectionVars false
namespace Go.Proofs.Ytdckleaemkcapaa.AM
open Go Go.Proofs
attribute [local simp] AV.cells okc AV.isBad fieldAddrA ld setCells stA skipV appendA hd makeA bnd sliceA kindA freshA killOk loadsAt newT empT lay_get allocA buildA buildRow builtinA lenA els indexAddrA isNil opA evA lit yldA binA binI unA pickA boolV intV fieldA mk flat lf lf.lfs frz
/-- What paying back comes to. -/
theorem back_law (b b2 : Bnk) (co steps : Int) (hs : 1 ≤ steps) (h0 : (borP b co steps).1 = 0) (h1 : b2.nrm = (borP b co steps).2.nrm) :
    Valid b2 ∧ 0 ≤ co ∧ co ≤ 11 ∧ ((borP b2 co (-steps)).1 = 10 ∧ 20000 ≤ b2.book.length ∨ (borP b2 co (-steps)).1 = 12 ∧ (accAt b2 co).cash < steps * 10000 ∨
      (borP b2 co (-steps)).1 = 0 ∧ Valid (borP b2 co (-steps)).2 ∧ (accAt (borP b2 co (-steps)).2 co).cash = (accAt b co).cash ∧ (accAt (borP b2 co (-steps)).2 co).loan = (accAt b co).loan) := by
  have hc : chkP b [co] = 0 := by
    unfold borP at h0
    cases h : chkP b [co] == 0 with
    | true => simpa using h
    | false => rw [h] at h0; simp only [cond_false] at h0; rw [h0] at h; cases h
  obtain ⟨vb, gg⟩ := chk_zero hc
  obtain ⟨c0, c1, hml, hop⟩ := gg co (by simp)
  have ha : accAt b co = b.accs[co.toNat] := by unfold accAt; simp [hml]
  have hm : accAt b co ∈ b.accs := by rw [ha]; exact List.getElem_mem hml
  have aok := vb.accs _ hm
  have acash := aok.cash
  have aloan := aok.loan
  have hopn : (accAt b co).opn = true := by unfold opnAt at hop; rw [ha]; simpa [hml] using hop
  unfold borP at h0 h1
  rw [hc] at h0 h1
  simp only [BEq.rfl, cond_true] at h0 h1
  cases k0 : (steps == 0 || outP steps (-1000) 1000) <;> rw [k0] at h0 h1 <;> simp only [cond_true, cond_false] at h0 h1
  case true => simp at h0
  simp only [Bool.or_eq_false_iff] at k0
  have hst := outP_false.1 k0.2
  have hn : nB (accAt b co).loan steps = steps * 10000 := by unfold nB; rw [if_pos (by omega)]
  rw [hn] at h0 h1
  cases k1 : (decide (0 < steps) && decide (prW b 500000 < (accAt b co).loan + steps * 10000)) <;> rw [k1] at h0 h1 <;> simp only [cond_true, cond_false] at h0 h1
  case true => simp at h0
  rw [show decide (steps < 0) = false from decide_eq_false (by omega)] at h0 h1
  simp only [Bool.false_and, cond_false] at h0 h1
  have hpr := prW_small vb
  have hlim : (accAt b co).loan + steps * 10000 ≤ 2000000 := by
    rw [show decide (0 < steps) = true from decide_eq_true (by omega)] at k1
    simp only [Bool.true_and] at k1
    have := of_decide_eq_false k1
    omega
  have hl24 : (accAt b co).last.length ≤ 24 := vb.last _ hm
  -- the bank in between
  have a1 : AccOk { accAt b co with opn := (accAt b co).opn, cash := (accAt b co).cash, loan := (accAt b co).loan + steps * 10000 } := by
    have := accOk_with (x := (accAt b co).cash) (y := (accAt b co).loan + steps * 10000) aok acash (by omega)
    rw [← hopn] at this
    exact this
  have v1 : Valid (setB b co { accAt b co with opn := (accAt b co).opn, cash := (accAt b co).cash, loan := (accAt b co).loan + steps * 10000 }) := setB_valid vb co a1 hl24
  have at1 := setB_at (b := b) (a := { accAt b co with opn := (accAt b co).opn, cash := (accAt b co).cash, loan := (accAt b co).loan + steps * 10000 }) hml
  have op1 : opnAt (setB b co { accAt b co with opn := (accAt b co).opn, cash := (accAt b co).cash, loan := (accAt b co).loan + steps * 10000 }) co = true := by
    unfold opnAt setB
    simp [hml, hopn]
  have v2' := bk_valid v1 ⟨c0, c1⟩ op1 (by omega) (by omega) h0
  have v2 := valid_same h1 v2'
  revert h0 h1 v2'
  generalize setB b co { accAt b co with opn := (accAt b co).opn, cash := (accAt b co).cash, loan := (accAt b co).loan + steps * 10000 } = s at *
  intro h0 h1 v2'
  unfold bkP at h0 h1
  rw [show (steps * 10000 == 0) = false by simp; omega] at h0 h1
  simp only [cond_false] at h0 h1
  cases k2 : bookBad (accAt s co).cash (steps * 10000) s.book.length <;> rw [k2] at h0 h1 <;> simp only [cond_true, cond_false] at h0 h1
  case true => simp at h0
  have hsl : co.toNat < s.accs.length := by have := v1.len; omega
  have acc2 := accAt_same h1 co
  have acc2' : accAt ⟨false, s.accs.set co.toNat { accAt s co with cash := (accAt s co).cash + steps * 10000 }, s.rate, s.infl, s.idx, false, s.book ++ [⟨co, 0, steps * 10000⟩]⟩ co = { accAt s co with cash := (accAt s co).cash + steps * 10000 } := by
    unfold accAt; simp [hsl]
  rw [acc2'] at acc2
  rw [at1] at acc2
  simp only at acc2
  obtain ⟨e1, e2, e3, _, _⟩ := acc2
  have hl2 : co.toNat < b2.accs.length := by have := v2.len; omega
  have ha2 : accAt b2 co = b2.accs[co.toNat] := by unfold accAt; simp [hl2]
  have hm2 : accAt b2 co ∈ b2.accs := by rw [ha2]; exact List.getElem_mem hl2
  have ho2 : opnAt b2 co = true := by unfold opnAt; simp [hl2]; rw [← ha2, e1, hopn]
  have hc2 : chkP b2 [co] = 0 := chkP_of v2 (fun n hn => by simp at hn; subst hn; exact ⟨c0, c1, ho2⟩)
  refine ⟨v2, c0, c1, ?_⟩
  have hn2 : nB (accAt b2 co).loan (-steps) = -(steps * 10000) := by unfold nB; rw [e3]; split <;> omega
  unfold borP
  rw [hc2]
  simp only [BEq.rfl, cond_true]
  rw [show ((-steps == 0) = false) by simp; omega, show outP (-steps) (-1000) 1000 = false from outP_false.2 (by omega)]
  simp only [Bool.false_or, cond_false]
  rw [show decide (0 < -steps) = false from decide_eq_false (by omega), show decide (-steps < 0) = true from decide_eq_true (by omega), hn2]
  simp only [Bool.false_and, Bool.true_and, cond_false]
  cases k3 : decide ((accAt b2 co).cash < - -(steps * 10000))
  case true =>
    right; left
    have := of_decide_eq_true k3
    exact ⟨rfl, by omega⟩
  simp only [cond_false]
  have k3' := of_decide_eq_false k3
  have a3 := v2.accs _ hm2
  have a3c := a3.cash
  have a3l := a3.loan
  have hopn2 : (accAt b2 co).opn = true := by rw [e1, hopn]
  have hl24' : (accAt b2 co).last.length ≤ 24 := v2.last _ hm2
  have a4 : AccOk { accAt b2 co with opn := (accAt b2 co).opn, cash := (accAt b2 co).cash, loan := (accAt b2 co).loan + -(steps * 10000) } := by
    have := accOk_with (x := (accAt b2 co).cash) (y := (accAt b2 co).loan + -(steps * 10000)) a3 a3c (by omega)
    rw [← hopn2] at this
    exact this
  have v3 : Valid (setB b2 co { accAt b2 co with opn := (accAt b2 co).opn, cash := (accAt b2 co).cash, loan := (accAt b2 co).loan + -(steps * 10000) }) := setB_valid v2 co a4 hl24'
  have at3 := setB_at (b := b2) (a := { accAt b2 co with opn := (accAt b2 co).opn, cash := (accAt b2 co).cash, loan := (accAt b2 co).loan + -(steps * 10000) }) hl2
  have op3 : opnAt (setB b2 co { accAt b2 co with opn := (accAt b2 co).opn, cash := (accAt b2 co).cash, loan := (accAt b2 co).loan + -(steps * 10000) }) co = true := by
    unfold opnAt setB
    simp [hl2, hopn2]
  have bk3 : (setB b2 co { accAt b2 co with opn := (accAt b2 co).opn, cash := (accAt b2 co).cash, loan := (accAt b2 co).loan + -(steps * 10000) }).book = b2.book := rfl
  revert v3 at3 op3 bk3
  generalize setB b2 co { accAt b2 co with opn := (accAt b2 co).opn, cash := (accAt b2 co).cash, loan := (accAt b2 co).loan + -(steps * 10000) } = z
  intro v3 at3 op3 bk3
  rcases bk_err z co 0 (-(steps * 10000)) with h | ⟨h, h'⟩
  · right; right
    refine ⟨h, bk_valid v3 ⟨c0, c1⟩ op3 (by omega) (by omega) h, ?_⟩
    unfold bkP at h ⊢
    rw [show (-(steps * 10000) == 0) = false by simp; omega] at h ⊢
    simp only [cond_false] at h ⊢
    cases k4 : bookBad (accAt z co).cash (-(steps * 10000)) z.book.length <;> rw [k4] at h <;> simp only [cond_true, cond_false] at h ⊢
    case true => simp at h
    have hzl : co.toNat < z.accs.length := by have := v3.len; omega
    have e5 : accAt ⟨false, z.accs.set co.toNat { accAt z co with cash := (accAt z co).cash + -(steps * 10000) }, z.rate, z.infl, z.idx, false, z.book ++ [⟨co, 0, -(steps * 10000)⟩]⟩ co = { accAt z co with cash := (accAt z co).cash + -(steps * 10000) } := by
      unfold accAt; simp [hzl]
    rw [e5, at3]
    simp only
    omega
  · left
    refine ⟨h, ?_⟩
    rw [at3, bk3] at h'
    unfold bookBad at h'
    simp only [Bool.or_eq_true, decide_eq_true_eq] at h'
    rcases h' with h' | h'
    · rcases outP_true.1 h' with h' | h' <;> omega
    · omega
end Go.Proofs.Ytdckleaemkcapaa.AM
