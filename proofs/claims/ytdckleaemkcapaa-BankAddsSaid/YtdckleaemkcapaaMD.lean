/- Parts of the proof: B30, B31, B32, B33. -/
import Derived.Test.YtdckleaemkcapaaB29
set_option maxHeartbeats 0
set_option linter.unusedSimpArgs false
set_option linter.unusedVariables false
set_option linter.unusedSectionVars false
namespace Go.Proofs.Ytdckleaemkcapaa.AM
open Go Go.Proofs
attribute [local simp] AV.cells okc AV.isBad fieldAddrA ld setCells stA skipV appendA hd makeA bnd sliceA kindA freshA killOk loadsAt newT empT lay_get allocA buildA buildRow builtinA lenA els indexAddrA isNil opA evA lit yldA binA binI unA pickA boolV intV fieldA mk flat lf lf.lfs frz
theorem law11 (b : Bnk) (w : b.Wfb) (co steps : Int) : ∃ hp c, run Try.prog (mdT tblB) 11 [b.av, I co, I steps] Heap.none 0 = some (B true, hp, c) := by
  have kn := known_c
  have f := far_c b w
  obtain ⟨b01, n01, w01, c01⟩ := call_post (args := [.agg (bc b), I co, I steps]) rfl (fun h => rfl) (rbor_x b w co steps) rfl
  obtain ⟨b02, n02, w02, c02⟩ := call_post (args := [.agg (bc b), I co, I steps]) rfl (fun h => rfl) (bbor_x b w co steps) rfl
  have s0 := same_c b02 b01 (n02.trans n01.symm) w02
  rw [run_eq, show mdT tblB 11 = some .pure from rfl, Option.bind_some, Try.func11]
  unfold Bnk.av
  cases g0 : farP b
  · simp -implicitDefEqProofs [Try.f11, g0, f, kn, c01, c02, s0]
  · simp -implicitDefEqProofs [Try.f11, g0, f, kn]
theorem pure11 (x0 x1 x2 : AV) (h0 : TyArg Try.prog 8 25 x0) (h1 : TyArg Try.prog 8 3 x1) (h2 : TyArg Try.prog 8 3 x2) : ∃ h c, run Try.prog (mdT tblB) 11 [x0, x1, x2] Heap.none 0 = some (B true, h, c) := by
  obtain ⟨b, rfl, w⟩ := arg25 h0
  obtain ⟨n1, rfl, _⟩ := arg3 h1
  obtain ⟨n2, rfl, _⟩ := arg3 h2
  exact law11 b w n1 n2
end Go.Proofs.Ytdckleaemkcapaa.AM
namespace Go.Proofs.Ytdckleaemkcapaa.AM
open Go Go.Proofs
theorem valP_nrm (b : Bnk) : valP b.nrm = valP b := by
  have e1 : b.nrm.accs.any longA = b.accs.any longA := by
    show (b.accs.map Acc.nrm).any longA = _
    rw [List.any_map]
    rfl
  have e2 : b.nrm.accs.any badP = b.accs.any badP := by
    show (b.accs.map Acc.nrm).any badP = _
    rw [List.any_map]
    rfl
  have e3 : headP b.nrm = headP b := by
    unfold headP
    show ((((b.accs.map Acc.nrm).length : Int) != 12) || _ || _ || _) = _
    rw [List.length_map]
    rfl
  unfold valP
  rw [e1, e2, e3]
  rfl
theorem valP_same {a b : Bnk} (h : a.nrm = b.nrm) : valP a = valP b := by rw [← valP_nrm a, h, valP_nrm]
theorem any_of {α : Type} {l : List α} {p : α → Bool} (h : ∀ x ∈ l, p x = false) : l.any p = false := by
  cases e : l.any p with
  | false => rfl
  | true =>
    obtain ⟨x, hx, hp⟩ := List.any_eq_true.1 e
    rw [h x hx] at hp
    cases hp
theorem badP_of {a : Acc} (h : AccOk a) : badP a = false := by
  unfold badP
  rw [show (((a.parts.length : Int) != 4) = false) by simp [h.lp], outP_false.2 h.cash, outP_false.2 h.loan]
  rw [show a.last.any lastP = false from any_of fun n hn => outP_false.2 (h.last n hn)]
  have e : a.parts.any (partP a) = false := any_of fun p hp => by
    unfold partP
    rw [outP_false.2 (h.parts p hp)]
    cases ho : a.opn with
    | true => rfl
    | false => simp [(h.none ho).1 p hp]
  rw [e]
  cases ho : a.opn with
  | true => rfl
  | false =>
    obtain ⟨_, h1, h2, h3⟩ := h.none ho
    simp [h1, h2, h3]
theorem valP_of {b : Bnk} (v : Valid b) : valP b = 0 := by
  have h1 : decide (20000 < (b.book.length : Int)) = false := decide_eq_false (by have := v.book; omega)
  have h2 : b.accs.any longA = false := any_of fun a ha => decide_eq_false (by have := v.last a ha; omega)
  have h3 : headP b = false := by
    unfold headP
    rw [outP_false.2 v.rate, outP_false.2 v.infl, outP_false.2 v.idx]
    simp [v.len]
  have h4 : b.accs.any badP = false := any_of fun a ha => badP_of (v.accs a ha)
  have h5 : b.book.any entP = false := any_of fun e he => by
    obtain ⟨k1, k2, k3, k4⟩ := v.ents e he
    unfold entP
    rw [outP_false.2 k1, outP_false.2 k2, outP_false.2 k4]
    simp [k3]
  unfold valP
  rw [h1, h2, h3, h4, h5]
  rfl
theorem valid_same {a b : Bnk} (h : a.nrm = b.nrm) (v : Valid b) : Valid a := valid_of (by rw [valP_same h]; exact valP_of v)
theorem opnAt_same {a b : Bnk} (h : a.nrm = b.nrm) (n : Int) : opnAt a n = opnAt b n := by
  have e : ∀ b : Bnk, opnAt b.nrm n = opnAt b n := by
    intro b
    unfold opnAt
    show ((((b.accs.map Acc.nrm)[n.toNat]?).map Acc.opn).getD false) = _
    rw [List.getElem?_map]
    cases b.accs[n.toNat]? <;> rfl
  rw [← e a, h, e]
theorem accAt_nrm (b : Bnk) (n : Int) : (accAt b n).nrm.opn = (accAt b.nrm n).opn ∧ (accAt b n).cash = (accAt b.nrm n).cash ∧ (accAt b n).loan = (accAt b.nrm n).loan ∧ (accAt b n).parts = (accAt b.nrm n).parts ∧ (accAt b n).last = (accAt b.nrm n).last := by
  unfold accAt
  show _ = ((((b.accs.map Acc.nrm)[n.toNat]?).getD shutA).opn) ∧ _ = ((((b.accs.map Acc.nrm)[n.toNat]?).getD shutA).cash) ∧ _ = ((((b.accs.map Acc.nrm)[n.toNat]?).getD shutA).loan) ∧ _ = ((((b.accs.map Acc.nrm)[n.toNat]?).getD shutA).parts) ∧ _ = ((((b.accs.map Acc.nrm)[n.toNat]?).getD shutA).last)
  rw [List.getElem?_map]
  cases b.accs[n.toNat]? <;> exact ⟨rfl, rfl, rfl, rfl, rfl⟩
theorem accAt_same {a b : Bnk} (h : a.nrm = b.nrm) (n : Int) : (accAt a n).opn = (accAt b n).opn ∧ (accAt a n).cash = (accAt b n).cash ∧ (accAt a n).loan = (accAt b n).loan ∧ (accAt a n).parts = (accAt b n).parts ∧ (accAt a n).last = (accAt b n).last := by
  have h1 := accAt_nrm a n
  have h2 := accAt_nrm b n
  rw [h] at h1
  exact ⟨h1.1.trans h2.1.symm, h1.2.1.trans h2.2.1.symm, h1.2.2.1.trans h2.2.2.1.symm, h1.2.2.2.1.trans h2.2.2.2.1.symm, h1.2.2.2.2.trans h2.2.2.2.2.symm⟩
theorem chkP_of {b : Bnk} {l : List Int} (v : Valid b) (h : ∀ n ∈ l, 0 ≤ n ∧ n ≤ 11 ∧ opnAt b n = true) : chkP b l = 0 := by
  unfold chkP
  rw [valP_of v, any_of (p := coP) fun n hn => outP_false.2 ⟨(h n hn).1, (h n hn).2.1⟩, any_of (p := notOpn b) fun n hn => by unfold notOpn; rw [(h n hn).2.2]; rfl]
  rfl
/-- An open account with another Cash and Loan is right. -/
theorem accOk_with {a : Acc} (h : AccOk a) {x y : Int} (hx : -1000000000000 ≤ x ∧ x ≤ 1000000000000) (hy : 0 ≤ y ∧ y ≤ 1000000000000) : AccOk { a with opn := true, cash := x, loan := y } :=
  ⟨h.lp, hx, hy, h.parts, fun e => (by cases e), h.last⟩
theorem valid_with {b : Bnk} (v : Valid b) {i : Nat} {a : Acc} (ha : AccOk a) (hl : a.last.length ≤ 24) {l : List Ent} (h1 : b.book.length + l.length ≤ 20000) (h2 : ∀ e ∈ l, (0 ≤ e.co ∧ e.co ≤ 11) ∧ (0 ≤ e.kd ∧ e.kd ≤ 9) ∧ e.am ≠ 0 ∧ (-1000000000000 ≤ e.am ∧ e.am ≤ 1000000000000)) (na nb : Bool) :
    Valid ⟨na, b.accs.set i a, b.rate, b.infl, b.idx, nb, b.book ++ l⟩ := by
  refine ⟨by simpa using v.len, v.rate, v.infl, v.idx, fun x hx => ?_, fun x hx => ?_, by simpa using h1, fun e he => ?_⟩
  · rcases List.mem_or_eq_of_mem_set hx with hx | rfl
    · exact v.accs x hx
    · exact ha
  · rcases List.mem_or_eq_of_mem_set hx with hx | rfl
    · exact v.last x hx
    · exact hl
  · rcases List.mem_append.1 he with he | he
    · exact v.ents e he
    · exact h2 e he
theorem valid_plain {b : Bnk} (v : Valid b) (na nb : Bool) : Valid ⟨na, b.accs, b.rate, b.infl, b.idx, nb, b.book⟩ := ⟨v.len, v.rate, v.infl, v.idx, v.accs, v.last, v.book, v.ents⟩
theorem setB_valid {b : Bnk} (v : Valid b) (co : Int) {a : Acc} (ha : AccOk a) (hl : a.last.length ≤ 24) : Valid (setB b co a) := by
  have := valid_with (i := co.toNat) v ha hl (l := []) (by have := v.book; simpa using this) (fun e he => by cases he) false false
  rw [List.append_nil] at this
  exact this
theorem bookBad_false {x n : Int} {k : Nat} (h : bookBad x n k = false) : (-1000000000000 ≤ x + n ∧ x + n ≤ 1000000000000) ∧ k < 20000 := by
  unfold bookBad at h
  simp only [Bool.or_eq_false_iff] at h
  exact ⟨outP_false.1 h.1, by have := of_decide_eq_false h.2; omega⟩
/-- What is booked leaves a right bank. -/
theorem bk_valid {b : Bnk} (v : Valid b) {co kd n : Int} (hc : 0 ≤ co ∧ co ≤ 11) (ho : opnAt b co = true) (hk : 0 ≤ kd ∧ kd ≤ 9) (hn : -1000000000000 ≤ n ∧ n ≤ 1000000000000) (h : (bkP b co kd n).1 = 0) : Valid (bkP b co kd n).2 := by
  unfold bkP at h ⊢
  cases h0 : n == 0 with
  | true => rw [h0] at h; exact valid_plain v _ _
  | false =>
    rw [h0] at h
    simp only [cond_false] at h ⊢
    cases h1 : bookBad (accAt b co).cash n b.book.length with
    | true => rw [h1] at h; simp at h
    | false =>
      simp only [cond_false]
      have hl : co.toNat < b.accs.length := by have := v.len; omega
      have e : accAt b co = b.accs[co.toNat] := by unfold accAt; simp [hl]
      have hop : (accAt b co).opn = true := by unfold opnAt at ho; rw [e]; simpa [hl] using ho
      have hm : accAt b co ∈ b.accs := by rw [e]; exact List.getElem_mem hl
      have k := bookBad_false h1
      have a1 := accOk_with (v.accs _ hm) k.1 (v.accs _ hm).loan
      have a2 : ({ accAt b co with cash := (accAt b co).cash + n } : Acc) = { accAt b co with opn := true, cash := (accAt b co).cash + n, loan := (accAt b co).loan } := by rw [← hop]
      rw [a2]
      have hl24 : (accAt b co).last.length ≤ 24 := v.last _ hm
      exact valid_with v a1 hl24 (by simp; omega) (fun e' he => by
        simp only [List.mem_singleton] at he
        subst he
        exact ⟨hc, hk, by simpa using h0, hn⟩) _ _
theorem bk_err (b : Bnk) (co kd n : Int) : (bkP b co kd n).1 = 0 ∨ ((bkP b co kd n).1 = 10 ∧ bookBad (accAt b co).cash n b.book.length = true) := by
  unfold bkP
  cases n == 0
  · cases h : bookBad (accAt b co).cash n b.book.length
    · exact .inl rfl
    · exact .inr ⟨rfl, rfl⟩
  · exact .inl rfl
end Go.Proofs.Ytdckleaemkcapaa.AM
namespace Go.Proofs.Ytdckleaemkcapaa.AM
open Go Go.Proofs
attribute [local simp] AV.cells okc AV.isBad fieldAddrA ld setCells stA skipV appendA hd makeA bnd sliceA kindA freshA killOk loadsAt newT empT lay_get allocA buildA buildRow builtinA lenA els indexAddrA isNil opA evA lit yldA binA binI unA pickA boolV intV fieldA mk flat lf lf.lfs frz
/-- What paying back comes to. -/
theorem back_law (b b2 : Bnk) (co steps : Int) (hs : 1 ≤ steps) (h0 : (borP b co steps).1 = 0) (h1 : b2.nrm = (borP b co steps).2.nrm) :
    Valid b2 ∧ 0 ≤ co ∧ co ≤ 11 ∧ ((borP b2 co (-steps)).1 = 10 ∧ 20000 ≤ b2.book.length ∨ (borP b2 co (-steps)).1 = 12 ∧ (accAt b2 co).cash < steps * 10000 ∨
      (borP b2 co (-steps)).1 = 0 ∧ Valid (borP b2 co (-steps)).2 ∧ (accAt (borP b2 co (-steps)).2 co).cash = (accAt b co).cash ∧ (accAt (borP b2 co (-steps)).2 co).loan = (accAt b co).loan) := by
  have hc : chkP b [co] = 0 := by
    unfold borP at h0
    cases h : chkP b [co] == 0 with
    | true => simpa using h
    | false => rw [h] at h0; simp only [cond_false] at h0; rw [h0] at h; cases h
  obtain ⟨vb, gg⟩ := chk_zero hc
  obtain ⟨c0, c1, hml, hop⟩ := gg co (by simp)
  have ha : accAt b co = b.accs[co.toNat] := by unfold accAt; simp [hml]
  have hm : accAt b co ∈ b.accs := by rw [ha]; exact List.getElem_mem hml
  have aok := vb.accs _ hm
  have acash := aok.cash
  have aloan := aok.loan
  have hopn : (accAt b co).opn = true := by unfold opnAt at hop; rw [ha]; simpa [hml] using hop
  unfold borP at h0 h1
  rw [hc] at h0 h1
  simp only [BEq.rfl, cond_true] at h0 h1
  cases k0 : (steps == 0 || outP steps (-1000) 1000) <;> rw [k0] at h0 h1 <;> simp only [cond_true, cond_false] at h0 h1
  case true => simp at h0
  simp only [Bool.or_eq_false_iff] at k0
  have hst := outP_false.1 k0.2
  have hn : nB (accAt b co).loan steps = steps * 10000 := by unfold nB; rw [if_pos (by omega)]
  rw [hn] at h0 h1
  cases k1 : (decide (0 < steps) && decide (prW b 500000 < (accAt b co).loan + steps * 10000)) <;> rw [k1] at h0 h1 <;> simp only [cond_true, cond_false] at h0 h1
  case true => simp at h0
  rw [show decide (steps < 0) = false from decide_eq_false (by omega)] at h0 h1
  simp only [Bool.false_and, cond_false] at h0 h1
  have hpr := prW_small vb
  have hlim : (accAt b co).loan + steps * 10000 ≤ 2000000 := by
    rw [show decide (0 < steps) = true from decide_eq_true (by omega)] at k1
    simp only [Bool.true_and] at k1
    have := of_decide_eq_false k1
    omega
  have hl24 : (accAt b co).last.length ≤ 24 := vb.last _ hm
  -- the bank in between
  have a1 : AccOk { accAt b co with opn := (accAt b co).opn, cash := (accAt b co).cash, loan := (accAt b co).loan + steps * 10000 } := by
    have := accOk_with (x := (accAt b co).cash) (y := (accAt b co).loan + steps * 10000) aok acash (by omega)
    rw [← hopn] at this
    exact this
  have v1 : Valid (setB b co { accAt b co with opn := (accAt b co).opn, cash := (accAt b co).cash, loan := (accAt b co).loan + steps * 10000 }) := setB_valid vb co a1 hl24
  have at1 := setB_at (b := b) (a := { accAt b co with opn := (accAt b co).opn, cash := (accAt b co).cash, loan := (accAt b co).loan + steps * 10000 }) hml
  have op1 : opnAt (setB b co { accAt b co with opn := (accAt b co).opn, cash := (accAt b co).cash, loan := (accAt b co).loan + steps * 10000 }) co = true := by
    unfold opnAt setB
    simp [hml, hopn]
  have v2' := bk_valid v1 ⟨c0, c1⟩ op1 (by omega) (by omega) h0
  have v2 := valid_same h1 v2'
  revert h0 h1 v2'
  generalize setB b co { accAt b co with opn := (accAt b co).opn, cash := (accAt b co).cash, loan := (accAt b co).loan + steps * 10000 } = s at *
  intro h0 h1 v2'
  unfold bkP at h0 h1
  rw [show (steps * 10000 == 0) = false by simp; omega] at h0 h1
  simp only [cond_false] at h0 h1
  cases k2 : bookBad (accAt s co).cash (steps * 10000) s.book.length <;> rw [k2] at h0 h1 <;> simp only [cond_true, cond_false] at h0 h1
  case true => simp at h0
  have hsl : co.toNat < s.accs.length := by have := v1.len; omega
  have acc2 := accAt_same h1 co
  have acc2' : accAt ⟨false, s.accs.set co.toNat { accAt s co with cash := (accAt s co).cash + steps * 10000 }, s.rate, s.infl, s.idx, false, s.book ++ [⟨co, 0, steps * 10000⟩]⟩ co = { accAt s co with cash := (accAt s co).cash + steps * 10000 } := by
    unfold accAt; simp [hsl]
  rw [acc2'] at acc2
  rw [at1] at acc2
  simp only at acc2
  obtain ⟨e1, e2, e3, _, _⟩ := acc2
  have hl2 : co.toNat < b2.accs.length := by have := v2.len; omega
  have ha2 : accAt b2 co = b2.accs[co.toNat] := by unfold accAt; simp [hl2]
  have hm2 : accAt b2 co ∈ b2.accs := by rw [ha2]; exact List.getElem_mem hl2
  have ho2 : opnAt b2 co = true := by unfold opnAt; simp [hl2]; rw [← ha2, e1, hopn]
  have hc2 : chkP b2 [co] = 0 := chkP_of v2 (fun n hn => by simp at hn; subst hn; exact ⟨c0, c1, ho2⟩)
  refine ⟨v2, c0, c1, ?_⟩
  have hn2 : nB (accAt b2 co).loan (-steps) = -(steps * 10000) := by unfold nB; rw [e3]; split <;> omega
  unfold borP
  rw [hc2]
  simp only [BEq.rfl, cond_true]
  rw [show ((-steps == 0) = false) by simp; omega, show outP (-steps) (-1000) 1000 = false from outP_false.2 (by omega)]
  simp only [Bool.false_or, cond_false]
  rw [show decide (0 < -steps) = false from decide_eq_false (by omega), show decide (-steps < 0) = true from decide_eq_true (by omega), hn2]
  simp only [Bool.false_and, Bool.true_and, cond_false]
  cases k3 : decide ((accAt b2 co).cash < - -(steps * 10000))
  case true =>
    right; left
    have := of_decide_eq_true k3
    exact ⟨rfl, by omega⟩
  simp only [cond_false]
  have k3' := of_decide_eq_false k3
  have a3 := v2.accs _ hm2
  have a3c := a3.cash
  have a3l := a3.loan
  have hopn2 : (accAt b2 co).opn = true := by rw [e1, hopn]
  have hl24' : (accAt b2 co).last.length ≤ 24 := v2.last _ hm2
  have a4 : AccOk { accAt b2 co with opn := (accAt b2 co).opn, cash := (accAt b2 co).cash, loan := (accAt b2 co).loan + -(steps * 10000) } := by
    have := accOk_with (x := (accAt b2 co).cash) (y := (accAt b2 co).loan + -(steps * 10000)) a3 a3c (by omega)
    rw [← hopn2] at this
    exact this
  have v3 : Valid (setB b2 co { accAt b2 co with opn := (accAt b2 co).opn, cash := (accAt b2 co).cash, loan := (accAt b2 co).loan + -(steps * 10000) }) := setB_valid v2 co a4 hl24'
  have at3 := setB_at (b := b2) (a := { accAt b2 co with opn := (accAt b2 co).opn, cash := (accAt b2 co).cash, loan := (accAt b2 co).loan + -(steps * 10000) }) hl2
  have op3 : opnAt (setB b2 co { accAt b2 co with opn := (accAt b2 co).opn, cash := (accAt b2 co).cash, loan := (accAt b2 co).loan + -(steps * 10000) }) co = true := by
    unfold opnAt setB
    simp [hl2, hopn2]
  have bk3 : (setB b2 co { accAt b2 co with opn := (accAt b2 co).opn, cash := (accAt b2 co).cash, loan := (accAt b2 co).loan + -(steps * 10000) }).book = b2.book := rfl
  revert v3 at3 op3 bk3
  generalize setB b2 co { accAt b2 co with opn := (accAt b2 co).opn, cash := (accAt b2 co).cash, loan := (accAt b2 co).loan + -(steps * 10000) } = z
  intro v3 at3 op3 bk3
  rcases bk_err z co 0 (-(steps * 10000)) with h | ⟨h, h'⟩
  · right; right
    refine ⟨h, bk_valid v3 ⟨c0, c1⟩ op3 (by omega) (by omega) h, ?_⟩
    unfold bkP at h ⊢
    rw [show (-(steps * 10000) == 0) = false by simp; omega] at h ⊢
    simp only [cond_false] at h ⊢
    cases k4 : bookBad (accAt z co).cash (-(steps * 10000)) z.book.length <;> rw [k4] at h <;> simp only [cond_true, cond_false] at h ⊢
    case true => simp at h
    have hzl : co.toNat < z.accs.length := by have := v3.len; omega
    have e5 : accAt ⟨false, z.accs.set co.toNat { accAt z co with cash := (accAt z co).cash + -(steps * 10000) }, z.rate, z.infl, z.idx, false, z.book ++ [⟨co, 0, -(steps * 10000)⟩]⟩ co = { accAt z co with cash := (accAt z co).cash + -(steps * 10000) } := by
      unfold accAt; simp [hzl]
    rw [e5, at3]
    simp only
    omega
  · left
    refine ⟨h, ?_⟩
    rw [at3, bk3] at h'
    unfold bookBad at h'
    simp only [Bool.or_eq_true, decide_eq_true_eq] at h'
    rcases h' with h' | h'
    · rcases outP_true.1 h' with h' | h' <;> omega
    · omega
end Go.Proofs.Ytdckleaemkcapaa.AM
namespace Go.Proofs.Ytdckleaemkcapaa.AM
open Go Go.Proofs
attribute [local simp] AV.cells okc AV.isBad fieldAddrA ld setCells stA skipV appendA hd makeA bnd sliceA kindA freshA killOk loadsAt newT empT lay_get allocA buildA buildRow builtinA lenA els indexAddrA isNil opA evA lit yldA binA binI unA pickA boolV intV fieldA mk flat lf lf.lfs frz
theorem bor_steps {b : Bnk} {co steps : Int} (h : (borP b co steps).1 = 0) : Valid b ∧ 0 ≤ co ∧ co ≤ 11 ∧ -1000 ≤ steps ∧ steps ≤ 1000 := by
  have hc : chkP b [co] = 0 := by
    unfold borP at h
    cases h' : chkP b [co] == 0 with
    | true => simpa using h'
    | false => rw [h'] at h; simp only [cond_false] at h; rw [h] at h'; cases h'
  obtain ⟨vb, gg⟩ := chk_zero hc
  obtain ⟨c0, c1, _, _⟩ := gg co (by simp)
  unfold borP at h
  rw [hc] at h
  simp only [BEq.rfl, cond_true] at h
  cases k0 : (steps == 0 || outP steps (-1000) 1000) <;> rw [k0] at h <;> simp only [cond_true, cond_false] at h
  case true => simp at h
  simp only [Bool.or_eq_false_iff] at k0
  have := outP_false.1 k0.2
  exact ⟨vb, c0, c1, this.1, this.2⟩
theorem law13 (b : Bnk) (w : b.Wfb) (co steps : Int) : ∃ hp c, run Try.prog (mdT tblB) 13 [b.av, I co, I steps] Heap.none 0 = some (B true, hp, c) := by
  have kn := known_c
  have f := far_c b w
  obtain ⟨b1, n1, w1, c1⟩ := call_post (args := [.agg (bc b), I co, I steps]) rfl (fun h => rfl) (bbor_x b w co steps) rfl
  rw [run_eq, show mdT tblB 13 = some .pure from rfl, Option.bind_some, Try.func13]
  unfold Bnk.av
  cases g0 : farP b
  case true => simp -implicitDefEqProofs [Try.f13, g0, f, kn]
  cases g1 : decide (steps < 1)
  case true => simp -implicitDefEqProofs [Try.f13, g0, g1, f, kn, -decide_eq_true_eq, -decide_eq_false_iff_not]
  by_cases e1 : (borP b co steps).1 = 0
  case neg =>
    have e2 : ((borP b co steps).1 != 0) = true := by simpa using e1
    simp -implicitDefEqProofs [Try.f13, g0, g1, f, kn, c1, e2, -decide_eq_true_eq, -decide_eq_false_iff_not]
  have hst := of_decide_eq_false g1
  obtain ⟨vb, _, _, _, hs2⟩ := bor_steps e1
  obtain ⟨v1, c0, c11, hback⟩ := back_law b b1 co steps (by omega) e1 n1
  obtain ⟨b2, n2, w2, c2⟩ := call_post (args := [.agg (bc b1), I co, I (-steps)]) rfl (fun h => rfl) (bbor_x b1 w1 co (-steps)) rfl
  rw [e1] at c1
  obtain ⟨m, rfl⟩ : ∃ m : Nat, co = m := ⟨co.toNat, by omega⟩
  have l1 : b1.accs.length = 12 := v1.len
  have l0 : b.accs.length = 12 := vb.len
  have hm0 : m < b.accs.length := by omega
  have h12 : m < 12 := by omega
  have hm1 : m < b1.accs.length := by omega
  have a0 : accAt b m = b.accs[m] := by unfold accAt; simp [hm0]
  have a1 : accAt b1 m = b1.accs[m] := by unfold accAt; simp [hm1]
  have k1 : decide ((m : Int) < 0) = false := decide_eq_false (by omega)
  have k2 : decide (12 ≤ (m : Int)) = false := decide_eq_false (by omega)
  have w3 : IntKind.i64.wrap (-steps) = -steps := wrap_id (by omega) (by omega)
  have w4 : IntKind.i64.wrap (steps * 10000) = steps * 10000 := wrap_id (by omega) (by omega)
  have F := f
  rcases hback with ⟨h1, h2⟩ | ⟨h1, h2⟩ | ⟨h1, h2, h3, h4⟩
  · rw [h1] at c2
    have k3 : decide (20000 ≤ (b1.book.length : Int)) = true := decide_eq_true (by omega)
    simp -implicitDefEqProofs [Try.f13, g0, g1, f, kn, c1, c2, l1, k1, k2, k3, w3, -decide_eq_true_eq, -decide_eq_false_iff_not]
  · rw [h1] at c2
    rw [a1] at h2
    have k3 : decide (b1.accs[m].cash < steps * 10000) = true := decide_eq_true h2
    simp -implicitDefEqProofs [Try.f13, g0, g1, f, kn, c1, c2, l1, hm1, h12, k1, k2, k3, w3, w4, Acc.cells, -decide_eq_true_eq, -decide_eq_false_iff_not]
  · rw [h1] at c2
    have v2 := valid_same n2 h2
    have l2 : b2.accs.length = 12 := v2.len
    have hm2 : m < b2.accs.length := by omega
    have a2 : accAt b2 m = b2.accs[m] := by unfold accAt; simp [hm2]
    have s2 := accAt_same n2 m
    have e3 : b2.accs[m].cash = b.accs[m].cash := by rw [← a2, s2.2.1, h3, a0]
    have e4 : b2.accs[m].loan = b.accs[m].loan := by rw [← a2, s2.2.2.1, h4, a0]
    simp -implicitDefEqProofs [Try.f13, g0, g1, f, kn, c1, c2, l1, l2, l0, hm0, h12, hm2, e3, e4, k1, k2, w3, Acc.cells, -decide_eq_true_eq, -decide_eq_false_iff_not]
theorem pure13 (x0 x1 x2 : AV) (h0 : TyArg Try.prog 8 25 x0) (h1 : TyArg Try.prog 8 3 x1) (h2 : TyArg Try.prog 8 3 x2) : ∃ h c, run Try.prog (mdT tblB) 13 [x0, x1, x2] Heap.none 0 = some (B true, h, c) := by
  obtain ⟨b, rfl, w⟩ := arg25 h0
  obtain ⟨n1, rfl, _⟩ := arg3 h1
  obtain ⟨n2, rfl, _⟩ := arg3 h2
  exact law13 b w n1 n2
end Go.Proofs.Ytdckleaemkcapaa.AM
