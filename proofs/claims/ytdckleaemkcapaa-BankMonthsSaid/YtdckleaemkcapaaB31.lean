/- Texts of the proof: part B31. -/
import Derived.Test.YtdckleaemkcapaaB30
set_option linter.unusedVariables false
set_option linter.unusedSimpArgs false
namespace Go.Proofs.Ytdckleaemkcapaa.AM
open Go Go.Proofs
theorem valP_nrm (b : Bnk) : valP b.nrm = valP b := by
  have e1 : b.nrm.accs.any longA = b.accs.any longA := by
    show (b.accs.map Acc.nrm).any longA = _
    rw [List.any_map]
    rfl
  have e2 : b.nrm.accs.any badP = b.accs.any badP := by
    show (b.accs.map Acc.nrm).any badP = _
    rw [List.any_map]
    rfl
  have e3 : headP b.nrm = headP b := by
    unfold headP
    show ((((b.accs.map Acc.nrm).length : Int) != 12) || _ || _ || _) = _
    rw [List.length_map]
    rfl
  unfold valP
  rw [e1, e2, e3]
  rfl
theorem valP_same {a b : Bnk} (h : a.nrm = b.nrm) : valP a = valP b := by rw [← valP_nrm a, h, valP_nrm]
theorem any_of {α : Type} {l : List α} {p : α → Bool} (h : ∀ x ∈ l, p x = false) : l.any p = false := by
  cases e : l.any p with
  | false => rfl
  | true =>
    obtain ⟨x, hx, hp⟩ := List.any_eq_true.1 e
    rw [h x hx] at hp
    cases hp
theorem badP_of {a : Acc} (h : AccOk a) : badP a = false := by
  unfold badP
  rw [show (((a.parts.length : Int) != 4) = false) by simp [h.lp], outP_false.2 h.cash, outP_false.2 h.loan]
  rw [show a.last.any lastP = false from any_of fun n hn => outP_false.2 (h.last n hn)]
  have e : a.parts.any (partP a) = false := any_of fun p hp => by
    unfold partP
    rw [outP_false.2 (h.parts p hp)]
    cases ho : a.opn with
    | true => rfl
    | false => simp [(h.none ho).1 p hp]
  rw [e]
  cases ho : a.opn with
  | true => rfl
  | false =>
    obtain ⟨_, h1, h2, h3⟩ := h.none ho
    simp [h1, h2, h3]
theorem valP_of {b : Bnk} (v : Valid b) : valP b = 0 := by
  have h1 : decide (20000 < (b.book.length : Int)) = false := decide_eq_false (by have := v.book; omega)
  have h2 : b.accs.any longA = false := any_of fun a ha => decide_eq_false (by have := v.last a ha; omega)
  have h3 : headP b = false := by
    unfold headP
    rw [outP_false.2 v.rate, outP_false.2 v.infl, outP_false.2 v.idx]
    simp [v.len]
  have h4 : b.accs.any badP = false := any_of fun a ha => badP_of (v.accs a ha)
  have h5 : b.book.any entP = false := any_of fun e he => by
    obtain ⟨k1, k2, k3, k4⟩ := v.ents e he
    unfold entP
    rw [outP_false.2 k1, outP_false.2 k2, outP_false.2 k4]
    simp [k3]
  unfold valP
  rw [h1, h2, h3, h4, h5]
  rfl
theorem valid_same {a b : Bnk} (h : a.nrm = b.nrm) (v : Valid b) : Valid a := valid_of (by rw [valP_same h]; exact valP_of v)
theorem opnAt_same {a b : Bnk} (h : a.nrm = b.nrm) (n : Int) : opnAt a n = opnAt b n := by
  have e : ∀ b : Bnk, opnAt b.nrm n = opnAt b n := by
    intro b
    unfold opnAt
    show ((((b.accs.map Acc.nrm)[n.toNat]?).map Acc.opn).getD false) = _
    rw [List.getElem?_map]
    cases b.accs[n.toNat]? <;> rfl
  rw [← e a, h, e]
theorem accAt_nrm (b : Bnk) (n : Int) : (accAt b n).nrm.opn = (accAt b.nrm n).opn ∧ (accAt b n).cash = (accAt b.nrm n).cash ∧ (accAt b n).loan = (accAt b.nrm n).loan ∧ (accAt b n).parts = (accAt b.nrm n).parts ∧ (accAt b n).last = (accAt b.nrm n).last := by
  unfold accAt
  show _ = ((((b.accs.map Acc.nrm)[n.toNat]?).getD shutA).opn) ∧ _ = ((((b.accs.map Acc.nrm)[n.toNat]?).getD shutA).cash) ∧ _ = ((((b.accs.map Acc.nrm)[n.toNat]?).getD shutA).loan) ∧ _ = ((((b.accs.map Acc.nrm)[n.toNat]?).getD shutA).parts) ∧ _ = ((((b.accs.map Acc.nrm)[n.toNat]?).getD shutA).last)
  rw [List.getElem?_map]
  cases b.accs[n.toNat]? <;> exact ⟨rfl, rfl, rfl, rfl, rfl⟩
theorem accAt_same {a b : Bnk} (h : a.nrm = b.nrm) (n : Int) : (accAt a n).opn = (accAt b n).opn ∧ (accAt a n).cash = (accAt b n).cash ∧ (accAt a n).loan = (accAt b n).loan ∧ (accAt a n).parts = (accAt b n).parts ∧ (accAt a n).last = (accAt b n).last := by
  have h1 := accAt_nrm a n
  have h2 := accAt_nrm b n
  rw [h] at h1
  exact ⟨h1.1.trans h2.1.symm, h1.2.1.trans h2.2.1.symm, h1.2.2.1.trans h2.2.2.1.symm, h1.2.2.2.1.trans h2.2.2.2.1.symm, h1.2.2.2.2.trans h2.2.2.2.2.symm⟩
theorem chkP_of {b : Bnk} {l : List Int} (v : Valid b) (h : ∀ n ∈ l, 0 ≤ n ∧ n ≤ 11 ∧ opnAt b n = true) : chkP b l = 0 := by
  unfold chkP
  rw [valP_of v, any_of (p := coP) fun n hn => outP_false.2 ⟨(h n hn).1, (h n hn).2.1⟩, any_of (p := notOpn b) fun n hn => by unfold notOpn; rw [(h n hn).2.2]; rfl]
  rfl
/-- An open account with another Cash and Loan is right. -/
theorem accOk_with {a : Acc} (h : AccOk a) {x y : Int} (hx : -1000000000000 ≤ x ∧ x ≤ 1000000000000) (hy : 0 ≤ y ∧ y ≤ 1000000000000) : AccOk { a with opn := true, cash := x, loan := y } :=
  ⟨h.lp, hx, hy, h.parts, fun e => (by cases e), h.last⟩
theorem valid_with {b : Bnk} (v : Valid b) {i : Nat} {a : Acc} (ha : AccOk a) (hl : a.last.length ≤ 24) {l : List Ent} (h1 : b.book.length + l.length ≤ 20000) (h2 : ∀ e ∈ l, (0 ≤ e.co ∧ e.co ≤ 11) ∧ (0 ≤ e.kd ∧ e.kd ≤ 9) ∧ e.am ≠ 0 ∧ (-1000000000000 ≤ e.am ∧ e.am ≤ 1000000000000)) (na nb : Bool) :
    Valid ⟨na, b.accs.set i a, b.rate, b.infl, b.idx, nb, b.book ++ l⟩ := by
  refine ⟨by simpa using v.len, v.rate, v.infl, v.idx, fun x hx => ?_, fun x hx => ?_, by simpa using h1, fun e he => ?_⟩
  · rcases List.mem_or_eq_of_mem_set hx with hx | rfl
    · exact v.accs x hx
    · exact ha
  · rcases List.mem_or_eq_of_mem_set hx with hx | rfl
    · exact v.last x hx
    · exact hl
  · rcases List.mem_append.1 he with he | he
    · exact v.ents e he
    · exact h2 e he
theorem valid_plain {b : Bnk} (v : Valid b) (na nb : Bool) : Valid ⟨na, b.accs, b.rate, b.infl, b.idx, nb, b.book⟩ := ⟨v.len, v.rate, v.infl, v.idx, v.accs, v.last, v.book, v.ents⟩
theorem setB_valid {b : Bnk} (v : Valid b) (co : Int) {a : Acc} (ha : AccOk a) (hl : a.last.length ≤ 24) : Valid (setB b co a) := by
  have := valid_with (i := co.toNat) v ha hl (l := []) (by have := v.book; simpa using this) (fun e he => by cases he) false false
  rw [List.append_nil] at this
  exact this
theorem bookBad_false {x n : Int} {k : Nat} (h : bookBad x n k = false) : (-1000000000000 ≤ x + n ∧ x + n ≤ 1000000000000) ∧ k < 20000 := by
  unfold bookBad at h
  simp only [Bool.or_eq_false_iff] at h
  exact ⟨outP_false.1 h.1, by have := of_decide_eq_false h.2; omega⟩
/-- What is booked leaves a right bank. -/
theorem bk_valid {b : Bnk} (v : Valid b) {co kd n : Int} (hc : 0 ≤ co ∧ co ≤ 11) (ho : opnAt b co = true) (hk : 0 ≤ kd ∧ kd ≤ 9) (hn : -1000000000000 ≤ n ∧ n ≤ 1000000000000) (h : (bkP b co kd n).1 = 0) : Valid (bkP b co kd n).2 := by
  unfold bkP at h ⊢
  cases h0 : n == 0 with
  | true => rw [h0] at h; exact valid_plain v _ _
  | false =>
    rw [h0] at h
    simp only [cond_false] at h ⊢
    cases h1 : bookBad (accAt b co).cash n b.book.length with
    | true => rw [h1] at h; simp at h
    | false =>
      simp only [cond_false]
      have hl : co.toNat < b.accs.length := by have := v.len; omega
      have e : accAt b co = b.accs[co.toNat] := by unfold accAt; simp [hl]
      have hop : (accAt b co).opn = true := by unfold opnAt at ho; rw [e]; simpa [hl] using ho
      have hm : accAt b co ∈ b.accs := by rw [e]; exact List.getElem_mem hl
      have k := bookBad_false h1
      have a1 := accOk_with (v.accs _ hm) k.1 (v.accs _ hm).loan
      have a2 : ({ accAt b co with cash := (accAt b co).cash + n } : Acc) = { accAt b co with opn := true, cash := (accAt b co).cash + n, loan := (accAt b co).loan } := by rw [← hop]
      rw [a2]
      have hl24 : (accAt b co).last.length ≤ 24 := v.last _ hm
      exact valid_with v a1 hl24 (by simp; omega) (fun e' he => by
        simp only [List.mem_singleton] at he
        subst he
        exact ⟨hc, hk, by simpa using h0, hn⟩) _ _
theorem bk_err (b : Bnk) (co kd n : Int) : (bkP b co kd n).1 = 0 ∨ ((bkP b co kd n).1 = 10 ∧ bookBad (accAt b co).cash n b.book.length = true) := by
  unfold bkP
  cases n == 0
  · cases h : bookBad (accAt b co).cash n b.book.length
    · exact .inl rfl
    · exact .inr ⟨rfl, rfl⟩
  · exact .inl rfl
end Go.Proofs.Ytdckleaemkcapaa.AM
