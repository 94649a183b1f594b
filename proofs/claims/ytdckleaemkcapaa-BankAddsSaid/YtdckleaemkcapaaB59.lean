/- Texts of the proof: part B59. -/
import Derived.Test.YtdckleaemkcapaaB58
set_option linter.unusedVariables false
set_option linter.unusedSimpArgs false
namespace Go.Proofs.Ytdckleaemkcapaa.AM
open Go Go.Proofs
/-- The sum of a company's entries. -/
def sumOf (i : Int) : List Ent → Int
  | [] => 0
  | e :: l => (bif e.co == i then e.am else 0) + sumOf i l
theorem sumOf_app (i : Int) (l l' : List Ent) : sumOf i (l ++ l') = sumOf i l + sumOf i l' := by
  induction l with
  | nil => show sumOf i l' = 0 + _; omega
  | cons e l ih => show (bif e.co == i then e.am else 0) + sumOf i (l ++ l') = (bif e.co == i then e.am else 0) + sumOf i l + _; omega
/-- The Cash of each account is the sum of its entries. -/
def Adds (b : Bnk) : Prop := ∀ i : Nat, i < 12 → sumOf i b.book = (accAt b i).cash
theorem adds_same {b c : Bnk} (h : b.nrm = c.nrm) (a : Adds c) : Adds b := fun i hi => by
  rw [nrm_book h, (accAt_same h i).2.1]; exact a i hi
theorem accAt_set {b : Bnk} {x : Acc} {k i : Nat} (hk : k < b.accs.length) (na nb : Bool) (r f y : Int) (l : List Ent) : accAt ⟨na, b.accs.set k x, r, f, y, nb, l⟩ i = if k = i then x else accAt b i := by
  unfold accAt
  simp only [Int.toNat_natCast]
  rw [List.getElem?_set]
  by_cases e : k = i
  · subst e
    rw [if_pos rfl, if_pos hk, if_pos rfl]
    rfl
  · rw [if_neg e, if_neg e]
theorem adds_set {b : Bnk} (v : Valid b) (a : Adds b) {co : Int} (hc : 0 ≤ co ∧ co ≤ 11) {x : Acc} {n : Int} {kd : Int} (hx : x.cash = (accAt b co).cash + n) (na nb : Bool) (r f y : Int) : Adds ⟨na, b.accs.set co.toNat x, r, f, y, nb, b.book ++ [⟨co, kd, n⟩]⟩ := by
  intro i hi
  rw [accAt_set (by have := v.len; omega)]
  show sumOf i (b.book ++ [⟨co, kd, n⟩]) = _
  rw [sumOf_app, a i hi]
  show (accAt b i).cash + ((bif co == (i : Int) then n else 0) + 0) = _
  by_cases e : co.toNat = i
  · have e1 : co = i := by omega
    subst e1
    rw [if_pos e, hx]
    simp
  · rw [if_neg e]
    have e1 : (co == (i : Int)) = false := by simp; omega
    rw [e1]
    simp
theorem adds_keep {b : Bnk} (v : Valid b) (a : Adds b) {co : Int} {x : Acc} (hx : x.cash = (accAt b co).cash) (hc : 0 ≤ co ∧ co ≤ 11) : Adds (setB b co x) := by
  intro i hi
  unfold setB
  rw [accAt_set (by have := v.len; omega)]
  by_cases e : co.toNat = i
  · rw [if_pos e, hx]
    have e1 : co = i := by omega
    rw [e1]
    exact a i hi
  · rw [if_neg e]
    exact a i hi
theorem adds_bk {b : Bnk} (v : Valid b) (a : Adds b) {co kd n : Int} (hc : 0 ≤ co ∧ co ≤ 11) (h : (bkP b co kd n).1 = 0) : Adds (bkP b co kd n).2 := by
  unfold bkP at h ⊢
  cases h0 : n == 0 <;> rw [h0] at h <;> simp only [cond_true, cond_false] at h ⊢
  · cases h1 : bookBad (accAt b co).cash n b.book.length <;> rw [h1] at h <;> simp only [cond_true, cond_false] at h ⊢
    · exact adds_set v a hc rfl _ _ _ _ _
    · simp at h
  · exact a
theorem bk_cash {b : Bnk} (v : Valid b) {co kd n : Int} (hc : 0 ≤ co ∧ co ≤ 11) (h : (bkP b co kd n).1 = 0) (i : Nat) : (accAt (bkP b co kd n).2 i).cash = if co.toNat = i then (accAt b co).cash + n else (accAt b i).cash := by
  unfold bkP at h ⊢
  cases h0 : n == 0 <;> rw [h0] at h <;> simp only [cond_true, cond_false] at h ⊢
  · cases h1 : bookBad (accAt b co).cash n b.book.length <;> rw [h1] at h <;> simp only [cond_true, cond_false] at h ⊢
    · rw [accAt_set (by have := v.len; omega)]
      split <;> rfl
    · simp at h
  · have hz : n = 0 := by simpa using h0
    subst hz
    split
    · rename_i e
      have e1 : co = i := by omega
      rw [e1]
      show (accAt b i).cash = _
      omega
    · rfl
theorem shN_cash (m : Int) (X : List Acc) : ∀ (i j : Nat), ((shN m X i)[j]?).map Acc.cash = (X[j]?).map Acc.cash
  | 0, _ => rfl
  | i + 1, j => by
    have ih := shN_cash m X i j
    cases hx : X[i]? with
    | none =>
      have : shN m X (i + 1) = shN m X i := by
        show (match X[i]? with | some a => (shN m X i).set i (goneA m a 4) | none => shN m X i) = _
        rw [hx]
      rw [this]; exact ih
    | some a =>
      rw [shN_succ m hx, List.getElem?_set]
      split
      · rename_i e
        subst e
        rw [hx]
        split
        · rfl
        · rename_i hn
          have : i < X.length := (List.getElem?_eq_some_iff.1 hx).1
          rw [shN_len] at hn
          omega
      · exact ih
theorem adds_shut {b : Bnk} (v : Valid b) (a : Adds b) {m : Nat} (hm : m < 12) (hz : (accAt b m).cash = 0) : Adds (shutB m b) := by
  intro i hi
  show sumOf i b.book = _
  rw [a i hi]
  have e := shN_cash (m : Int) (b.accs.set m shutA) 12 i
  unfold accAt shutB shutL
  simp only [Int.toNat_natCast]
  have hl : i < b.accs.length := by have := v.len; omega
  have hml : m < b.accs.length := by have := v.len; omega
  rw [List.getElem?_set] at e
  unfold accAt at hz
  simp only [Int.toNat_natCast] at hz
  have hl2 : i < (shN (m : Int) (b.accs.set m shutA) 12).length := by rw [shN_len, List.length_set]; exact hl
  rw [List.getElem?_eq_getElem hl2] at e ⊢
  by_cases k : m = i
  · subst k
    rw [if_pos rfl, if_pos hml] at e
    rw [hz]
    exact (Option.some.inj e).symm
  · rw [if_neg k] at e
    rw [List.getElem?_eq_getElem hl] at e ⊢
    exact (Option.some.inj e).symm
theorem adds_found {b : Bnk} {n : Int} (a : Adds b) (h : (foundP b n).1 = 0) : Adds (foundP b n).2 := by
  unfold foundP at h ⊢
  cases h0 : valP b == 0 <;> rw [h0] at h <;> simp only [cond_true, cond_false] at h ⊢
  case false => rw [h] at h0; cases h0
  have v := valid_of (by simpa using h0)
  cases h1 : outP n 0 11 <;> rw [h1] at h <;> simp only [cond_true, cond_false] at h ⊢
  case true => simp at h
  cases h2 : opnAt b n <;> rw [h2] at h <;> simp only [cond_true, cond_false] at h ⊢
  case true => simp at h
  cases h3 : decide (20000 ≤ (b.book.length : Int)) <;> rw [h3] at h <;> simp only [cond_true, cond_false] at h ⊢
  case true => simp at h
  exact adds_set v a (outP_false.1 h1) rfl _ _ _ _ _
theorem adds_move {b : Bnk} {co kd am sgn : Int} {st : Bool} (a : Adds b) (h : (moveP b co kd am sgn st).1 = 0) : Adds (moveP b co kd am sgn st).2 := by
  unfold moveP at h ⊢
  cases h0 : chkP b [co] == 0 <;> rw [h0] at h <;> simp only [cond_true, cond_false] at h ⊢
  case false => rw [h] at h0; cases h0
  obtain ⟨v, hc, ho⟩ := chk_parts (by simpa using h0)
  cases h1 : (outP kd 0 9 || outP am 0 1000000000000) <;> rw [h1] at h <;> simp only [cond_true, cond_false] at h ⊢
  case true => simp at h
  cases h2 : (st && decide ((accAt b co).cash < am)) <;> rw [h2] at h <;> simp only [cond_true, cond_false] at h ⊢
  case true => simp at h
  exact adds_bk v a hc h
theorem adds_bor {b : Bnk} {co steps : Int} (a : Adds b) (h : (borP b co steps).1 = 0) : Adds (borP b co steps).2 := by
  have hv := bor_valid h
  unfold borP at h ⊢
  cases h0 : chkP b [co] == 0 <;> rw [h0] at h <;> simp only [cond_true, cond_false] at h ⊢
  case false => rw [h] at h0; cases h0
  obtain ⟨v, hc, ho⟩ := chk_parts (by simpa using h0)
  cases h1 : (steps == 0 || outP steps (-1000) 1000) <;> rw [h1] at h <;> simp only [cond_true, cond_false] at h ⊢
  case true => simp at h
  cases h2 : (decide (0 < steps) && decide (prW b 500000 < (accAt b co).loan + nB (accAt b co).loan steps)) <;> rw [h2] at h <;> simp only [cond_true, cond_false] at h ⊢
  case true => simp at h
  cases h3 : (decide (steps < 0) && decide ((accAt b co).cash < -nB (accAt b co).loan steps)) <;> rw [h3] at h <;> simp only [cond_true, cond_false] at h ⊢
  case true => simp at h
  simp only [Bool.or_eq_false_iff] at h1
  have hst := outP_false.1 h1.2
  obtain ⟨hm, hop, hl⟩ := at_open v hc
  have ok := v.accs _ hm
  have l24 := v.last _ hm
  have hloan := ok.loan
  have hn : -1000000000000 ≤ nB (accAt b co).loan steps ∧ nB (accAt b co).loan steps ≤ 10000000 ∧ 0 ≤ (accAt b co).loan + nB (accAt b co).loan steps ∧ (steps ≤ 0 → nB (accAt b co).loan steps ≤ 0) := by unfold nB; split <;> omega
  have hpr := prW_small v
  have hlim : (accAt b co).loan + nB (accAt b co).loan steps ≤ 1000000000000 := by
    by_cases hp : 0 < steps
    · rw [decide_eq_true hp] at h2
      simp only [Bool.true_and] at h2
      have := of_decide_eq_false h2
      omega
    · have := hn.2.2.2 (by omega)
      omega
  have a1 : AccOk { accAt b co with opn := (accAt b co).opn, cash := (accAt b co).cash, loan := (accAt b co).loan + nB (accAt b co).loan steps } := by
    have := accOk_with (x := (accAt b co).cash) (y := (accAt b co).loan + nB (accAt b co).loan steps) ok ok.cash (by omega)
    rw [← ho, ← hop] at this
    exact this
  refine adds_bk (setB_valid v co a1 l24) (adds_keep v a ?_ hc) hc h
  rfl
theorem adds_mon {b : Bnk} (v : Valid b) (a : Adds b) : ∀ (j : Nat) (X : Bnk), j ≤ 12 → monN b j = some X → Adds X
  | 0, X, _, h => by cases h; exact a
  | j + 1, X, hj, h => by
    obtain ⟨Y, hY, h⟩ := Option.bind_eq_some_iff.mp h
    have aY := adds_mon v a j Y (by omega) hY
    have vY := (mon_valid v j Y (by omega) hY).1
    unfold monS at h
    cases ho : opnAt Y j <;> rw [ho] at h <;> simp only [cond_true, cond_false] at h
    · cases h; exact aY
    · cases h0 : (bkP Y j 1 (intN (accAt Y j).loan Y.rate)).1 == 0 <;> rw [h0] at h <;> simp only [cond_true, cond_false] at h
      · cases h
      · cases h
        exact adds_bk vY aY (by omega) (by simpa using h0)
theorem adds_monP {b : Bnk} (a : Adds b) (h : (monP b).1 = 0) : Adds (monP b).2 := by
  unfold monP at h ⊢
  cases h0 : valP b == 0 <;> rw [h0] at h <;> simp only [cond_true, cond_false] at h ⊢
  case false => rw [h] at h0; cases h0
  have v := valid_of (by simpa using h0)
  cases hx : monN b 12 with
  | none => rw [hx] at h; simp at h
  | some X => exact adds_mon v a 12 X (by omega) hx
theorem adds_year {b : Bnk} (a : Adds b) (h : (yearP b).1 = 0) : Adds (yearP b).2 := by
  unfold yearP at h ⊢
  cases h0 : valP b == 0 <;> rw [h0] at h <;> simp only [cond_true, cond_false] at h ⊢
  case false => rw [h] at h0; cases h0
  exact a
theorem qN_cash (b : Bnk) (l : List Int) : ∀ (j i : Nat), ((qN b l j)[i]?).map Acc.cash = (b.accs[i]?).map Acc.cash
  | 0, _ => rfl
  | j + 1, i => by
    have ih := qN_cash b l j i
    show ((qStep l (qN b l j) j)[i]?).map Acc.cash = _
    cases hx : (qN b l j)[j]? with
    | none => rw [qStep_none hx]; exact ih
    | some a =>
      cases ho : a.opn with
      | false => rw [qStep_shut hx ho]; exact ih
      | true =>
        rw [qStep_open hx ho, List.getElem?_set]
        split
        · rename_i e
          subst e
          have hl : j < (qN b l j).length := (List.getElem?_eq_some_iff.1 hx).1
          rw [if_pos hl, ← ih, hx]
          rfl
        · exact ih
theorem adds_qu {b : Bnk} {l : List Int} (a : Adds b) (h : (quP b l).1 = 0) : Adds (quP b l).2 := by
  unfold quP at h ⊢
  cases h0 : valP b == 0 <;> rw [h0] at h <;> simp only [cond_true, cond_false] at h ⊢
  case false => rw [h] at h0; cases h0
  have v := valid_of (by simpa using h0)
  cases h1 : ((l.length : Int) != 12) <;> rw [h1] at h <;> simp only [cond_true, cond_false] at h ⊢
  case true => simp at h
  cases h2 : l.any monI <;> rw [h2] at h <;> simp only [cond_true, cond_false] at h ⊢
  case true => simp at h
  intro i hi
  show sumOf i b.book = _
  rw [a i hi]
  have e := qN_cash b l 12 i
  unfold accAt
  simp only [Int.toNat_natCast]
  have hl : i < b.accs.length := by have := v.len; omega
  have hl2 : i < (qN b l 12).length := by rw [qN_len]; exact hl
  rw [List.getElem?_eq_getElem hl2, List.getElem?_eq_getElem hl] at e ⊢
  exact (Option.some.inj e).symm
theorem adds_buy {b : Bnk} {co of k : Int} (a : Adds b) (h : (buyP b co of k).1 = 0) : Adds (buyP b co of k).2 := by
  unfold buyP at h ⊢
  cases h0 : trdP b co of k == 0 <;> rw [h0] at h <;> simp only [cond_true, cond_false] at h ⊢
  case false => rw [h] at h0; cases h0
  obtain ⟨v, hc, hop, hc2, hop2, hne⟩ := trd_parts (by simpa using h0)
  obtain ⟨hm, ho, hl⟩ := at_open v hc2
  have l24 := v.last _ hm
  cases hx : (accAt b of).parts.findIdx? (fun p => p == -1) with
  | none => rw [hx] at h; simp at h
  | some i =>
    rw [hx] at h
    simp only at h ⊢
    cases h1 : decide ((accAt b co).cash < partsP (accAt b of) k) <;> rw [h1] at h <;> simp only [cond_true, cond_false] at h ⊢
    case true => simp at h
    refine adds_bk (setB_valid v of (accOk_part (v.accs _ hm) (by rw [ho, hop2]) (by omega)) l24) (adds_keep v a ?_ hc2) hc h
    rfl
theorem adds_sell {b : Bnk} {co of k : Int} (a : Adds b) (h : (sellP b co of k).1 = 0) : Adds (sellP b co of k).2 := by
  unfold sellP at h ⊢
  cases h0 : trdP b co of k == 0 <;> rw [h0] at h <;> simp only [cond_true, cond_false] at h ⊢
  case false => rw [h] at h0; cases h0
  obtain ⟨v, hc, hop, hc2, hop2, hne⟩ := trd_parts (by simpa using h0)
  obtain ⟨hm, ho, hl⟩ := at_open v hc2
  have l24 := v.last _ hm
  cases hx : (accAt b of).parts.reverse.findIdx? (fun p => p == co) with
  | none => rw [hx] at h; simp at h
  | some i =>
    rw [hx] at h
    simp only at h ⊢
    refine adds_bk (setB_valid v of (accOk_part (v.accs _ hm) (by rw [ho, hop2]) (by omega)) l24) (adds_keep v a ?_ hc2) hc h
    rfl
theorem adds_wind {b : Bnk} {co : Int} (a : Adds b) (h : (windP b co).1 = 0) : Adds (windP b co).2 := by
  unfold windP at h ⊢
  cases h0 : chkP b [co] == 0 <;> rw [h0] at h <;> simp only [cond_true, cond_false] at h ⊢
  case false => rw [h] at h0; cases h0
  obtain ⟨v, hc, ho⟩ := chk_parts (by simpa using h0)
  obtain ⟨hm, _, _⟩ := at_open v hc
  have hcash := (v.accs _ hm).cash
  cases h1 : (bkP b co 9 (-(accAt b co).cash)).1 == 0 <;> rw [h1] at h <;> simp only [cond_true, cond_false] at h ⊢
  case false => simp at h
  have h1' : (bkP b co 9 (-(accAt b co).cash)).1 = 0 := by simpa using h1
  have v2 := bk_valid v hc ho (by omega) (by omega) h1'
  refine adds_shut v2 (adds_bk v a hc h1') (by omega) ?_
  rw [bk_cash v hc h1', if_pos rfl]
  omega
theorem adds_merge {b : Bnk} {co of : Int} (a : Adds b) (h : (mergeP b co of).1 = 0) : Adds (mergeP b co of).2 := by
  unfold mergeP at h ⊢
  cases h0 : trdP b co of 0 == 0 <;> rw [h0] at h <;> simp only [cond_true, cond_false] at h ⊢
  case false => rw [h] at h0; cases h0
  obtain ⟨v, hc, hop, hc2, hop2, hne⟩ := trd_parts (by simpa using h0)
  obtain ⟨hm, _, _⟩ := at_open v hc2
  obtain ⟨hm1, _, _⟩ := at_open v hc
  have hcash := (v.accs _ hm).cash
  have hloan := (v.accs _ hm).loan
  have hloan1 := (v.accs _ hm1).loan
  cases h1 : (accAt b of).parts.any (fun p => p != co) <;> rw [h1] at h <;> simp only [cond_true, cond_false] at h ⊢
  case true => simp at h
  cases h2 : (bkP b of 9 (-(accAt b of).cash)).1 == 0 <;> rw [h2] at h <;> simp only [cond_true, cond_false] at h ⊢
  case false => simp at h
  have h2' : (bkP b of 9 (-(accAt b of).cash)).1 = 0 := by simpa using h2
  have v2 := bk_valid v hc2 hop2 (by omega) (by omega) h2'
  have a2 := adds_bk v a hc2 h2'
  have o2 := bk_opn v hc2 h2' co
  cases h3 : (bkP (bkP b of 9 (-(accAt b of).cash)).2 co 9 (accAt b of).cash).1 == 0 <;> rw [h3] at h <;> simp only [cond_true, cond_false] at h ⊢
  case false => simp at h
  have h3' : (bkP (bkP b of 9 (-(accAt b of).cash)).2 co 9 (accAt b of).cash).1 = 0 := by simpa using h3
  have v3 := bk_valid v2 hc (by rw [o2, hop]) (by omega) (by omega) h3'
  have a3 := adds_bk v2 a2 hc h3'
  have o3 := bk_opn v2 hc h3' co
  have c3 := bk_cash v2 hc h3' of.toNat
  have c2 := bk_cash v hc2 h2' of.toNat
  rw [if_neg (by omega)] at c3
  rw [if_pos rfl] at c2
  cases h4 : decide (1000000000000 < (accAt b co).loan + (accAt b of).loan) <;> rw [h4] at h <;> simp only [cond_true, cond_false] at h ⊢
  case true => simp at h
  have h4' := of_decide_eq_false h4
  obtain ⟨hm3, ho3, hl3⟩ := at_open v3 hc
  have l24 := v3.last _ hm3
  have ok := accOk_with (y := (accAt b co).loan + (accAt b of).loan) (v3.accs _ hm3) (v3.accs _ hm3).cash (by omega)
  rw [show (true : Bool) = (accAt (bkP (bkP b of 9 (-(accAt b of).cash)).2 co 9 (accAt b of).cash).2 co).opn by rw [ho3, o3, o2, hop]] at ok
  refine adds_shut (setB_valid v3 co ok l24) (adds_keep v3 a3 ?_ hc) (by omega) ?_
  · rfl
  · unfold setB
    rw [accAt_set hl3, if_neg (by omega), c3, c2]
    omega
theorem adds_step {b : Bnk} {s : Stp} (a : Adds b) (h : (stepP b s).1 = 0) : Adds (stepP b s).2 := by
  unfold stepP at h ⊢
  cases g0 : s.k == 0 <;> rw [g0] at h <;> simp only [cond_true, cond_false] at h ⊢
  case true => exact adds_found a h
  cases g1 : s.k == 1 <;> rw [g1] at h <;> simp only [cond_true, cond_false] at h ⊢
  case true => exact adds_move a h
  cases g2 : s.k == 2 <;> rw [g2] at h <;> simp only [cond_true, cond_false] at h ⊢
  case true => exact adds_move a h
  cases g3 : s.k == 3 <;> rw [g3] at h <;> simp only [cond_true, cond_false] at h ⊢
  case true => exact adds_move a h
  cases g4 : s.k == 4 <;> rw [g4] at h <;> simp only [cond_true, cond_false] at h ⊢
  case true => exact adds_bor a h
  cases g5 : s.k == 5 <;> rw [g5] at h <;> simp only [cond_true, cond_false] at h ⊢
  case true => exact adds_monP a h
  cases g6 : s.k == 6 <;> rw [g6] at h <;> simp only [cond_true, cond_false] at h ⊢
  case true => exact adds_qu a h
  cases g7 : s.k == 7 <;> rw [g7] at h <;> simp only [cond_true, cond_false] at h ⊢
  case true => exact adds_year a h
  cases g8 : s.k == 8 <;> rw [g8] at h <;> simp only [cond_true, cond_false] at h ⊢
  case true => exact adds_buy a h
  cases g9 : s.k == 9 <;> rw [g9] at h <;> simp only [cond_true, cond_false] at h ⊢
  case true => exact adds_sell a h
  cases g10 : s.k == 10 <;> rw [g10] at h <;> simp only [cond_true, cond_false] at h ⊢
  case true => exact adds_merge a h
  cases g11 : s.k == 11 <;> rw [g11] at h <;> simp only [cond_true, cond_false] at h ⊢
  case true => exact adds_wind a h
  simp at h
end Go.Proofs.Ytdckleaemkcapaa.AM
