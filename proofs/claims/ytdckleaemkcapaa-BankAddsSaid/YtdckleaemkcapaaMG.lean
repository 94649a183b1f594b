/- Parts of the proof: B54, B55. -/
import Derived.Test.YtdckleaemkcapaaB53
import Derived.Test.YtdckleaemkcapaaB40
import Derived.Test.YtdckleaemkcapaaME
set_option linter.unusedVariables false
set_option linter.unusedSimpArgs false
namespace Go.Proofs.Ytdckleaemkcapaa.AM
open Go Go.Proofs
/-- Two answers that differ in flags alone. -/
structure Same (p q : Int × Bnk) : Prop where
  e : p.1 = q.1
  n : p.2.nrm = q.2.nrm
theorem Same.rfl (p : Int × Bnk) : Same p p := ⟨Eq.refl _, Eq.refl _⟩
theorem same_bif {t t' : Bool} (ht : t = t') {p p' q q' : Int × Bnk} (h1 : Same p p') (h2 : Same q q') : Same (bif t then p else q) (bif t' then p' else q') := by
  subst ht
  cases t
  · exact h2
  · exact h1
theorem acc_nrm {a b : Acc} (h : a.opn = b.opn ∧ a.cash = b.cash ∧ a.loan = b.loan ∧ a.parts = b.parts ∧ a.last = b.last) : a.nrm = b.nrm := by
  unfold Acc.nrm
  rw [h.1, h.2.1, h.2.2.1, h.2.2.2.1, h.2.2.2.2]
section
variable {b c : Bnk} (h : b.nrm = c.nrm)
include h
theorem nrm_accs : b.accs.map Acc.nrm = c.accs.map Acc.nrm := congrArg Bnk.accs h
theorem nrm_book : b.book = c.book := by have := congrArg Bnk.book h; exact this
theorem nrm_rate : b.rate = c.rate := by have := congrArg Bnk.rate h; exact this
theorem nrm_infl : b.infl = c.infl := by have := congrArg Bnk.infl h; exact this
theorem nrm_idx : b.idx = c.idx := by have := congrArg Bnk.idx h; exact this
theorem nrm_set {x y : Acc} (hx : x.nrm = y.nrm) (i : Nat) (l : List Ent) (na nb na' nb' : Bool) : (⟨na, b.accs.set i x, b.rate, b.infl, b.idx, nb, b.book ++ l⟩ : Bnk).nrm = (⟨na', c.accs.set i y, c.rate, c.infl, c.idx, nb', c.book ++ l⟩ : Bnk).nrm := by
  unfold Bnk.nrm
  simp only
  rw [List.map_set, List.map_set, nrm_accs h, hx, nrm_book h, nrm_rate h, nrm_infl h, nrm_idx h]
theorem nrm_setB {x y : Acc} (hx : x.nrm = y.nrm) (co : Int) : (setB b co x).nrm = (setB c co y).nrm := by
  have := nrm_set h hx co.toNat [] false false false false
  rw [List.append_nil, List.append_nil] at this
  exact this
theorem nrm_plain : (plainB b).nrm = (plainB c).nrm := by
  unfold plainB Bnk.nrm
  simp only
  rw [nrm_accs h, nrm_book h, nrm_rate h, nrm_infl h, nrm_idx h]
theorem chkP_same (l : List Int) : chkP b l = chkP c l := by
  unfold chkP
  have : notOpn b = notOpn c := by funext n; unfold notOpn; rw [opnAt_same h]
  rw [valP_same h, this]
theorem bkP_same (co kd n : Int) : Same (bkP b co kd n) (bkP c co kd n) := by
  have k := accAt_same h co
  unfold bkP
  refine same_bif (Eq.refl _) ⟨Eq.refl _, nrm_plain h⟩ (same_bif (by rw [k.2.1, nrm_book h]) (Same.rfl _) ⟨Eq.refl _, nrm_set h ?_ _ _ _ _ _ _⟩)
  refine acc_nrm ⟨k.1, ?_, k.2.2.1, k.2.2.2.1, k.2.2.2.2⟩
  show (accAt b co).cash + n = (accAt c co).cash + n
  rw [k.2.1]
theorem foundP_same (n : Int) : Same (foundP b n) (foundP c n) := by
  have k := accAt_same h n
  unfold foundP
  rw [valP_same h, opnAt_same h, nrm_book h]
  refine same_bif (Eq.refl _) (same_bif (Eq.refl _) (Same.rfl _) (same_bif (Eq.refl _) (Same.rfl _) (same_bif (Eq.refl _) (Same.rfl _) ⟨Eq.refl _, ?_⟩))) (Same.rfl _)
  have := nrm_set h (x := { accAt b n with opn := true, cash := (accAt b n).cash + 100000, loan := 100000 }) (y := { accAt c n with opn := true, cash := (accAt c n).cash + 100000, loan := 100000 }) (acc_nrm ⟨Eq.refl _, by show (accAt b n).cash + 100000 = _; rw [k.2.1], Eq.refl _, k.2.2.2.1, k.2.2.2.2⟩) n.toNat [⟨n, 0, 100000⟩] false false false false
  rw [nrm_book h] at this
  exact this
theorem moveP_same (co kd am sgn : Int) (st : Bool) : Same (moveP b co kd am sgn st) (moveP c co kd am sgn st) := by
  have k := accAt_same h co
  unfold moveP
  rw [chkP_same h, k.2.1]
  exact same_bif (Eq.refl _) (same_bif (Eq.refl _) (Same.rfl _) (same_bif (Eq.refl _) (Same.rfl _) (bkP_same h _ _ _))) (Same.rfl _)
theorem borP_same (co steps : Int) : Same (borP b co steps) (borP c co steps) := by
  have k := accAt_same h co
  have hp : prW b 500000 = prW c 500000 := by unfold prW; rw [nrm_idx h]
  unfold borP
  rw [chkP_same h, k.2.1, k.2.2.1, hp]
  refine same_bif (Eq.refl _) (same_bif (Eq.refl _) (Same.rfl _) (same_bif (Eq.refl _) (Same.rfl _) (same_bif (Eq.refl _) (Same.rfl _) (bkP_same (nrm_setB h ?_ _) _ _ _)))) (Same.rfl _)
  exact acc_nrm ⟨k.1, Eq.refl _, Eq.refl _, k.2.2.2.1, k.2.2.2.2⟩
theorem yearP_same : Same (yearP b) (yearP c) := by
  unfold yearP
  rw [valP_same h]
  refine same_bif (Eq.refl _) ⟨Eq.refl _, ?_⟩ (Same.rfl _)
  unfold yearI Bnk.nrm
  simp only
  rw [nrm_accs h, nrm_book h, nrm_rate h, nrm_infl h, nrm_idx h]
theorem worthP_same (n k : Int) : worthP (accAt b n) k = worthP (accAt c n) k := by
  have t := accAt_same h n
  unfold worthP
  rw [t.2.1, t.2.2.1]
theorem partsP_same (n k : Int) : partsP (accAt b n) k = partsP (accAt c n) k := by
  unfold partsP
  rw [worthP_same h]
theorem trdP_same (co of k : Int) : trdP b co of k = trdP c co of k := by unfold trdP; rw [chkP_same h]
theorem buyP_same (co of k : Int) : Same (buyP b co of k) (buyP c co of k) := by
  have t := accAt_same h of
  unfold buyP
  rw [trdP_same h, partsP_same h, (accAt_same h co).2.1, t.2.2.2.1]
  refine same_bif (Eq.refl _) ?_ (Same.rfl _)
  cases (accAt c of).parts.findIdx? (fun p => p == -1) with
  | none => exact Same.rfl _
  | some i =>
    refine same_bif (Eq.refl _) (Same.rfl _) (bkP_same (nrm_setB h ?_ _) _ _ _)
    exact acc_nrm ⟨t.1, t.2.1, t.2.2.1, Eq.refl _, t.2.2.2.2⟩
theorem sellP_same (co of k : Int) : Same (sellP b co of k) (sellP c co of k) := by
  have t := accAt_same h of
  unfold sellP
  rw [trdP_same h, partsP_same h, t.2.2.2.1]
  refine same_bif (Eq.refl _) ?_ (Same.rfl _)
  cases (accAt c of).parts.reverse.findIdx? (fun p => p == co) with
  | none => exact Same.rfl _
  | some i =>
    refine bkP_same (nrm_setB h ?_ _) _ _ _
    exact acc_nrm ⟨t.1, t.2.1, t.2.2.1, Eq.refl _, t.2.2.2.2⟩
end
theorem mon_same {b c : Bnk} (h : b.nrm = c.nrm) : ∀ j, (monN b j = none ∧ monN c j = none) ∨ ∃ X Y, monN b j = some X ∧ monN c j = some Y ∧ X.nrm = Y.nrm
  | 0 => .inr ⟨_, _, Eq.refl _, Eq.refl _, nrm_plain h⟩
  | j + 1 => by
    rcases mon_same h j with ⟨h1, h2⟩ | ⟨X, Y, h1, h2, h3⟩
    · left
      exact ⟨monN_none b h1 _ (by omega), monN_none c h2 _ (by omega)⟩
    · show ((monN b j).bind (monS j) = none ∧ (monN c j).bind (monS j) = none) ∨ ∃ X' Y', (monN b j).bind (monS j) = some X' ∧ (monN c j).bind (monS j) = some Y' ∧ X'.nrm = Y'.nrm
      rw [h1, h2]
      simp only [Option.bind_some]
      unfold monS
      have k := accAt_same h3 j
      have s := bkP_same h3 j 1 (intN (accAt Y j).loan Y.rate)
      rw [opnAt_same h3, k.2.2.1, nrm_rate h3, s.e]
      cases opnAt Y j
      · exact .inr ⟨X, Y, Eq.refl _, Eq.refl _, h3⟩
      · cases (bkP Y j 1 (intN (accAt Y j).loan Y.rate)).1 == 0
        · exact .inl ⟨Eq.refl _, Eq.refl _⟩
        · exact .inr ⟨_, _, Eq.refl _, Eq.refl _, s.n⟩
theorem monP_same {b c : Bnk} (h : b.nrm = c.nrm) : Same (monP b) (monP c) := by
  unfold monP
  rw [valP_same h]
  refine same_bif (Eq.refl _) ?_ (Same.rfl _)
  rcases mon_same h 12 with ⟨h1, h2⟩ | ⟨X, Y, h1, h2, h3⟩
  · rw [h1, h2]; exact Same.rfl _
  · rw [h1, h2]; exact ⟨Eq.refl _, h3⟩
theorem map_get {X Y : List Acc} (h : X.map Acc.nrm = Y.map Acc.nrm) (i : Nat) : (X[i]? = none ∧ Y[i]? = none) ∨ ∃ a a', X[i]? = some a ∧ Y[i]? = some a' ∧ a.nrm = a'.nrm := by
  have e : (X.map Acc.nrm)[i]? = (Y.map Acc.nrm)[i]? := by rw [h]
  rw [List.getElem?_map, List.getElem?_map] at e
  cases hx : X[i]? with
  | none =>
    rw [hx] at e
    cases hy : Y[i]? with
    | none => exact .inl ⟨Eq.refl _, Eq.refl _⟩
    | some y => rw [hy] at e; cases e
  | some x =>
    rw [hx] at e
    cases hy : Y[i]? with
    | none => rw [hy] at e; cases e
    | some y =>
      rw [hy] at e
      exact .inr ⟨x, y, Eq.refl _, Eq.refl _, Option.some.inj e⟩
theorem nrm_fields {a b : Acc} (h : a.nrm = b.nrm) : a.opn = b.opn ∧ a.cash = b.cash ∧ a.loan = b.loan ∧ a.parts = b.parts ∧ a.last = b.last := by
  unfold Acc.nrm at h
  simp only [Acc.mk.injEq] at h
  exact ⟨h.1, h.2.1, h.2.2.1, h.2.2.2.2.1, h.2.2.2.2.2.2⟩
theorem qN_same {b c : Bnk} (h : b.nrm = c.nrm) (l : List Int) : ∀ j, (qN b l j).map Acc.nrm = (qN c l j).map Acc.nrm
  | 0 => nrm_accs h
  | j + 1 => by
    have ih := qN_same h l j
    show (qStep l (qN b l j) j).map Acc.nrm = (qStep l (qN c l j) j).map Acc.nrm
    rcases map_get ih j with ⟨h1, h2⟩ | ⟨a, a', h1, h2, h3⟩
    · rw [qStep_none h1, qStep_none h2]; exact ih
    · have f := nrm_fields h3
      cases ho : a'.opn with
      | false => rw [qStep_shut h1 (by rw [f.1, ho]), qStep_shut h2 ho]; exact ih
      | true =>
        rw [qStep_open h1 (by rw [f.1, ho]), qStep_open h2 ho, List.map_set, List.map_set, ih]
        congr 1
        refine acc_nrm ⟨f.1, f.2.1, f.2.2.1, f.2.2.2.1, ?_⟩
        show newLast a _ = newLast a' _
        unfold newLast worthP
        rw [f.2.1, f.2.2.1, f.2.2.2.2]
theorem quP_same {b c : Bnk} (h : b.nrm = c.nrm) (l : List Int) : Same (quP b l) (quP c l) := by
  unfold quP
  rw [valP_same h]
  refine same_bif (Eq.refl _) (same_bif (Eq.refl _) (Same.rfl _) (same_bif (Eq.refl _) (Same.rfl _) ⟨Eq.refl _, ?_⟩)) (Same.rfl _)
  unfold Bnk.nrm
  simp only
  rw [qN_same h l 12, nrm_book h, nrm_rate h, nrm_infl h, nrm_idx h]
theorem shN_same {m : Int} {X Y : List Acc} (h : X.map Acc.nrm = Y.map Acc.nrm) : ∀ i, (shN m X i).map Acc.nrm = (shN m Y i).map Acc.nrm
  | 0 => h
  | i + 1 => by
    have ih := shN_same (m := m) h i
    rcases map_get h i with ⟨h1, h2⟩ | ⟨a, a', h1, h2, h3⟩
    · show (match X[i]? with | some a => (shN m X i).set i (goneA m a 4) | none => shN m X i).map Acc.nrm = (match Y[i]? with | some a => (shN m Y i).set i (goneA m a 4) | none => shN m Y i).map Acc.nrm
      rw [h1, h2]; exact ih
    · rw [shN_succ m h1, shN_succ m h2, List.map_set, List.map_set, ih]
      have f := nrm_fields h3
      congr 1
      refine acc_nrm ⟨f.1, f.2.1, f.2.2.1, ?_, f.2.2.2.2⟩
      show goneTo m a.parts 4 = goneTo m a'.parts 4
      rw [f.2.2.2.1]
theorem shutB_same {b c : Bnk} (h : b.nrm = c.nrm) (m : Nat) : (shutB m b).nrm = (shutB m c).nrm := by
  have e : (shutL m b.accs).map Acc.nrm = (shutL m c.accs).map Acc.nrm := by
    unfold shutL
    refine shN_same ?_ 12
    rw [List.map_set, List.map_set, nrm_accs h]
  unfold shutB Bnk.nrm
  simp only
  rw [e, nrm_book h, nrm_rate h, nrm_infl h, nrm_idx h]
theorem windP_same {b c : Bnk} (h : b.nrm = c.nrm) (co : Int) : Same (windP b co) (windP c co) := by
  have s := bkP_same h co 9 (-(accAt c co).cash)
  unfold windP
  rw [chkP_same h, (accAt_same h co).2.1, s.e]
  exact same_bif (Eq.refl _) (same_bif (Eq.refl _) ⟨Eq.refl _, shutB_same s.n _⟩ (Same.rfl _)) (Same.rfl _)
theorem mergeP_same {b c : Bnk} (h : b.nrm = c.nrm) (co of : Int) : Same (mergeP b co of) (mergeP c co of) := by
  have t := accAt_same h of
  have s1 := bkP_same h of 9 (-(accAt c of).cash)
  have s2 := bkP_same s1.n co 9 (accAt c of).cash
  have k := accAt_same s2.n co
  unfold mergeP
  rw [trdP_same h, t.2.1, t.2.2.1, t.2.2.2.1, (accAt_same h co).2.2.1, s1.e, s2.e]
  refine same_bif (Eq.refl _) (same_bif (Eq.refl _) (Same.rfl _) (same_bif (Eq.refl _) (same_bif (Eq.refl _) (same_bif (Eq.refl _) (Same.rfl _) ⟨Eq.refl _, shutB_same (nrm_setB s2.n ?_ _) _⟩) (Same.rfl _)) (Same.rfl _))) (Same.rfl _)
  exact acc_nrm ⟨k.1, k.2.1, Eq.refl _, k.2.2.2.1, k.2.2.2.2⟩
end Go.Proofs.Ytdckleaemkcapaa.AM
namespace Go.Proofs.Ytdckleaemkcapaa.AM
open Go Go.Proofs
theorem at_open {b : Bnk} (v : Valid b) {n : Int} (h : 0 ≤ n ∧ n ≤ 11) : accAt b n ∈ b.accs ∧ (accAt b n).opn = opnAt b n ∧ n.toNat < b.accs.length := by
  have hl : n.toNat < b.accs.length := by have := v.len; omega
  have e : accAt b n = b.accs[n.toNat] := by unfold accAt; simp [hl]
  refine ⟨by rw [e]; exact List.getElem_mem hl, ?_, hl⟩
  rw [e]; unfold opnAt; simp [hl]
theorem found_valid {b : Bnk} {n : Int} (h : (foundP b n).1 = 0) : Valid (foundP b n).2 := by
  unfold foundP at h ⊢
  cases h0 : valP b == 0 <;> rw [h0] at h <;> simp only [cond_true, cond_false] at h ⊢
  case false => rw [h] at h0; cases h0
  have v := valid_of (by simpa using h0)
  cases h1 : outP n 0 11 <;> rw [h1] at h <;> simp only [cond_true, cond_false] at h ⊢
  case true => simp at h
  cases h2 : opnAt b n <;> rw [h2] at h <;> simp only [cond_true, cond_false] at h ⊢
  case true => simp at h
  cases h3 : decide (20000 ≤ (b.book.length : Int)) <;> rw [h3] at h <;> simp only [cond_true, cond_false] at h ⊢
  case true => simp at h
  have hn := outP_false.1 h1
  obtain ⟨hm, ho, hl⟩ := at_open v hn
  have ok := v.accs _ hm
  have l24 := v.last _ hm
  have hz := (ok.none (by rw [ho, h2])).2.1
  have hb := of_decide_eq_false h3
  exact valid_with v (accOk_with ok (by omega) (by omega)) l24 (by simp; omega) (fun e' he => by
    simp only [List.mem_singleton] at he
    subst he
    exact ⟨hn, by simp, by simp, by simp⟩) _ _
theorem chk_parts {b : Bnk} {co : Int} (h : chkP b [co] = 0) : Valid b ∧ (0 ≤ co ∧ co ≤ 11) ∧ opnAt b co = true := by
  obtain ⟨v, g⟩ := chk_zero h
  have := g co (by simp)
  exact ⟨v, ⟨this.1, this.2.1⟩, this.2.2.2⟩
theorem move_valid {b : Bnk} {co kd am sgn : Int} {st : Bool} (hs : sgn = 1 ∨ sgn = -1) (h : (moveP b co kd am sgn st).1 = 0) : Valid (moveP b co kd am sgn st).2 := by
  unfold moveP at h ⊢
  cases h0 : chkP b [co] == 0 <;> rw [h0] at h <;> simp only [cond_true, cond_false] at h ⊢
  case false => rw [h] at h0; cases h0
  obtain ⟨v, hc, ho⟩ := chk_parts (by simpa using h0)
  cases h1 : (outP kd 0 9 || outP am 0 1000000000000) <;> rw [h1] at h <;> simp only [cond_true, cond_false] at h ⊢
  case true => simp at h
  cases h2 : (st && decide ((accAt b co).cash < am)) <;> rw [h2] at h <;> simp only [cond_true, cond_false] at h ⊢
  case true => simp at h
  simp only [Bool.or_eq_false_iff] at h1
  have k1 := outP_false.1 h1.1
  have k2 := outP_false.1 h1.2
  exact bk_valid v hc ho k1 (by rcases hs with rfl | rfl <;> omega) h
theorem opn_setB {b : Bnk} {co n : Int} {a : Acc} (hl : co.toNat < b.accs.length) (h : a.opn = opnAt b co) : opnAt (setB b co a) n = opnAt b n := by
  unfold opnAt setB
  simp only
  by_cases e : co.toNat = n.toNat
  · rw [e, List.getElem?_set, if_pos rfl, if_pos (by omega)]
    unfold opnAt at h
    rw [e] at h
    simpa using h
  · rw [List.getElem?_set, if_neg e]
theorem bor_valid {b : Bnk} {co steps : Int} (h : (borP b co steps).1 = 0) : Valid (borP b co steps).2 := by
  unfold borP at h ⊢
  cases h0 : chkP b [co] == 0 <;> rw [h0] at h <;> simp only [cond_true, cond_false] at h ⊢
  case false => rw [h] at h0; cases h0
  obtain ⟨v, hc, ho⟩ := chk_parts (by simpa using h0)
  cases h1 : (steps == 0 || outP steps (-1000) 1000) <;> rw [h1] at h <;> simp only [cond_true, cond_false] at h ⊢
  case true => simp at h
  simp only [Bool.or_eq_false_iff] at h1
  have hst := outP_false.1 h1.2
  obtain ⟨hm, hop, hl⟩ := at_open v hc
  have ok := v.accs _ hm
  have l24 := v.last _ hm
  have hloan := ok.loan
  have hn : -1000000000000 ≤ nB (accAt b co).loan steps ∧ nB (accAt b co).loan steps ≤ 10000000 ∧ 0 ≤ (accAt b co).loan + nB (accAt b co).loan steps ∧ (steps ≤ 0 → nB (accAt b co).loan steps ≤ 0) := by unfold nB; split <;> omega
  cases h2 : (decide (0 < steps) && decide (prW b 500000 < (accAt b co).loan + nB (accAt b co).loan steps)) <;> rw [h2] at h <;> simp only [cond_true, cond_false] at h ⊢
  case true => simp at h
  cases h3 : (decide (steps < 0) && decide ((accAt b co).cash < -nB (accAt b co).loan steps)) <;> rw [h3] at h <;> simp only [cond_true, cond_false] at h ⊢
  case true => simp at h
  have hpr := prW_small v
  have hlim : (accAt b co).loan + nB (accAt b co).loan steps ≤ 1000000000000 := by
    by_cases hp : 0 < steps
    · rw [decide_eq_true hp] at h2
      simp only [Bool.true_and] at h2
      have := of_decide_eq_false h2
      omega
    · have := hn.2.2.2 (by omega)
      omega
  have a1 : AccOk { accAt b co with opn := (accAt b co).opn, cash := (accAt b co).cash, loan := (accAt b co).loan + nB (accAt b co).loan steps } := by
    have := accOk_with (x := (accAt b co).cash) (y := (accAt b co).loan + nB (accAt b co).loan steps) ok ok.cash (by omega)
    rw [← ho, ← hop] at this
    exact this
  exact bk_valid (setB_valid v co a1 l24) hc (by refine (opn_setB hl ?_).trans ho; exact hop) (by omega) (by omega) h
theorem year_valid {b : Bnk} (h : (yearP b).1 = 0) : Valid (yearP b).2 := by
  unfold yearP at h ⊢
  cases h0 : valP b == 0 <;> rw [h0] at h <;> simp only [cond_true, cond_false] at h ⊢
  case false => rw [h] at h0; cases h0
  have v := valid_of (by simpa using h0)
  have hx := v.idx
  have hf := v.infl
  have hy : 65536 ≤ yearI b ∧ yearI b ≤ 262144 := by
    unfold yearI
    have h1 : 0 ≤ b.idx * b.infl := Int.mul_nonneg (by omega) hf.1
    have h2 : b.idx * b.infl ≤ 262144 * 100 := Int.mul_le_mul hx.2 hf.2 hf.1 (by omega)
    generalize b.idx * b.infl = p at *
    rw [wrap_id (n := p) (by omega) (by omega), Int.tdiv_eq_ediv_of_nonneg h1, wrap_id (n := p / 100) (by omega) (by omega), wrap_id (by omega) (by omega)]
    simp only
    split <;> omega
  exact ⟨v.len, v.rate, v.infl, hy, v.accs, v.last, v.book, v.ents⟩
theorem monP_valid {b : Bnk} (h : (monP b).1 = 0) : Valid (monP b).2 := by
  unfold monP at h ⊢
  cases h0 : valP b == 0 <;> rw [h0] at h <;> simp only [cond_true, cond_false] at h ⊢
  case false => rw [h] at h0; cases h0
  have v := valid_of (by simpa using h0)
  cases hx : monN b 12 with
  | none => rw [hx] at h; simp at h
  | some X => exact (mon_valid v 12 X (by omega) hx).1
theorem qN_ok {b : Bnk} (v : Valid b) (l : List Int) : ∀ j, (∀ a ∈ qN b l j, AccOk a) ∧ (∀ a ∈ qN b l j, a.last.length ≤ 24)
  | 0 => ⟨v.accs, v.last⟩
  | j + 1 => by
    obtain ⟨h1, h2⟩ := qN_ok v l j
    show (∀ a ∈ qStep l (qN b l j) j, AccOk a) ∧ (∀ a ∈ qStep l (qN b l j) j, a.last.length ≤ 24)
    cases hx : (qN b l j)[j]? with
    | none => rw [qStep_none hx]; exact ⟨h1, h2⟩
    | some a =>
      cases ho : a.opn with
      | false => rw [qStep_shut hx ho]; exact ⟨h1, h2⟩
      | true =>
        rw [qStep_open hx ho]
        have hm := List.mem_of_getElem? hx
        have k := h1 a hm
        have w := worthP_small a ((l[j]?).getD 0)
        have n : AccOk { a with last := newLast a ((l[j]?).getD 0) } := ⟨k.lp, k.cash, k.loan, k.parts, fun e => (by rw [ho] at e; cases e), fun x hx => by
          have hx' : x ∈ (a.last ++ [worthP a ((l[j]?).getD 0)]).drop (a.last.length - 23) := hx
          rcases List.mem_append.1 (List.mem_of_mem_drop hx') with hx' | hx'
          · exact k.last x hx'
          · simp only [List.mem_singleton] at hx'
            subst hx'
            exact w⟩
        refine ⟨fun x hx => ?_, fun x hx => ?_⟩
        · rcases List.mem_or_eq_of_mem_set hx with hx | rfl
          · exact h1 x hx
          · exact n
        · rcases List.mem_or_eq_of_mem_set hx with hx | rfl
          · exact h2 x hx
          · exact newLast_len (h2 a hm) _
theorem quP_valid {b : Bnk} {l : List Int} (h : (quP b l).1 = 0) : Valid (quP b l).2 := by
  unfold quP at h ⊢
  cases h0 : valP b == 0 <;> rw [h0] at h <;> simp only [cond_true, cond_false] at h ⊢
  case false => rw [h] at h0; cases h0
  have v := valid_of (by simpa using h0)
  cases h1 : ((l.length : Int) != 12) <;> rw [h1] at h <;> simp only [cond_true, cond_false] at h ⊢
  case true => simp at h
  cases h2 : l.any monI <;> rw [h2] at h <;> simp only [cond_true, cond_false] at h ⊢
  case true => simp at h
  obtain ⟨k1, k2⟩ := qN_ok v l 12
  exact ⟨by rw [qN_len]; exact v.len, v.rate, v.infl, v.idx, k1, k2, v.book, v.ents⟩
theorem accOk_part {a : Acc} (h : AccOk a) (ho : a.opn = true) {k : Nat} {x : Int} (hx : -1 ≤ x ∧ x ≤ 11) : AccOk { a with parts := a.parts.set k x } :=
  ⟨by simpa using h.lp, h.cash, h.loan, fun p hp => by
    rcases List.mem_or_eq_of_mem_set hp with hp | rfl
    · exact h.parts p hp
    · exact hx, fun e => (by rw [ho] at e; cases e), h.last⟩
theorem trd_parts {b : Bnk} {co of k : Int} (h : trdP b co of k = 0) : Valid b ∧ (0 ≤ co ∧ co ≤ 11) ∧ opnAt b co = true ∧ (0 ≤ of ∧ of ≤ 11) ∧ opnAt b of = true ∧ co ≠ of := by
  obtain ⟨h0, h1, _⟩ := trd_zero h
  obtain ⟨v, g⟩ := chk_zero h0
  have g1 := g co (by simp)
  have g2 := g of (by simp)
  exact ⟨v, ⟨g1.1, g1.2.1⟩, g1.2.2.2, ⟨g2.1, g2.2.1⟩, g2.2.2.2, h1⟩
theorem buyP_valid {b : Bnk} {co of k : Int} (h : (buyP b co of k).1 = 0) : Valid (buyP b co of k).2 := by
  unfold buyP at h ⊢
  cases h0 : trdP b co of k == 0 <;> rw [h0] at h <;> simp only [cond_true, cond_false] at h ⊢
  case false => rw [h] at h0; cases h0
  obtain ⟨v, hc, hop, hc2, hop2, hne⟩ := trd_parts (by simpa using h0)
  obtain ⟨hm, ho, hl⟩ := at_open v hc2
  have ps := partsP_small (accAt b of) k
  cases hx : (accAt b of).parts.findIdx? (fun p => p == -1) with
  | none => rw [hx] at h; simp at h
  | some i =>
    rw [hx] at h
    simp only at h ⊢
    cases h1 : decide ((accAt b co).cash < partsP (accAt b of) k) <;> rw [h1] at h <;> simp only [cond_true, cond_false] at h ⊢
    case true => simp at h
    have l24 := v.last _ hm
    exact bk_valid (setB_valid v of (accOk_part (v.accs _ hm) (by rw [ho, hop2]) (by omega)) l24) hc (by refine (opn_setB hl ?_).trans hop; exact ho) (by omega) (by omega) h
theorem sellP_valid {b : Bnk} {co of k : Int} (h : (sellP b co of k).1 = 0) : Valid (sellP b co of k).2 := by
  unfold sellP at h ⊢
  cases h0 : trdP b co of k == 0 <;> rw [h0] at h <;> simp only [cond_true, cond_false] at h ⊢
  case false => rw [h] at h0; cases h0
  obtain ⟨v, hc, hop, hc2, hop2, hne⟩ := trd_parts (by simpa using h0)
  obtain ⟨hm, ho, hl⟩ := at_open v hc2
  have ps := partsP_small (accAt b of) k
  cases hx : (accAt b of).parts.reverse.findIdx? (fun p => p == co) with
  | none => rw [hx] at h; simp at h
  | some i =>
    rw [hx] at h
    simp only at h ⊢
    have l24 := v.last _ hm
    exact bk_valid (setB_valid v of (accOk_part (v.accs _ hm) (by rw [ho, hop2]) (by omega)) l24) hc (by refine (opn_setB hl ?_).trans hop; exact ho) (by omega) (by omega) h
theorem shutA_ok : AccOk shutA := ⟨rfl, by simp [shutA], by simp [shutA], fun p hp => by simp [shutA] at hp; omega, fun _ => ⟨fun p hp => by simpa [shutA] using hp, rfl, rfl, rfl⟩, fun n hn => by simp [shutA] at hn⟩
theorem goneA_ok {a : Acc} (h : AccOk a) (m : Int) : AccOk (goneA m a 4) := by
  have e : (goneA m a 4).parts = a.parts.map (gone m) := goneTo_all m (by have := h.lp; omega)
  refine ⟨by rw [e, List.length_map]; exact h.lp, h.cash, h.loan, fun p hp => ?_, fun ho => ?_, h.last⟩
  · rw [e] at hp
    obtain ⟨q, hq, rfl⟩ := List.mem_map.1 hp
    unfold gone
    cases q == m
    · exact h.parts q hq
    · simp
  · have k := h.none ho
    refine ⟨fun p hp => ?_, k.2.1, k.2.2.1, k.2.2.2⟩
    rw [e] at hp
    obtain ⟨q, hq, rfl⟩ := List.mem_map.1 hp
    unfold gone
    cases q == m
    · exact k.1 q hq
    · rfl
theorem shN_ok {m : Int} {X : List Acc} (h1 : ∀ a ∈ X, AccOk a) (h2 : ∀ a ∈ X, a.last.length ≤ 24) : ∀ i, (∀ a ∈ shN m X i, AccOk a) ∧ (∀ a ∈ shN m X i, a.last.length ≤ 24)
  | 0 => ⟨h1, h2⟩
  | i + 1 => by
    obtain ⟨k1, k2⟩ := shN_ok (m := m) h1 h2 i
    cases hx : X[i]? with
    | none =>
      have : shN m X (i + 1) = shN m X i := by
        show (match X[i]? with | some a => (shN m X i).set i (goneA m a 4) | none => shN m X i) = _
        rw [hx]
      rw [this]; exact ⟨k1, k2⟩
    | some a =>
      rw [shN_succ m hx]
      have hm := List.mem_of_getElem? hx
      refine ⟨fun x hx => ?_, fun x hx => ?_⟩
      · rcases List.mem_or_eq_of_mem_set hx with hx | rfl
        · exact k1 x hx
        · exact goneA_ok (h1 a hm) m
      · rcases List.mem_or_eq_of_mem_set hx with hx | rfl
        · exact k2 x hx
        · exact h2 a hm
theorem shutB_valid {b : Bnk} (v : Valid b) (m : Nat) : Valid (shutB m b) := by
  obtain ⟨k1, k2⟩ := shN_ok (m := (m : Int)) (X := b.accs.set m shutA) (fun a ha => by
    rcases List.mem_or_eq_of_mem_set ha with ha | rfl
    · exact v.accs a ha
    · exact shutA_ok) (fun a ha => by
    rcases List.mem_or_eq_of_mem_set ha with ha | rfl
    · exact v.last a ha
    · simp [shutA]) 12
  exact ⟨by show (shN _ _ 12).length = 12; rw [shN_len, List.length_set]; exact v.len, v.rate, v.infl, v.idx, k1, k2, v.book, v.ents⟩
theorem windP_valid {b : Bnk} {co : Int} (h : (windP b co).1 = 0) : Valid (windP b co).2 := by
  unfold windP at h ⊢
  cases h0 : chkP b [co] == 0 <;> rw [h0] at h <;> simp only [cond_true, cond_false] at h ⊢
  case false => rw [h] at h0; cases h0
  obtain ⟨v, hc, ho⟩ := chk_parts (by simpa using h0)
  obtain ⟨hm, _, _⟩ := at_open v hc
  have hcash := (v.accs _ hm).cash
  cases h1 : (bkP b co 9 (-(accAt b co).cash)).1 == 0 <;> rw [h1] at h <;> simp only [cond_true, cond_false] at h ⊢
  case false => simp at h
  exact shutB_valid (bk_valid v hc ho (by omega) (by omega) (by simpa using h1)) _
theorem bk_opn {b : Bnk} (v : Valid b) {co kd n : Int} (hc : 0 ≤ co ∧ co ≤ 11) (h : (bkP b co kd n).1 = 0) (x : Int) : opnAt (bkP b co kd n).2 x = opnAt b x := by
  obtain ⟨hm, ho, hl⟩ := at_open v hc
  unfold bkP at h ⊢
  cases h0 : n == 0 <;> rw [h0] at h <;> simp only [cond_true, cond_false] at h ⊢
  · cases h1 : bookBad (accAt b co).cash n b.book.length <;> rw [h1] at h <;> simp only [cond_true, cond_false] at h ⊢
    · exact opn_setB (a := { accAt b co with cash := (accAt b co).cash + n }) hl ho
    · simp at h
  · rfl
theorem bk_loan {b : Bnk} (v : Valid b) {co kd n : Int} (hc : 0 ≤ co ∧ co ≤ 11) (h : (bkP b co kd n).1 = 0) (x : Int) : (accAt (bkP b co kd n).2 x).loan = (accAt b x).loan := by
  obtain ⟨hm, ho, hl⟩ := at_open v hc
  unfold bkP at h ⊢
  cases h0 : n == 0 <;> rw [h0] at h <;> simp only [cond_true, cond_false] at h ⊢
  · cases h1 : bookBad (accAt b co).cash n b.book.length <;> rw [h1] at h <;> simp only [cond_true, cond_false] at h ⊢
    · unfold accAt at *
      simp only
      by_cases e : co.toNat = x.toNat
      · rw [e, List.getElem?_set, if_pos rfl, if_pos (by omega)]
        rfl
      · rw [List.getElem?_set, if_neg e]
    · simp at h
  · rfl
theorem mergeP_valid {b : Bnk} {co of : Int} (h : (mergeP b co of).1 = 0) : Valid (mergeP b co of).2 := by
  unfold mergeP at h ⊢
  cases h0 : trdP b co of 0 == 0 <;> rw [h0] at h <;> simp only [cond_true, cond_false] at h ⊢
  case false => rw [h] at h0; cases h0
  obtain ⟨v, hc, hop, hc2, hop2, hne⟩ := trd_parts (by simpa using h0)
  obtain ⟨hm, _, _⟩ := at_open v hc2
  obtain ⟨hm1, _, _⟩ := at_open v hc
  have hcash := (v.accs _ hm).cash
  have hloan := (v.accs _ hm).loan
  have hloan1 := (v.accs _ hm1).loan
  cases h1 : (accAt b of).parts.any (fun p => p != co) <;> rw [h1] at h <;> simp only [cond_true, cond_false] at h ⊢
  case true => simp at h
  cases h2 : (bkP b of 9 (-(accAt b of).cash)).1 == 0 <;> rw [h2] at h <;> simp only [cond_true, cond_false] at h ⊢
  case false => simp at h
  have h2' : (bkP b of 9 (-(accAt b of).cash)).1 = 0 := by simpa using h2
  have v2 := bk_valid v hc2 hop2 (by omega) (by omega) h2'
  have o2 := bk_opn v hc2 h2' co
  cases h3 : (bkP (bkP b of 9 (-(accAt b of).cash)).2 co 9 (accAt b of).cash).1 == 0 <;> rw [h3] at h <;> simp only [cond_true, cond_false] at h ⊢
  case false => simp at h
  have h3' : (bkP (bkP b of 9 (-(accAt b of).cash)).2 co 9 (accAt b of).cash).1 = 0 := by simpa using h3
  have v3 := bk_valid v2 hc (by rw [o2, hop]) (by omega) (by omega) h3'
  have o3 := bk_opn v2 hc h3' co
  cases h4 : decide (1000000000000 < (accAt b co).loan + (accAt b of).loan) <;> rw [h4] at h <;> simp only [cond_true, cond_false] at h ⊢
  case true => simp at h
  have h4' := of_decide_eq_false h4
  obtain ⟨hm3, ho3, hl3⟩ := at_open v3 hc
  have l24 := v3.last _ hm3
  refine shutB_valid (setB_valid v3 co ?_ ?_) _
  case refine_2 => exact l24
  have := accOk_with (y := (accAt b co).loan + (accAt b of).loan) (v3.accs _ hm3) (v3.accs _ hm3).cash (by omega)
  rw [show (true : Bool) = (accAt (bkP (bkP b of 9 (-(accAt b of).cash)).2 co 9 (accAt b of).cash).2 co).opn by rw [ho3, o3, o2, hop]] at this
  exact this
end Go.Proofs.Ytdckleaemkcapaa.AM
