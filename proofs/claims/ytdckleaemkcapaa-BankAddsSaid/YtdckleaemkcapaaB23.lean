/- Texts of the proof: part B23. -/
import Derived.Test.YtdckleaemkcapaaMC
set_option maxHeartbeats 0
set_option linter.unusedSimpArgs false
set_option linter.unusedVariables false
set_option linter.unusedSectionVars false
namespace Go.Proofs.Ytdckleaemkcapaa.AM
open Go Go.Proofs
attribute [local simp] AV.cells okc AV.isBad fieldAddrA ld setCells stA skipV appendA hd makeA bnd sliceA kindA freshA killOk loadsAt newT empT lay_get allocA buildA buildRow builtinA lenA els indexAddrA isNil opA evA lit yldA binA binI unA pickA boolV intV fieldA mk flat lf lf.lfs frz
theorem copy_to {α : Type} {R : Option α → Prop} {f : Nat} (hf : f = 67 ∨ f = 69) (b : Bnk) (vb : Valid b) (w : b.Wfb) (h : Heap) (c : Nat) (K : AV × Heap × Nat → Option α)
    (k : ∀ h1 c1 la v rows, c ≤ c1 → (∀ l, l < c → h1 l = h l) → Own (fun l => c ≤ l) c1 h1 la v b.accs b.book rows → Mine rows 12 → R (K (.agg [.sl la 5 0 12, I b.rate, I b.infl, I b.idx, v], h1, c1))) :
    R ((callA (mdT tblB) (run Try.prog (mdT tblB)) f [.agg (bc b)] h c).bind K) := by
  have key : ∃ h1 c1 la v rows, run Try.prog (mdT tblB) f [.agg (bc b)] Heap.none c = some (.agg [.sl la 5 0 12, I b.rate, I b.infl, I b.idx, v], h1, c1) ∧ c ≤ c1 ∧ Own (fun l => c ≤ l) c1 h1 la v b.accs b.book rows ∧ Mine rows 12 := by
    rcases hf with rfl | rfl
    · exact rcopy_run b vb w c (fun o => ∃ h1 c1 la v rows, o = some (.agg [.sl la 5 0 12, I b.rate, I b.infl, I b.idx, v], h1, c1) ∧ c ≤ c1 ∧ Own (fun l => c ≤ l) c1 h1 la v b.accs b.book rows ∧ Mine rows 12) (fun h1 c1 la v rows h2 h3 h4 => ⟨h1, c1, la, v, rows, rfl, h2, h3, h4⟩)
    · exact bcopy_run b vb w c (fun o => ∃ h1 c1 la v rows, o = some (.agg [.sl la 5 0 12, I b.rate, I b.infl, I b.idx, v], h1, c1) ∧ c ≤ c1 ∧ Own (fun l => c ≤ l) c1 h1 la v b.accs b.book rows ∧ Mine rows 12) (fun h1 c1 la v rows h2 h3 h4 => ⟨h1, c1, la, v, rows, rfl, h2, h3, h4⟩)
  obtain ⟨h1, c1, la, v, rows, e, hc, O, M⟩ := key
  have hm : mdT tblB f = some .own := by rcases hf with rfl | rfl <;> rfl
  rw [call_own_mode hm e, Option.bind_some]
  refine k _ _ _ _ _ hc (fun l hl => ?_) (O.up fun l b' h2 h3 h4 => ?_) M
  · show (if c ≤ l ∧ l < c1 then h1 l else none).or (h l) = h l
    rw [if_neg (by omega)]
    rfl
  · show (if c ≤ l ∧ l < c1 then h1 l else none).or (h l) = some b'
    rw [if_pos ⟨h2, h3⟩, h4]
    rfl
theorem mine_put {rows : List (List AV)} (M : Mine rows 12) {j : Nat} {o : Bool} {x y : Int} {vp vl : AV} (s1 : SlV 1 vp) (s2 : SlV 1 vl) : Mine (rows.set j (rw5 o x y vp vl)) 12 := by
  intro i r hi hr
  rw [List.getElem?_set] at hr
  split at hr
  · split at hr
    · cases hr; exact ⟨o, x, y, vp, vl, rfl, s1, s2⟩
    · cases hr
  · exact M i r hi hr
theorem Mine.get {rows : List (List AV)} (M : Mine rows 12) {i : Nat} {o : Bool} {x y : Int} {vp vl : AV} (hi : i < 12) (hr : rows[i]? = some (rw5 o x y vp vl)) : SlV 1 vp ∧ SlV 1 vl := by
  obtain ⟨o', x', y', vp', vl', e, s1, s2⟩ := M i _ hi hr
  simp only [List.cons.injEq, and_true] at e
  obtain ⟨_, _, _, rfl, rfl⟩ := e
  exact ⟨s1, s2⟩
theorem els_sl {h : Heap} {l sz off len : Nat} {es : List (List AV)} (he : els h (.sl l sz off len) = some es) : ∃ B : Blk, h l = some B ∧ off + len ≤ B.es.length ∧ (B.es.drop off).take len = es ∧ es.length = len := by
  unfold els at he
  simp only at he
  obtain ⟨B, hB, he⟩ := Option.bind_eq_some_iff.mp he
  split at he
  · rename_i hc
    cases he
    exact ⟨B, hB, hc, rfl, by simp; omega⟩
  · cases he
/-- What booking comes to. -/
def bookBad (cash n : Int) (len : Nat) : Bool := outP (cash + n) (-1000000000000) 1000000000000 || decide (20000 ≤ (len : Int))
theorem book_to {α : Type} {R : Option α → Prop} (h : Heap) (c : Nat) (K : AV × Heap × Nat → Option α) {Q : Nat → Prop} {p la : Nat} {v : AV} {accs : List Acc} {book : List Ent} {rows : List (List AV)} {i : Nat} {a : Acc} {r f x kd n : Int}
    (hp : h p = some ⟨5, [[.sl la 5 0 12, I r, I f, I x, v]]⟩) (nq : ¬ Q p) (O : Own Q c h la v accs book rows) (M : Mine rows 12) (hi : i < 12) (ha : accs[i]? = some a)
    (hc : -1000000000000 ≤ a.cash ∧ a.cash ≤ 1000000000000) (hn : -1000000000000 ≤ n ∧ n ≤ 1000000000000) (hb : book.length ≤ 20012)
    (k0 : n = 0 → R (K (B true, h, c)))
    (k1 : n ≠ 0 → bookBad a.cash n book.length = true → R (K (B false, h, c)))
    (k2 : n ≠ 0 → bookBad a.cash n book.length = false → ∀ h' c' v' rows', h' p = some ⟨5, [[.sl la 5 0 12, I r, I f, I x, v']]⟩ → (∀ l, ¬ Q l → l ≠ p → h' l = h l) → c ≤ c' →
      Own Q c' h' la v' (accs.set i { a with cash := a.cash + n }) (book ++ [⟨i, kd, n⟩]) rows' → Mine rows' 12 → R (K (B true, h', c'))) :
    R ((callA (mdT tblB) (run Try.prog (mdT tblB)) 68 [.ptr p 0 0, I i, I kd, I n] h c).bind K) := by
  rw [call_heap rfl, run_eq, show mdT tblB 68 = some .heap from rfl, Option.bind_some, Try.func68]
  obtain ⟨a0, vp, vl, ha0, hr, hvp, hvl⟩ := O.get hi
  rw [ha] at ha0
  cases ha0
  obtain ⟨sp, sl⟩ := M.get hi hr
  have hla := O.hla
  have hlt : i < rows.length := by rw [O.len]; exact hi
  have hr' : rows[i] = [B a.opn, I a.cash, I a.loan, vp, vl] := by rw [List.getElem?_eq_getElem hlt] at hr; exact Option.some.inj hr
  have kk : (i : Int) < 12 := by omega
  have w1 : IntKind.i64.wrap (a.cash + n) = a.cash + n := wrap_id (by omega) (by omega)
  have q1 : ¬ (p = la) := fun e => nq (e ▸ O.sep4.1)
  have q2 : ¬ (la = p) := fun e => q1 e.symm
  have q3 : ¬ (p = c) := fun e => nq (e ▸ O.fr c (Nat.le_refl _))
  have q4 : ¬ (c = p) := fun e => q3 e.symm
  have q5 : ¬ (p = c + 1) := fun e => nq (e ▸ O.fr (c + 1) (by omega))
  have q6 : ¬ (c + 1 = p) := fun e => q5 e.symm
  have lc := O.sep4.2
  have q7 : ¬ (la = c) := by omega
  have q8 : ¬ (c = la) := by omega
  have q9 : ¬ (la = c + 1) := by omega
  have q10 : ¬ (c + 1 = la) := by omega
  by_cases g0 : n = 0
  · have g1 : (n == 0) = true := by simpa using g0
    simp -implicitDefEqProofs [Try.f68, g1, hp]
    exact k0 g0
  have g1 : (n == 0) = false := by simpa using g0
  cases g2 : bookBad a.cash n book.length
  case true =>
    have k := k1 g0 g2
    unfold bookBad at g2
    cases g3 : outP (a.cash + n) (-1000000000000) 1000000000000
    · rw [g3] at g2
      simp only [Bool.false_or] at g2
      have hbk := O.bk
      rcases O.bkv with ⟨lb, off, len, rfl⟩ | rfl | rfl
      · obtain ⟨_, _, _, _, e4⟩ := els_sl hbk
        have b5 : len = book.length := by simpa using e4.symm
        subst b5
        have g4 : outP n (-1000000000000) 1000000000000 = false := outP_false.2 hn
        simp -implicitDefEqProofs [Try.f68, g1, g2, g3, g4, hp, hla, hlt, hr', kk, w1, -decide_eq_true_eq, -decide_eq_false_iff_not]
        exact k
      · have : book.length = 0 := by simpa [els] using hbk
        have := of_decide_eq_true g2
        omega
      · have : book.length = 0 := by simpa [els] using hbk
        have := of_decide_eq_true g2
        omega
    · simp -implicitDefEqProofs [Try.f68, g1, g3, hp, hla, hlt, hr', kk, w1, hp, -decide_eq_true_eq, -decide_eq_false_iff_not]
      exact k
  have k := k2 g0 g2
  unfold bookBad at g2
  simp only [Bool.or_eq_false_iff] at g2
  obtain ⟨g3, g4⟩ := g2
  have ln : book.length < 20000 := by have := of_decide_eq_false g4; omega
  have g5 : outP n (-1000000000000) 1000000000000 = false := outP_false.2 hn
  have r1 : (book.length + 1) * 24 ≤ room := by unfold room; omega
  have r2 : book.length + 1 ≤ room := by unfold room; omega
  have r3 : (1 : Nat) * 24 ≤ room := by unfold room; omega
  have r4 : (1 : Nat) ≤ room := by unfold room; omega
  have oa : accs.length = 12 := O.alen
  have hbk := O.bk
  rcases O.bkv with ⟨lb, off, len, hv⟩ | hv | hv
  · subst hv
    obtain ⟨BB, b1, b2, b3, b4⟩ := els_sl hbk
    have b5 : len = book.length := by simpa using b4.symm
    subst b5
    have s3 := O.sep3 lb (by simp)
    have m1 : ¬ (p = lb) := fun e => nq (e ▸ s3.2.1)
    have m2 : ¬ (lb = p) := fun e => m1 e.symm
    have m3 : ¬ (la = lb) := fun e => s3.1 e.symm
    have m4 : ¬ (lb = la) := s3.1
    have m5 : ¬ (lb = c) := by have := s3.2.2; omega
    have m6 : ¬ (c = lb) := fun e => m5 e.symm
    have m7 : ¬ (lb = c + 1) := by have := s3.2.2; omega
    have m8 : ¬ (c + 1 = lb) := fun e => m7 e.symm
    have m9 : ¬ (lb = c + 1 + 1) := by have := s3.2.2; omega
    have O1 := O.upd (h' := h.put la (some ⟨5, rows.set i (rw5 a.opn (a.cash + n) a.loan vp vl)⟩)) (a' := { a with cash := a.cash + n }) hi hr (Nat.le_refl c) (by simp) (fun l hl _ => by simp [hl]) (by rw [els_congr (h := h)]; exact hvp; intro l hl; have := O.sep2 i 3 l ⟨_, vp, hr, rfl, hl⟩; simp [this.1]) (by rw [els_congr (h := h)]; exact hvl; intro l hl; have := O.sep2 i 4 l ⟨_, vl, hr, rfl, hl⟩; simp [this.1]) (fun l hl => .inl hl) (fun l hl => .inl hl) (fun l h1 h2 => by have := O.sep1 i 3 i 4 l ⟨_, vp, hr, rfl, h1⟩ ⟨_, vl, hr, rfl, h2⟩; omega)
    simp -implicitDefEqProofs [-hd, Try.f68, g1, g3, g4, g5, hp, hla, hlt, hr', kk, w1, b1, b2, b3, b4, r1, r2, hd, q1, q2, q3, q4, q5, q6, q7, q8, q9, q10, m1, m2, m3, m4, m5, m6, m7, m8, -decide_eq_true_eq, -decide_eq_false_iff_not]
    refine k _ _ (.sl (c + 1) 3 0 (book.length + 1)) _ (by simp [q1, q2, q3, q4, q5, q6]) (fun l h1 h2 => ?_) (by omega) (O1.bookUpd (by omega) (by simp [q2, q7, q8, q9, q10, m3, m4]) (fun i' f' l hl => ?_) (els_all (by simp [q5, q6, Ent.cells]) (by simp)) (.inl ⟨_, _, _, rfl⟩) (fun l hl => .inr (by simp at hl; omega))) (mine_put M sp sl)
    · have e1 : ¬ (l = la) := fun e => h1 (e ▸ O.sep4.1)
      have e2 : ¬ (l = lb) := fun e => h1 (e ▸ s3.2.1)
      have e3 : ¬ (l = c) := fun e => h1 (e ▸ O.fr c (Nat.le_refl _))
      have e4 : ¬ (l = c + 1) := fun e => h1 (e ▸ O.fr (c + 1) (by omega))
      simp [h2, e1, e2, e3, e4]
    · have t := O1.sep2 i' f' l hl
      have e1 : ¬ (l = la) := t.1
      have e2 : ¬ (l = lb) := by simpa using t.2.1
      have e3 : ¬ (l = c) := by have := t.2.2.2; omega
      have e4 : ¬ (l = c + 1) := by have := t.2.2.2; omega
      have e5 : ¬ (l = p) := fun e => nq (e ▸ t.2.2.1)
      simp [e1, e2, e3, e4, e5]
  · subst hv
    have hbe : book = [] := by cases hh : book with | nil => rfl | cons y l => rw [hh] at hbk; simp [els] at hbk
    subst hbe
    have O1 := O.upd (h' := h.put la (some ⟨5, rows.set i (rw5 a.opn (a.cash + n) a.loan vp vl)⟩)) (a' := { a with cash := a.cash + n }) hi hr (Nat.le_refl c) (by simp) (fun l hl _ => by simp [hl]) (by rw [els_congr (h := h)]; exact hvp; intro l hl; have := O.sep2 i 3 l ⟨_, vp, hr, rfl, hl⟩; simp [this.1]) (by rw [els_congr (h := h)]; exact hvl; intro l hl; have := O.sep2 i 4 l ⟨_, vl, hr, rfl, hl⟩; simp [this.1]) (fun l hl => .inl hl) (fun l hl => .inl hl) (fun l h1 h2 => by have := O.sep1 i 3 i 4 l ⟨_, vp, hr, rfl, h1⟩ ⟨_, vl, hr, rfl, h2⟩; omega)
    simp -implicitDefEqProofs [-hd, Try.f68, g1, g3, g5, hp, hla, hlt, hr', kk, w1, r3, r4, hd, q1, q2, q3, q4, q5, q6, q7, q8, q9, q10, -decide_eq_true_eq, -decide_eq_false_iff_not]
    refine k _ _ (.sl (c + 1) 3 0 1) _ (by simp [q1, q2, q3, q4, q5, q6]) (fun l h1 h2 => ?_) (by omega) (O1.bookUpd (by omega) (by simp [q2, q7, q8, q9, q10]) (fun i' f' l hl => ?_) (els_all (by simp [q5, q6, Ent.cells]) (by simp)) (.inl ⟨_, _, _, rfl⟩) (fun l hl => .inr (by simp at hl; omega))) (mine_put M sp sl)
    · have e1 : ¬ (l = la) := fun e => h1 (e ▸ O.sep4.1)
      have e3 : ¬ (l = c) := fun e => h1 (e ▸ O.fr c (Nat.le_refl _))
      have e4 : ¬ (l = c + 1) := fun e => h1 (e ▸ O.fr (c + 1) (by omega))
      simp [h2, e1, e3, e4]
    · have t := O1.sep2 i' f' l hl
      have e1 : ¬ (l = la) := t.1
      have e3 : ¬ (l = c) := by have := t.2.2.2; omega
      have e4 : ¬ (l = c + 1) := by have := t.2.2.2; omega
      have e5 : ¬ (l = p) := fun e => nq (e ▸ t.2.2.1)
      simp [e1, e3, e4, e5]
  · subst hv
    have hbe : book = [] := by cases hh : book with | nil => rfl | cons y l => rw [hh] at hbk; simp [els] at hbk
    subst hbe
    have O1 := O.upd (h' := h.put la (some ⟨5, rows.set i (rw5 a.opn (a.cash + n) a.loan vp vl)⟩)) (a' := { a with cash := a.cash + n }) hi hr (Nat.le_refl c) (by simp) (fun l hl _ => by simp [hl]) (by rw [els_congr (h := h)]; exact hvp; intro l hl; have := O.sep2 i 3 l ⟨_, vp, hr, rfl, hl⟩; simp [this.1]) (by rw [els_congr (h := h)]; exact hvl; intro l hl; have := O.sep2 i 4 l ⟨_, vl, hr, rfl, hl⟩; simp [this.1]) (fun l hl => .inl hl) (fun l hl => .inl hl) (fun l h1 h2 => by have := O.sep1 i 3 i 4 l ⟨_, vp, hr, rfl, h1⟩ ⟨_, vl, hr, rfl, h2⟩; omega)
    simp -implicitDefEqProofs [-hd, Try.f68, g1, g3, g5, hp, hla, hlt, hr', kk, w1, r3, r4, hd, q1, q2, q3, q4, q5, q6, q7, q8, q9, q10, -decide_eq_true_eq, -decide_eq_false_iff_not]
    refine k _ _ (.sl (c + 1) 3 0 1) _ (by simp [q1, q2, q3, q4, q5, q6]) (fun l h1 h2 => ?_) (by omega) (O1.bookUpd (by omega) (by simp [q2, q7, q8, q9, q10]) (fun i' f' l hl => ?_) (els_all (by simp [q5, q6, Ent.cells]) (by simp)) (.inl ⟨_, _, _, rfl⟩) (fun l hl => .inr (by simp at hl; omega))) (mine_put M sp sl)
    · have e1 : ¬ (l = la) := fun e => h1 (e ▸ O.sep4.1)
      have e3 : ¬ (l = c) := fun e => h1 (e ▸ O.fr c (Nat.le_refl _))
      have e4 : ¬ (l = c + 1) := fun e => h1 (e ▸ O.fr (c + 1) (by omega))
      simp [h2, e1, e3, e4]
    · have t := O1.sep2 i' f' l hl
      have e1 : ¬ (l = la) := t.1
      have e3 : ¬ (l = c) := by have := t.2.2.2; omega
      have e4 : ¬ (l = c + 1) := by have := t.2.2.2; omega
      have e5 : ¬ (l = p) := fun e => nq (e ▸ t.2.2.1)
      simp [e1, e3, e4, e5]

theorem book91_to {α : Type} {R : Option α → Prop} (h : Heap) (c : Nat) (K : AV × Heap × Nat → Option α) {Q : Nat → Prop} {p la : Nat} {v : AV} {accs : List Acc} {book : List Ent} {rows : List (List AV)} {i : Nat} {a : Acc} {r f x kd n : Int}
    (hp : h p = some ⟨5, [[.sl la 5 0 12, I r, I f, I x, v]]⟩) (nq : ¬ Q p) (O : Own Q c h la v accs book rows) (M : Mine rows 12) (hi : i < 12) (ha : accs[i]? = some a)
    (hc : -1000000000000 ≤ a.cash ∧ a.cash ≤ 1000000000000) (hn : -1000000000000 ≤ n ∧ n ≤ 1000000000000) (hb : book.length ≤ 20012)
    {d : Nat} (hd0 : h d = some ⟨1, [[.ptr p 0 0]]⟩) (nd : ¬ Q d) (dp : d ≠ p)
    (k0 : n = 0 → R (K (E 0, h, c)))
    (k1 : n ≠ 0 → bookBad a.cash n book.length = true → R (K (E 10, h, c)))
    (k2 : n ≠ 0 → bookBad a.cash n book.length = false → ∀ h' c' v' rows', h' p = some ⟨5, [[.sl la 5 0 12, I r, I f, I x, v']]⟩ → (∀ l, ¬ Q l → l ≠ p → h' l = h l) → c ≤ c' →
      Own Q c' h' la v' (accs.set i { a with cash := a.cash + n }) (book ++ [⟨i, kd, n⟩]) rows' → Mine rows' 12 → R (K (E 0, h', c'))) :
    R ((callA (mdT tblB) (run Try.prog (mdT tblB)) 91 [I i, I kd, I n, .ptr d 0 0] h c).bind K) := by
  rw [call_heap rfl, run_eq, show mdT tblB 91 = some .heap from rfl, Option.bind_some, Try.func91]
  obtain ⟨a0, vp, vl, ha0, hr, hvp, hvl⟩ := O.get hi
  rw [ha] at ha0
  cases ha0
  obtain ⟨sp, sl⟩ := M.get hi hr
  have hla := O.hla
  have hlt : i < rows.length := by rw [O.len]; exact hi
  have hr' : rows[i] = [B a.opn, I a.cash, I a.loan, vp, vl] := by rw [List.getElem?_eq_getElem hlt] at hr; exact Option.some.inj hr
  have kk : (i : Int) < 12 := by omega
  have w1 : IntKind.i64.wrap (a.cash + n) = a.cash + n := wrap_id (by omega) (by omega)
  have q1 : ¬ (p = la) := fun e => nq (e ▸ O.sep4.1)
  have q2 : ¬ (la = p) := fun e => q1 e.symm
  have q3 : ¬ (p = c) := fun e => nq (e ▸ O.fr c (Nat.le_refl _))
  have q4 : ¬ (c = p) := fun e => q3 e.symm
  have q5 : ¬ (p = c + 1) := fun e => nq (e ▸ O.fr (c + 1) (by omega))
  have q6 : ¬ (c + 1 = p) := fun e => q5 e.symm
  have lc := O.sep4.2
  have q7 : ¬ (la = c) := by omega
  have q8 : ¬ (c = la) := by omega
  have q9 : ¬ (la = c + 1) := by omega
  have q10 : ¬ (c + 1 = la) := by omega
  have d1 : ¬ (d = la) := fun e => nd (e ▸ O.sep4.1)
  have d2 : ¬ (la = d) := fun e => d1 e.symm
  have d3 : ¬ (d = c) := fun e => nd (e ▸ O.fr c (Nat.le_refl _))
  have d4 : ¬ (c = d) := fun e => d3 e.symm
  have d5 : ¬ (d = c + 1) := fun e => nd (e ▸ O.fr (c + 1) (by omega))
  have d6 : ¬ (c + 1 = d) := fun e => d5 e.symm
  have d7 : ¬ (p = d) := fun e => dp e.symm
  have d8 : ¬ (c ≤ p) := fun e => nq (O.fr p e)
  have d9 : ¬ (c ≤ d) := fun e => nd (O.fr d e)
  have d10 : ¬ (c ≤ la) := by omega
  have d11 : ¬ (c + 1 ≤ p) := by omega
  have d12 : ¬ (c + 1 ≤ d) := by omega
  have d13 : ¬ (c + 1 ≤ la) := by omega
  have d14 : ¬ (c + 1 ≤ c) := by omega
  have d15 : ¬ (d = p) := dp
  by_cases g0 : n = 0
  · have g1 : (n == 0) = true := by simpa using g0
    simp -implicitDefEqProofs [Try.f91, g1, hp, hd0, hla, hlt, hr', kk, d1, d2, d3, d4, d5, d6]
    exact k0 g0
  have g1 : (n == 0) = false := by simpa using g0
  cases g2 : bookBad a.cash n book.length
  case true =>
    have k := k1 g0 g2
    unfold bookBad at g2
    cases g3 : outP (a.cash + n) (-1000000000000) 1000000000000
    · rw [g3] at g2
      simp only [Bool.false_or] at g2
      have hbk := O.bk
      rcases O.bkv with ⟨lb, off, len, rfl⟩ | rfl | rfl
      · obtain ⟨_, _, _, _, e4⟩ := els_sl hbk
        have b5 : len = book.length := by simpa using e4.symm
        subst b5
        simp -implicitDefEqProofs [Try.f91, g1, g2, g3, d1, d2, d3, d4, d5, d6, d7, d8, d9, d10, d11, d12, d13, d14, d15, hd0, hp, hla, hlt, hr', kk, w1, -decide_eq_true_eq, -decide_eq_false_iff_not]
        exact k
      · have : book.length = 0 := by simpa [els] using hbk
        have := of_decide_eq_true g2
        omega
      · have : book.length = 0 := by simpa [els] using hbk
        have := of_decide_eq_true g2
        omega
    · simp -implicitDefEqProofs [Try.f91, g1, g3, hp, hla, hlt, hr', kk, w1, hp, hd0, hla, hlt, hr', kk, d1, d2, d3, d4, d5, d6, -decide_eq_true_eq, -decide_eq_false_iff_not]
      exact k
  have k := k2 g0 g2
  unfold bookBad at g2
  simp only [Bool.or_eq_false_iff] at g2
  obtain ⟨g3, g4⟩ := g2
  have ln : book.length < 20000 := by have := of_decide_eq_false g4; omega
  have r1 : (book.length + 1) * 24 ≤ room := by unfold room; omega
  have r2 : book.length + 1 ≤ room := by unfold room; omega
  have r3 : (1 : Nat) * 24 ≤ room := by unfold room; omega
  have r4 : (1 : Nat) ≤ room := by unfold room; omega
  have oa : accs.length = 12 := O.alen
  have hbk := O.bk
  rcases O.bkv with ⟨lb, off, len, hv⟩ | hv | hv
  · subst hv
    obtain ⟨BB, b1, b2, b3, b4⟩ := els_sl hbk
    have b5 : len = book.length := by simpa using b4.symm
    subst b5
    have s3 := O.sep3 lb (by simp)
    have m1 : ¬ (p = lb) := fun e => nq (e ▸ s3.2.1)
    have m2 : ¬ (lb = p) := fun e => m1 e.symm
    have m3 : ¬ (la = lb) := fun e => s3.1 e.symm
    have m4 : ¬ (lb = la) := s3.1
    have m5 : ¬ (lb = c) := by have := s3.2.2; omega
    have m6 : ¬ (c = lb) := fun e => m5 e.symm
    have m7 : ¬ (lb = c + 1) := by have := s3.2.2; omega
    have m8 : ¬ (c + 1 = lb) := fun e => m7 e.symm
    have m10 : ¬ (c ≤ lb) := by have := s3.2.2; omega
    have m11 : ¬ (c + 1 ≤ lb) := by have := s3.2.2; omega
    have m12 : ¬ (d = lb) := fun e => nd (e ▸ s3.2.1)
    have m13 : ¬ (lb = d) := fun e => m12 e.symm
    have m9 : ¬ (lb = c + 1 + 1) := by have := s3.2.2; omega
    have O1 := O.upd (h' := h.put la (some ⟨5, rows.set i (rw5 a.opn (a.cash + n) a.loan vp vl)⟩)) (a' := { a with cash := a.cash + n }) hi hr (Nat.le_refl c) (by simp) (fun l hl _ => by simp [hl]) (by rw [els_congr (h := h)]; exact hvp; intro l hl; have := O.sep2 i 3 l ⟨_, vp, hr, rfl, hl⟩; simp [this.1]) (by rw [els_congr (h := h)]; exact hvl; intro l hl; have := O.sep2 i 4 l ⟨_, vl, hr, rfl, hl⟩; simp [this.1]) (fun l hl => .inl hl) (fun l hl => .inl hl) (fun l h1 h2 => by have := O.sep1 i 3 i 4 l ⟨_, vp, hr, rfl, h1⟩ ⟨_, vl, hr, rfl, h2⟩; omega)
    simp -implicitDefEqProofs [-hd, Try.f91, g1, g3, g4, d1, d2, d3, d4, d5, d6, d7, d8, d9, d10, d11, d12, d13, d14, d15, hd0, hp, hla, hlt, hr', kk, w1, b1, b2, b3, b4, r1, r2, hd, q1, q2, q3, q4, q5, q6, q7, q8, q9, q10, m1, m2, m3, m4, m5, m6, m7, m8, m10, m11, m12, m13, -decide_eq_true_eq, -decide_eq_false_iff_not]
    refine k _ _ (.sl (c + 1) 3 0 (book.length + 1)) _ (by simp [q1, q2, q3, q4, q5, q6]) (fun l h1 h2 => ?_) (by omega) (O1.bookUpd (by omega) (by simp [q2, q7, q8, q9, q10, m3, m4]) (fun i' f' l hl => ?_) (els_all (by simp [q5, q6, Ent.cells]) (by simp)) (.inl ⟨_, _, _, rfl⟩) (fun l hl => .inr (by simp at hl; omega))) (mine_put M sp sl)
    · have e1 : ¬ (l = la) := fun e => h1 (e ▸ O.sep4.1)
      have e2 : ¬ (l = lb) := fun e => h1 (e ▸ s3.2.1)
      have e3 : ¬ (l = c) := fun e => h1 (e ▸ O.fr c (Nat.le_refl _))
      have e4 : ¬ (l = c + 1) := fun e => h1 (e ▸ O.fr (c + 1) (by omega))
      simp [h2, e1, e2, e3, e4]
    · have t := O1.sep2 i' f' l hl
      have e1 : ¬ (l = la) := t.1
      have e2 : ¬ (l = lb) := by simpa using t.2.1
      have e3 : ¬ (l = c) := by have := t.2.2.2; omega
      have e4 : ¬ (l = c + 1) := by have := t.2.2.2; omega
      have e5 : ¬ (l = p) := fun e => nq (e ▸ t.2.2.1)
      simp [e1, e2, e3, e4, e5]
  · subst hv
    have hbe : book = [] := by cases hh : book with | nil => rfl | cons y l => rw [hh] at hbk; simp [els] at hbk
    subst hbe
    have O1 := O.upd (h' := h.put la (some ⟨5, rows.set i (rw5 a.opn (a.cash + n) a.loan vp vl)⟩)) (a' := { a with cash := a.cash + n }) hi hr (Nat.le_refl c) (by simp) (fun l hl _ => by simp [hl]) (by rw [els_congr (h := h)]; exact hvp; intro l hl; have := O.sep2 i 3 l ⟨_, vp, hr, rfl, hl⟩; simp [this.1]) (by rw [els_congr (h := h)]; exact hvl; intro l hl; have := O.sep2 i 4 l ⟨_, vl, hr, rfl, hl⟩; simp [this.1]) (fun l hl => .inl hl) (fun l hl => .inl hl) (fun l h1 h2 => by have := O.sep1 i 3 i 4 l ⟨_, vp, hr, rfl, h1⟩ ⟨_, vl, hr, rfl, h2⟩; omega)
    simp -implicitDefEqProofs [-hd, Try.f91, g1, g3, d1, d2, d3, d4, d5, d6, d7, d8, d9, d10, d11, d12, d13, d14, d15, hd0, hp, hla, hlt, hr', kk, w1, r3, r4, hd, q1, q2, q3, q4, q5, q6, q7, q8, q9, q10, -decide_eq_true_eq, -decide_eq_false_iff_not]
    refine k _ _ (.sl (c + 1) 3 0 1) _ (by simp [q1, q2, q3, q4, q5, q6]) (fun l h1 h2 => ?_) (by omega) (O1.bookUpd (by omega) (by simp [q2, q7, q8, q9, q10]) (fun i' f' l hl => ?_) (els_all (by simp [q5, q6, Ent.cells]) (by simp)) (.inl ⟨_, _, _, rfl⟩) (fun l hl => .inr (by simp at hl; omega))) (mine_put M sp sl)
    · have e1 : ¬ (l = la) := fun e => h1 (e ▸ O.sep4.1)
      have e3 : ¬ (l = c) := fun e => h1 (e ▸ O.fr c (Nat.le_refl _))
      have e4 : ¬ (l = c + 1) := fun e => h1 (e ▸ O.fr (c + 1) (by omega))
      simp [h2, e1, e3, e4]
    · have t := O1.sep2 i' f' l hl
      have e1 : ¬ (l = la) := t.1
      have e3 : ¬ (l = c) := by have := t.2.2.2; omega
      have e4 : ¬ (l = c + 1) := by have := t.2.2.2; omega
      have e5 : ¬ (l = p) := fun e => nq (e ▸ t.2.2.1)
      simp [e1, e3, e4, e5]
  · subst hv
    have hbe : book = [] := by cases hh : book with | nil => rfl | cons y l => rw [hh] at hbk; simp [els] at hbk
    subst hbe
    have O1 := O.upd (h' := h.put la (some ⟨5, rows.set i (rw5 a.opn (a.cash + n) a.loan vp vl)⟩)) (a' := { a with cash := a.cash + n }) hi hr (Nat.le_refl c) (by simp) (fun l hl _ => by simp [hl]) (by rw [els_congr (h := h)]; exact hvp; intro l hl; have := O.sep2 i 3 l ⟨_, vp, hr, rfl, hl⟩; simp [this.1]) (by rw [els_congr (h := h)]; exact hvl; intro l hl; have := O.sep2 i 4 l ⟨_, vl, hr, rfl, hl⟩; simp [this.1]) (fun l hl => .inl hl) (fun l hl => .inl hl) (fun l h1 h2 => by have := O.sep1 i 3 i 4 l ⟨_, vp, hr, rfl, h1⟩ ⟨_, vl, hr, rfl, h2⟩; omega)
    simp -implicitDefEqProofs [-hd, Try.f91, g1, g3, d1, d2, d3, d4, d5, d6, d7, d8, d9, d10, d11, d12, d13, d14, d15, hd0, hp, hla, hlt, hr', kk, w1, r3, r4, hd, q1, q2, q3, q4, q5, q6, q7, q8, q9, q10, -decide_eq_true_eq, -decide_eq_false_iff_not]
    refine k _ _ (.sl (c + 1) 3 0 1) _ (by simp [q1, q2, q3, q4, q5, q6]) (fun l h1 h2 => ?_) (by omega) (O1.bookUpd (by omega) (by simp [q2, q7, q8, q9, q10]) (fun i' f' l hl => ?_) (els_all (by simp [q5, q6, Ent.cells]) (by simp)) (.inl ⟨_, _, _, rfl⟩) (fun l hl => .inr (by simp at hl; omega))) (mine_put M sp sl)
    · have e1 : ¬ (l = la) := fun e => h1 (e ▸ O.sep4.1)
      have e3 : ¬ (l = c) := fun e => h1 (e ▸ O.fr c (Nat.le_refl _))
      have e4 : ¬ (l = c + 1) := fun e => h1 (e ▸ O.fr (c + 1) (by omega))
      simp [h2, e1, e3, e4]
    · have t := O1.sep2 i' f' l hl
      have e1 : ¬ (l = la) := t.1
      have e3 : ¬ (l = c) := by have := t.2.2.2; omega
      have e4 : ¬ (l = c + 1) := by have := t.2.2.2; omega
      have e5 : ¬ (l = p) := fun e => nq (e ▸ t.2.2.1)
      simp [e1, e3, e4, e5]

end Go.Proofs.Ytdckleaemkcapaa.AM
