/- Texts of the proof: part B22. -/
import Derived.Test.YtdckleaemkcapaaB21
set_option maxHeartbeats 0
set_option linter.unusedSimpArgs false
set_option linter.unusedVariables false
set_option linter.unusedSectionVars false
namespace Go.Proofs.Ytdckleaemkcapaa.AM
open Go Go.Proofs
attribute [local simp] AV.cells okc AV.isBad fieldAddrA ld setCells stA skipV appendA hd makeA bnd sliceA kindA freshA killOk loadsAt newT empT lay_get allocA buildA buildRow builtinA lenA els indexAddrA isNil opA evA lit yldA binA binI unA pickA boolV intV fieldA mk flat lf lf.lfs frz
theorem goes_mono {J J' : St → Prop} {x : Option (Ex × St)} (h : GoesOn J x) (k : ∀ s, J s → J' s) : GoesOn J' x := by
  unfold GoesOn at h ⊢
  split at h
  · exact k _ h
  · exact h.elim
/-- How far a copy has come: the first rows are copied. -/
structure Part (Q : Nat → Prop) (c : Nat) (h : Heap) (la : Nat) (b : Bnk) (v : AV) (bk : List Ent) (rows : List (List AV)) (j : Nat) : Prop where
  own : Own Q c h la v b.accs bk rows
  mine : Mine rows j
  rest : ∀ i, j ≤ i → rows[i]? = (b.accs[i]?).map Acc.cells
theorem mine_set {rows : List (List AV)} {j : Nat} (M : Mine rows j) {o : Bool} {x y : Int} {vp vl : AV} (s1 : SlV 1 vp) (s2 : SlV 1 vl) : Mine (rows.set j (rw5 o x y vp vl)) (j + 1) := by
  intro i r hi hr
  rw [List.getElem?_set] at hr
  split at hr
  · split at hr
    · cases hr; exact ⟨o, x, y, vp, vl, rfl, s1, s2⟩
    · cases hr
  · rename_i e
    exact M i r (by omega) hr
theorem Part.start {Q : Nat → Prop} {c : Nat} {h : Heap} {la : Nat} {b : Bnk} (vb : Valid b) (h1 : Q la) (h2 : la < c) (hf : ∀ l, c ≤ l → Q l) (hl : h la = some ⟨5, b.accs.map Acc.cells⟩) : Part Q c h la b .emp [] (b.accs.map Acc.cells) 0 := by
  have noAt : ∀ i f l, ¬ At (b.accs.map Acc.cells) i f l := by
    rintro i f l ⟨r, x, hr, hx, hl⟩
    rw [List.getElem?_map] at hr
    obtain ⟨a, ha, rfl⟩ := Option.map_eq_some_iff.mp hr
    match f, hx with
    | 0, hx => cases hx; simp at hl
    | 1, hx => cases hx; simp at hl
    | 2, hx => cases hx; simp at hl
    | 3, hx => cases hx; simp at hl
    | 4, hx => cases hx; simp at hl
    | f + 5, hx => simp [Acc.cells] at hx
  refine ⟨⟨hl, by simpa using vb.len, vb.len, fun i r a hr ha => ?_, rfl, .inr (.inl rfl), fun i f i' f' l k => absurd k (noAt _ _ _), fun i f l k => absurd k (noAt _ _ _), fun l hl => by simp at hl, ⟨h1, h2⟩, hf⟩, fun i r hi => by omega, fun i _ => by rw [List.getElem?_map]⟩
  rw [List.getElem?_map, ha] at hr
  cases hr
  exact ⟨_, _, rfl, rfl, rfl⟩
/-- One account more. -/
theorem Part.next {Q : Nat → Prop} {c c' : Nat} {h h' : Heap} {la : Nat} {b : Bnk} {v : AV} {bk : List Ent} {rows : List (List AV)} {j : Nat} (P : Part Q c h la b v bk rows j) (hj : j < b.accs.length) {vp vl : AV} (hc : c ≤ c')
    (hla : h' la = some ⟨5, rows.set j (rw5 b.accs[j].opn b.accs[j].cash b.accs[j].loan vp vl)⟩) (hh : ∀ l, l ≠ la → l < c → h' l = h l)
    (e1 : els h' vp = some (ints b.accs[j].parts)) (e2 : els h' vl = some (ints b.accs[j].last)) (s1 : SlV 1 vp) (s2 : SlV 1 vl)
    (n1 : ∀ l ∈ nm vp, c ≤ l ∧ l < c') (n2 : ∀ l ∈ nm vl, c ≤ l ∧ l < c') (n3 : ∀ l ∈ nm vp, l ∉ nm vl) :
    Part Q c' h' la b v bk (rows.set j (rw5 b.accs[j].opn b.accs[j].cash b.accs[j].loan vp vl)) (j + 1) := by
  have hj12 : j < 12 := by have := P.own.alen; omega
  have hr : rows[j]? = some (rw5 b.accs[j].opn b.accs[j].cash b.accs[j].loan (.ro b.accs[j].np (ints b.accs[j].parts)) (.ro b.accs[j].nl (ints b.accs[j].last))) := by
    rw [P.rest j (Nat.le_refl _), List.getElem?_eq_getElem hj]; rfl
  have ha : b.accs.set j b.accs[j] = b.accs := List.set_getElem_self hj
  refine ⟨?_, mine_set P.mine s1 s2, fun i hi => ?_⟩
  · have := P.own.upd hj12 (a := b.accs[j]) (a' := b.accs[j]) hr hc hla (fun l hl hin => hh l hl ?_) e1 e2 (fun l hl => .inr (n1 l hl)) (fun l hl => .inr (n2 l hl)) n3
    · rw [ha] at this; exact this
    · rcases hin with hin | ⟨i, f, _, hin⟩
      · exact (P.own.sep3 l hin).2.2
      · exact (P.own.sep2 i f l hin).2.2.2
  · rw [List.getElem?_set, if_neg (by omega)]
    exact P.rest i (by omega)
theorem Own.weaken {Q Q' : Nat → Prop} {c : Nat} {h : Heap} {la : Nat} {v : AV} {accs : List Acc} {book : List Ent} {rows : List (List AV)} (hl : ∀ l, Q l → Q' l) (O : Own Q c h la v accs book rows) : Own Q' c h la v accs book rows :=
  ⟨O.hla, O.len, O.alen, O.row, O.bk, O.bkv, O.sep1, fun i f l h => by have := O.sep2 i f l h; exact ⟨this.1, this.2.1, hl _ this.2.2.1, this.2.2.2⟩, fun l h => by have := O.sep3 l h; exact ⟨this.1, hl _ this.2.1, this.2.2⟩, ⟨hl _ O.sep4.1, O.sep4.2⟩, fun l h => hl _ (O.fr l h)⟩
/-- A name that is not led to. -/
theorem Own.excl {Q : Nat → Prop} {c : Nat} {h : Heap} {la : Nat} {v : AV} {accs : List Acc} {book : List Ent} {rows : List (List AV)} (O : Own Q c h la v accs book rows) {d : Nat} (hd : c ≤ d) : Own (fun l => Q l ∧ l ≠ d) (d + 1) h la v accs book rows :=
  ⟨O.hla, O.len, O.alen, O.row, O.bk, O.bkv, O.sep1, fun i f l h => by have := O.sep2 i f l h; exact ⟨this.1, this.2.1, ⟨this.2.2.1, by omega⟩, by omega⟩, fun l h => by have := O.sep3 l h; exact ⟨this.1, ⟨this.2.1, by omega⟩, by omega⟩, ⟨⟨O.sep4.1, by have := O.sep4.2; omega⟩, by have := O.sep4.2; omega⟩, fun l h => ⟨O.fr l (by omega), by omega⟩⟩
theorem hd_nil (n : Nat) : hd [] n = true := rfl
theorem els_all {h : Heap} {l sz n : Nat} {es : List (List AV)} (hl : h l = some ⟨sz, es⟩) (hn : es.length = n) : els h (.sl l sz 0 n) = some es := by
  simp only [els, hl, Option.bind_some]
  rw [if_pos (by simp [hn]), List.drop_zero, List.take_of_length_le (by simp [hn])]
theorem rcopy_run (b : Bnk) (vb : Valid b) (w : b.Wfb) (c : Nat) (R : Option (AV × Heap × Nat) → Prop)
    (k : ∀ h1 c1 la v rows, c ≤ c1 → Own (fun l => c ≤ l) c1 h1 la v b.accs b.book rows → Mine rows 12 → R (some (.agg [.sl la 5 0 12, I b.rate, I b.infl, I b.idx, v], h1, c1))) :
    R (run Try.prog (mdT tblB) 67 [.agg (bc b)] Heap.none c) := by
  have ha := hd_accs b.accs
  have hb := hd_ents b.book
  have l12 := vb.len
  have lbk := vb.book
  have r1 : b.book.length * 24 ≤ room := by unfold room; omega
  have r2 : b.book.length ≤ room := by unfold room; omega
  have ne : ¬ (b.accs = []) := by intro e; rw [e] at l12; simp at l12
  have z1 : ¬ (c = c + 1 + 1) := by omega
  have z2 : ¬ (c + 1 + 1 = c) := by omega
  have z3 : ¬ (c + 1 = c + 1 + 1) := by omega
  have z4 : ¬ (c + 1 + 1 = c + 1) := by omega
  rw [run_eq, show mdT tblB 67 = some .own from rfl, Option.bind_some, Try.func67]
  simp -implicitDefEqProofs [-hd, Try.f67, z1, z2, z3, z4, ha, ne, l12, show (12 : Nat) * 72 ≤ room by unfold room; omega, show (12 : Nat) ≤ room by unfold room; omega, Option.bind_assoc]
  refine count_to (R := R) 12 (fun j s => s.t 1 = .ptr c 0 0 ∧ s.t 2 = .ptr (c + 1) 0 0 ∧ s.t 3 = I j ∧ s.h c = some ⟨5, [[.sl (c + 1 + 1) 5 0 12, I b.rate, I b.infl, I b.idx, .ro b.nb (b.book.map Ent.cells)]]⟩ ∧ s.h (c + 1) = some ⟨5, [noC]⟩ ∧ ∃ rows, Part (fun l => c + 1 + 1 ≤ l) s.c s.h (c + 1 + 1) b .emp [] rows j) _ ?_ ?_ ?_
  · simp -implicitDefEqProofs [-hd, z1, z2, z3, z4]
    exact ⟨_, Part.start vb (Nat.le_refl _) (by omega) (fun l hl => by omega) (by simp [z1, z2, z3, z4])⟩
  · rintro j ⟨t, h, d⟩ ⟨t1, t2, t3, h1, h2, rows, P⟩ hj
    simp only at t1 t2 t3 h1 h2 P
    have hj' : j < b.accs.length := by omega
    have hla := P.own.hla
    have dl : c + 1 + 1 < d := P.own.sep4.2
    have hlt : j < rows.length := by rw [P.own.len]; exact hj
    have hr : rows[j] = [B b.accs[j].opn, I b.accs[j].cash, I b.accs[j].loan, .ro b.accs[j].np (ints b.accs[j].parts), .ro b.accs[j].nl (ints b.accs[j].last)] := by
      have := P.rest j (Nat.le_refl _)
      rw [List.getElem?_eq_getElem hlt, List.getElem?_eq_getElem hj'] at this
      exact Option.some.inj this
    have hp := hd_ints b.accs[j].parts
    have hq := hd_ints b.accs[j].last
    have okj := vb.accs _ (List.getElem_mem hj')
    have lp := okj.lp
    have ll := vb.last _ (List.getElem_mem hj')
    have q1 : b.accs[j].last.length * 8 ≤ room := by unfold room; omega
    have q2 : b.accs[j].last.length ≤ room := by unfold room; omega
    have q3 : (4 : Nat) * 8 ≤ room := by unfold room; omega
    have q4 : (4 : Nat) ≤ room := by unfold room; omega
    have np : ¬ (b.accs[j].parts = []) := by intro e; rw [e] at lp; simp at lp
    have k1 : decide ((j : Int) < 12) = true := decide_eq_true (by omega)
    have kk : (j : Int) < 12 := by omega
    have e1 : ¬ (d = c) := by omega
    have e2 : ¬ (c = d) := by omega
    have e3 : ¬ (d = c + 1) := by omega
    have e4 : ¬ (c + 1 = d) := by omega
    have e5 : ¬ (d = c + 1 + 1) := by omega
    have e6 : ¬ (c + 1 + 1 = d) := by omega
    have e7 : ¬ (d + 1 = c) := by omega
    have e8 : ¬ (c = d + 1) := by omega
    have e9 : ¬ (d + 1 = c + 1) := by omega
    have f1 : ¬ (c + 1 = d + 1) := by omega
    have f2 : ¬ (d + 1 = c + 1 + 1) := by omega
    have f3 : ¬ (c + 1 + 1 = d + 1) := by omega
    have f4 : ¬ (d ≤ c) := by omega
    have f5 : ¬ (d ≤ c + 1) := by omega
    have f6 : ¬ (d ≤ c + 1 + 1) := by omega
    have f7 : ¬ (d + 1 ≤ c) := by omega
    have f8 : ¬ (d + 1 ≤ c + 1) := by omega
    have f9 : ¬ (d + 1 ≤ c + 1 + 1) := by omega
    by_cases nl : b.accs[j].last = []
    · simp -implicitDefEqProofs [-hd, t1, t2, t3, h1, h2, hla, hlt, hr, hp, hd_nil, lp, q3, q4, np, nl, k1, kk, z1, z2, z3, z4, e1, e2, e3, e4, e5, e6, e7, e8, e9, f1, f2, f3, f4, f5, f6, f7, f8, f9]
      refine ⟨wrap_succ (by omega), _, P.next (vp := .sl d 1 0 4) (vl := .emp) hj' (by omega) (by simp [k1, kk, z1, z2, z3, z4, e1, e2, e3, e4, e5, e6, e7, e8, e9, f1, f2, f3, f4, f5, f6, f7, f8, f9]) (fun l hl1 hl2 => ?_) (els_all (by simp [k1, kk, z1, z2, z3, z4, e1, e2, e3, e4, e5, e6, e7, e8, e9, f1, f2, f3, f4, f5, f6, f7, f8, f9]) (by simp [lp])) (by rw [nl]; rfl) (.inl ⟨_, _, _, rfl⟩) (.inr (.inl rfl)) (by simp) (by simp) (by simp)⟩
      have g1 : ¬ (l = d) := by omega
      have g2 : ¬ (d ≤ l) := by omega
      simp [hl1, g1, g2]
    · simp -implicitDefEqProofs [-hd, t1, t2, t3, h1, h2, hla, hlt, hr, hp, hq, lp, q1, q2, q3, q4, np, nl, k1, kk, z1, z2, z3, z4, e1, e2, e3, e4, e5, e6, e7, e8, e9, f1, f2, f3, f4, f5, f6, f7, f8, f9]
      refine ⟨wrap_succ (by omega), _, P.next (vp := .sl d 1 0 4) (vl := .sl (d + 1) 1 0 b.accs[j].last.length) hj' (by omega) (by simp [k1, kk, z1, z2, z3, z4, e1, e2, e3, e4, e5, e6, e7, e8, e9, f1, f2, f3, f4, f5, f6, f7, f8, f9]) (fun l hl1 hl2 => ?_) (els_all (by simp [k1, kk, z1, z2, z3, z4, e1, e2, e3, e4, e5, e6, e7, e8, e9, f1, f2, f3, f4, f5, f6, f7, f8, f9]) (by simp [lp])) (els_all (by simp [k1, kk, z1, z2, z3, z4, e1, e2, e3, e4, e5, e6, e7, e8, e9, f1, f2, f3, f4, f5, f6, f7, f8, f9]) (by simp)) (.inl ⟨_, _, _, rfl⟩) (.inl ⟨_, _, _, rfl⟩) (by simp; omega) (by simp) (by simp)⟩
      have g1 : ¬ (l = d) := by omega
      have g2 : ¬ (d ≤ l) := by omega
      have g3 : ¬ (l = d + 1) := by omega
      have g4 : ¬ (d + 1 ≤ l) := by omega
      simp [hl1, g1, g2, g3, g4]
  · rintro ⟨t, h, d⟩ ⟨t1, t2, t3, h1, h2, rows, P⟩
    simp only at t1 t2 t3 h1 h2 P
    have dl : c + 1 + 1 < d := P.own.sep4.2
    have e1 : ¬ (d = c) := by omega
    have e2 : ¬ (c = d) := by omega
    have e3 : ¬ (d = c + 1) := by omega
    have e4 : ¬ (c + 1 = d) := by omega
    by_cases nb : b.book = []
    · simp -implicitDefEqProofs [-hd, t1, t2, t3, h1, h2, hd_nil, nb, z1, z2, z3, z4, e1, e2, e3, e4]
      refine k _ _ _ _ _ (by omega) (Own.weaken (Q := fun l => c + 1 + 1 ≤ l) (fun l hl => by omega) (P.own.bookUpd (Nat.le_refl _) (by simp [z1, z2, z3, z4]) (fun i f l hl => ?_) (by rw [nb]; rfl) (.inr (.inl rfl)) (fun l hl => .inl hl))) (fun i r hi hr => P.mine i r hi hr)
      have := P.own.sep2 i f l hl
      have g1 : ¬ (l = c) := by omega
      have g2 : ¬ (l = c + 1) := by omega
      simp [g1, g2]
    · simp -implicitDefEqProofs [-hd, t1, t2, t3, h1, h2, hb, r1, r2, nb, z1, z2, z3, z4, e1, e2, e3, e4]
      refine k _ _ _ _ _ (by omega) (Own.weaken (Q := fun l => c + 1 + 1 ≤ l) (fun l hl => by omega) (P.own.bookUpd (c' := d + 1) (by omega) (by simp [z1, z2, z3, z4, show ¬ (c + 1 + 1 = d) by omega]) (fun i f l hl => ?_) (els_all (by simp [e1, e2, e3, e4]) (by simp)) (.inl ⟨_, _, _, rfl⟩) (fun l hl => .inr (by simp at hl; omega)))) (fun i r hi hr => P.mine i r hi hr)
      have := P.own.sep2 i f l hl
      have g1 : ¬ (l = c) := by omega
      have g2 : ¬ (l = c + 1) := by omega
      have g3 : ¬ (l = d) := by omega
      simp [g1, g2, g3]
def clV (b : Bnk) (c : Nat) : AV := bif b.book.isEmpty then bif b.nb then .ro true [] else .emp else .sl c 3 0 b.book.length
def clH (b : Bnk) (c : Nat) (h : Heap) : Heap := bif b.book.isEmpty then h else h.put c (some ⟨3, b.book.map Ent.cells⟩)
def clC (b : Bnk) (c : Nat) : Nat := bif b.book.isEmpty then c else c + 1
theorem cle_c (b : Bnk) (w : b.Wfb) (hb : b.book.length ≤ 20000) (h : Heap) (c : Nat) : callA (mdT tblB) (run Try.prog (mdT tblB)) 89 [.ro b.nb (b.book.map Ent.cells)] h c = some (clV b c, clH b c h, clC b c) := by
  rw [clonee_c b.nb b.book w.fb (by omega)]
  unfold clV clH clC
  cases b.book.isEmpty <;> rfl
theorem clV_cells (b : Bnk) (c : Nat) : (clV b c).cells = [clV b c] := by
  unfold clV
  cases b.book.isEmpty <;> cases b.nb <;> rfl
theorem clV_okc (b : Bnk) (c : Nat) : okc (clV b c) = true := by
  unfold clV
  cases b.book.isEmpty <;> cases b.nb <;> rfl
theorem clC_le (b : Bnk) (c : Nat) : c ≤ clC b c := by
  unfold clC
  cases b.book.isEmpty <;> simp
theorem clV_slv (b : Bnk) (c : Nat) : SlV 3 (clV b c) := by
  unfold clV
  cases b.book.isEmpty
  · exact .inl ⟨_, _, _, rfl⟩
  · cases b.nb
    · exact .inr (.inl rfl)
    · exact .inr (.inr rfl)
theorem clV_nm (b : Bnk) (c : Nat) : ∀ l ∈ nm (clV b c), c ≤ l ∧ l < clC b c := by
  unfold clV clC
  cases b.book.isEmpty
  · intro l hl; simp at hl; subst hl; simp
  · cases b.nb <;> simp
theorem clV_els (b : Bnk) (c : Nat) (h g : Heap) (hg : ∀ l, c ≤ l → l < clC b c → g l = clH b c h l) : els g (clV b c) = some (b.book.map Ent.cells) := by
  unfold clV
  unfold clC clH at hg
  cases hb : b.book.isEmpty
  · rw [hb] at hg
    simp only [cond_false] at hg ⊢
    exact els_all (by rw [hg c (Nat.le_refl _) (by omega)]; simp) (by simp)
  · have : b.book = [] := by simpa using hb
    rw [this]
    cases b.nb <;> rfl
theorem Part.start2 {Q : Nat → Prop} {d : Nat} {H : Heap} {la : Nat} {b : Bnk} (X : Heap) (vb : Valid b) (h1 : Q la) (h2 : la < d) (hf : ∀ l, d ≤ l → Q l) (hl : H la = some ⟨5, b.accs.map Acc.cells⟩) (hX : ∀ l, d ≤ l → l < clC b d → H l = clH b d X l) :
    Part Q (clC b d) H la b (clV b d) b.book (b.accs.map Acc.cells) 0 := by
  have P := Part.start (c := d) vb h1 h2 hf hl
  exact ⟨P.own.bookUpd (clC_le b d) rfl (fun _ _ _ _ => rfl) (clV_els b d X H hX) (clV_slv b d) (fun l hl => .inr (clV_nm b d l hl)), P.mine, P.rest⟩
theorem bcopy_run (b : Bnk) (vb : Valid b) (w : b.Wfb) (c : Nat) (R : Option (AV × Heap × Nat) → Prop)
    (k : ∀ h1 c1 la v rows, c ≤ c1 → Own (fun l => c ≤ l) c1 h1 la v b.accs b.book rows → Mine rows 12 → R (some (.agg [.sl la 5 0 12, I b.rate, I b.infl, I b.idx, v], h1, c1))) :
    R (run Try.prog (mdT tblB) 69 [.agg (bc b)] Heap.none c) := by
  have l12 := vb.len
  have lbk := vb.book
  have ne : b.accs.isEmpty = false := by cases hh : b.accs with | nil => rw [hh] at l12; simp at l12 | cons x l => rfl
  have ca : ∀ h c, callA (mdT tblB) (run Try.prog (mdT tblB)) 88 [.ro b.na (b.accs.map Acc.cells)] h c = some (.sl c 5 0 12, h.put c (some ⟨5, b.accs.map Acc.cells⟩), c + 1) := by
    intro h c
    rw [clonea_c b.na b.accs w.fa (by omega), ne, l12]
    rfl
  have ce := cle_c b w lbk
  have v1 := clV_cells b (c + 1 + 1 + 1)
  have v2 := clV_okc b (c + 1 + 1 + 1)
  have v3 := clC_le b (c + 1 + 1 + 1)
  unfold AV.cells at v1
  unfold okc at v2
  have z1 : ¬ (c = c + 1 + 1) := by omega
  have z2 : ¬ (c + 1 + 1 = c) := by omega
  have z3 : ¬ (c + 1 = c + 1 + 1) := by omega
  have z4 : ¬ (c + 1 + 1 = c + 1) := by omega
  have z5 : ¬ (c = c + 1 + 1 + 1) := by omega
  have z6 : ¬ (c + 1 + 1 + 1 = c) := by omega
  have z7 : ¬ (c + 1 = c + 1 + 1 + 1) := by omega
  have z8 : ¬ (c + 1 + 1 + 1 = c + 1) := by omega
  have y1 : ¬ (c + 1 + 1 ≤ c) := by omega
  have y2 : ¬ (c + 1 + 1 ≤ c + 1) := by omega
  have y3 : ¬ (c + 1 + 1 + 1 ≤ c) := by omega
  have y4 : ¬ (c + 1 + 1 + 1 ≤ c + 1) := by omega
  have y5 : ¬ (c + 1 + 1 + 1 ≤ c + 1 + 1) := by omega
  rw [run_eq, show mdT tblB 69 = some .own from rfl, Option.bind_some, Try.func69]
  simp -implicitDefEqProofs [-hd, Try.f69, ca, ce, v1, v2, z1, z2, z3, z4, z5, z6, z7, z8, y1, y2, y3, y4, y5, Option.bind_assoc]
  refine count_to (R := R) 12 (fun j s => s.t 1 = .ptr c 0 0 ∧ s.t 2 = .ptr (c + 1) 0 0 ∧ s.t 15 = I 12 ∧ s.t 16 = I j ∧ s.h c = some ⟨5, [[.sl (c + 1 + 1) 5 0 12, I b.rate, I b.infl, I b.idx, clV b (c + 1 + 1 + 1)]]⟩ ∧ s.h (c + 1) = some ⟨5, [noC]⟩ ∧ ∃ rows, Part (fun l => c + 1 + 1 ≤ l) s.c s.h (c + 1 + 1) b (clV b (c + 1 + 1 + 1)) b.book rows j) _ ?_ ?_ ?_
  · simp -implicitDefEqProofs [-hd, z1, z2, z3, z4, z5, z6, z7, z8, y1, y2, y3, y4, y5]
    refine ⟨_, Part.start2 ((Heap.none.put c (some ⟨5, [bc b]⟩)).put (c + 1) (some ⟨5, [noC]⟩)) vb (Nat.le_refl _) (by omega) (fun l hl => by omega) ?_ (fun l h1 h2 => ?_)⟩
    · simp -implicitDefEqProofs [z1, z2, z3, z4, z5, z6, z7, z8, y1, y2, y3, y4, y5]
    · have g1 : ¬ (l = c) := by omega
      simp -implicitDefEqProofs [g1, h1, h2]
  · rintro j ⟨t, h, d⟩ ⟨t1, t2, t15, t16, h1, h2, rows, P⟩ hj
    simp only at t1 t2 t15 t16 h1 h2 P
    have hj' : j < b.accs.length := by omega
    have hla := P.own.hla
    have dl : c + 1 + 1 < d := P.own.sep4.2
    have hlt : j < rows.length := by rw [P.own.len]; exact hj
    have hr : rows[j] = [B b.accs[j].opn, I b.accs[j].cash, I b.accs[j].loan, .ro b.accs[j].np (ints b.accs[j].parts), .ro b.accs[j].nl (ints b.accs[j].last)] := by
      have := P.rest j (Nat.le_refl _)
      rw [List.getElem?_eq_getElem hlt, List.getElem?_eq_getElem hj'] at this
      exact Option.some.inj this
    have okj := vb.accs _ (List.getElem_mem hj')
    have wj := w.accs _ (List.getElem_mem hj')
    have lp := okj.lp
    have ll := vb.last _ (List.getElem_mem hj')
    have np : b.accs[j].parts.isEmpty = false := by cases hh : b.accs[j].parts with | nil => rw [hh] at lp; simp at lp | cons x l => rfl
    have cp : ∀ h c, callA (mdT tblB) (run Try.prog (mdT tblB)) 90 [.ro b.accs[j].np (ints b.accs[j].parts)] h c = some (.sl c 1 0 4, h.put c (some ⟨1, ints b.accs[j].parts⟩), c + 1) := by
      intro h c
      rw [clonei_c b.accs[j].np b.accs[j].parts wj.fp (by omega), np, lp]
      rfl
    have cl := clonei_c b.accs[j].nl b.accs[j].last wj.fl (by omega)
    have k1 : decide ((j : Int) < 12) = true := decide_eq_true (by omega)
    have kk : (j : Int) < 12 := by omega
    have e1 : ¬ (d = c) := by omega
    have e2 : ¬ (c = d) := by omega
    have e3 : ¬ (d = c + 1) := by omega
    have e4 : ¬ (c + 1 = d) := by omega
    have e5 : ¬ (d = c + 1 + 1) := by omega
    have e6 : ¬ (c + 1 + 1 = d) := by omega
    have e7 : ¬ (d + 1 = c) := by omega
    have e8 : ¬ (c = d + 1) := by omega
    have e9 : ¬ (d + 1 = c + 1) := by omega
    have f1 : ¬ (c + 1 = d + 1) := by omega
    have f2 : ¬ (d + 1 = c + 1 + 1) := by omega
    have f3 : ¬ (c + 1 + 1 = d + 1) := by omega
    have f4 : ¬ (d ≤ c) := by omega
    have f5 : ¬ (d ≤ c + 1) := by omega
    have f6 : ¬ (d ≤ c + 1 + 1) := by omega
    have f7 : ¬ (d + 1 ≤ c) := by omega
    have f8 : ¬ (d + 1 ≤ c + 1) := by omega
    have f9 : ¬ (d + 1 ≤ c + 1 + 1) := by omega
    cases nl : b.accs[j].last.isEmpty
    · have cl' : ∀ h c, callA (mdT tblB) (run Try.prog (mdT tblB)) 90 [.ro b.accs[j].nl (ints b.accs[j].last)] h c = some (.sl c 1 0 b.accs[j].last.length, h.put c (some ⟨1, ints b.accs[j].last⟩), c + 1) := by
        intro h c; rw [cl, nl]; rfl
      simp -implicitDefEqProofs [-hd, t1, t2, t15, t16, h1, h2, hla, hlt, hr, cp, cl', k1, kk, z1, z2, z3, z4, z5, z6, z7, z8, y1, y2, y3, y4, y5, e1, e2, e3, e4, e5, e6, e7, e8, e9, f1, f2, f3, f4, f5, f6, f7, f8, f9]
      refine ⟨wrap_succ (by omega), _, P.next (vp := .sl d 1 0 4) (vl := .sl (d + 1) 1 0 b.accs[j].last.length) hj' (by omega) (by simp [z1, z2, z3, z4, z5, z6, z7, z8, y1, y2, y3, y4, y5, e1, e2, e3, e4, e5, e6, e7, e8, e9, f1, f2, f3, f4, f5, f6, f7, f8, f9]) (fun l hl1 hl2 => ?_) (els_all (by simp [lay_get, show ¬ (d + 1 ≤ d) by omega, z1, z2, z3, z4, z5, z6, z7, z8, y1, y2, y3, y4, y5, e1, e2, e3, e4, e5, e6, e7, e8, e9, f1, f2, f3, f4, f5, f6, f7, f8, f9]) (by simp [lp])) (els_all (by simp [lay_get, show ¬ (d + 1 ≤ d) by omega, z1, z2, z3, z4, z5, z6, z7, z8, y1, y2, y3, y4, y5, e1, e2, e3, e4, e5, e6, e7, e8, e9, f1, f2, f3, f4, f5, f6, f7, f8, f9]) (by simp)) (.inl ⟨_, _, _, rfl⟩) (.inl ⟨_, _, _, rfl⟩) (by simp; omega) (by simp) (by simp)⟩
      have g1 : ¬ (l = d) := by omega
      have g2 : ¬ (d ≤ l) := by omega
      have g3 : ¬ (l = d + 1) := by omega
      have g4 : ¬ (d + 1 ≤ l) := by omega
      simp [hl1, g1, g2, g3, g4]
    · have nl' : b.accs[j].last = [] := by simpa using nl
      cases zz : b.accs[j].nl
      · have cl' : ∀ h c, callA (mdT tblB) (run Try.prog (mdT tblB)) 90 [.ro b.accs[j].nl (ints b.accs[j].last)] h c = some (.emp, h, c) := by
          intro h c; rw [cl, nl, zz]; rfl
        rw [zz] at cl' hr
        simp -implicitDefEqProofs [-hd, t1, t2, t15, t16, h1, h2, hla, hlt, hr, cp, cl', k1, kk, z1, z2, z3, z4, z5, z6, z7, z8, y1, y2, y3, y4, y5, e1, e2, e3, e4, e5, e6, e7, e8, e9, f1, f2, f3, f4, f5, f6, f7, f8, f9]
        refine ⟨wrap_succ (by omega), _, P.next (vp := .sl d 1 0 4) (vl := .emp) hj' (by omega) (by simp [z1, z2, z3, z4, z5, z6, z7, z8, y1, y2, y3, y4, y5, e1, e2, e3, e4, e5, e6, e7, e8, e9, f1, f2, f3, f4, f5, f6, f7, f8, f9]) (fun l hl1 hl2 => ?_) (els_all (by simp [lay_get, show ¬ (d + 1 ≤ d) by omega, z1, z2, z3, z4, z5, z6, z7, z8, y1, y2, y3, y4, y5, e1, e2, e3, e4, e5, e6, e7, e8, e9, f1, f2, f3, f4, f5, f6, f7, f8, f9]) (by simp [lp])) (by rw [nl']; rfl) (.inl ⟨_, _, _, rfl⟩) (.inr (.inl rfl)) (by simp) (by simp) (by simp)⟩
        have g1 : ¬ (l = d) := by omega
        have g2 : ¬ (d ≤ l) := by omega
        simp [hl1, g1, g2]
      · have cl' : ∀ h c, callA (mdT tblB) (run Try.prog (mdT tblB)) 90 [.ro b.accs[j].nl (ints b.accs[j].last)] h c = some (.ro true [], h, c) := by
          intro h c; rw [cl, nl, zz]; rfl
        rw [zz] at cl' hr
        simp -implicitDefEqProofs [-hd, t1, t2, t15, t16, h1, h2, hla, hlt, hr, cp, cl', k1, kk, z1, z2, z3, z4, z5, z6, z7, z8, y1, y2, y3, y4, y5, e1, e2, e3, e4, e5, e6, e7, e8, e9, f1, f2, f3, f4, f5, f6, f7, f8, f9]
        refine ⟨wrap_succ (by omega), _, P.next (vp := .sl d 1 0 4) (vl := .ro true []) hj' (by omega) (by simp [z1, z2, z3, z4, z5, z6, z7, z8, y1, y2, y3, y4, y5, e1, e2, e3, e4, e5, e6, e7, e8, e9, f1, f2, f3, f4, f5, f6, f7, f8, f9]) (fun l hl1 hl2 => ?_) (els_all (by simp [lay_get, show ¬ (d + 1 ≤ d) by omega, z1, z2, z3, z4, z5, z6, z7, z8, y1, y2, y3, y4, y5, e1, e2, e3, e4, e5, e6, e7, e8, e9, f1, f2, f3, f4, f5, f6, f7, f8, f9]) (by simp [lp])) (by rw [nl']; rfl) (.inl ⟨_, _, _, rfl⟩) (.inr (.inr rfl)) (by simp) (by simp) (by simp)⟩
        have g1 : ¬ (l = d) := by omega
        have g2 : ¬ (d ≤ l) := by omega
        simp [hl1, g1, g2]
  · rintro ⟨t, h, d⟩ ⟨t1, t2, t15, t16, h1, h2, rows, P⟩
    simp only at t1 t2 t15 t16 h1 h2 P
    have dl : c + 1 + 1 < d := P.own.sep4.2
    have e1 : ¬ (d = c) := by omega
    have e2 : ¬ (c = d) := by omega
    have e3 : ¬ (d = c + 1) := by omega
    have e4 : ¬ (c + 1 = d) := by omega
    simp -implicitDefEqProofs [-hd, t1, t2, t15, t16, h1, h2, v1, v2, z1, z2, z3, z4, z5, z6, z7, z8, y1, y2, y3, y4, y5, e1, e2, e3, e4]
    refine k _ _ _ _ _ (by omega) (Own.weaken (Q := fun l => c + 1 + 1 ≤ l) (fun l hl => by omega) (P.own.frame (Nat.le_refl _) (fun l hl1 hl2 => ?_))) (fun i r hi hr => P.mine i r hi hr)
    have g1 : ¬ (l = c) := by omega
    have g2 : ¬ (l = c + 1) := by omega
    simp [g1, g2]
end Go.Proofs.Ytdckleaemkcapaa.AM
