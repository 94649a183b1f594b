/- Parts of the proof: B20, B21, B22. -/
import Derived.Test.YtdckleaemkcapaaMB
set_option linter.unusedVariables false
set_option linter.unusedSimpArgs false
set_option maxHeartbeats 0
set_option linter.unusedSectionVars false
namespace Go.Proofs.Ytdckleaemkcapaa.AM
open Go Go.Proofs
/-- The name that a row of memory is led to by. -/
def nm : AV → List Nat
  | .sl l _ _ _ => [l]
  | _ => []
@[simp] theorem nm_sl (l s o n : Nat) : nm (.sl l s o n) = [l] := rfl
@[simp] theorem nm_emp : nm .emp = [] := rfl
@[simp] theorem nm_ro (z : Bool) (es : List (List AV)) : nm (.ro z es) = [] := rfl
@[simp] theorem nm_val (v : Value) : nm (.val v) = [] := rfl
/-- What an append takes. -/
def SlV (sz : Nat) (v : AV) : Prop := (∃ l off len, v = .sl l sz off len) ∨ v = .emp ∨ v = .ro true []
theorem els_congr {h h' : Heap} {v : AV} (H : ∀ l ∈ nm v, h' l = h l) : els h' v = els h v := by
  cases v <;> try rfl
  case sl l s o n =>
    unfold els
    simp only
    rw [H l (by simp)]
def At (rows : List (List AV)) (i f l : Nat) : Prop := ∃ r x, rows[i]? = some r ∧ r[f]? = some x ∧ l ∈ nm x
/-- A row of an account. -/
abbrev rw5 (o : Bool) (x y : Int) (vp vl : AV) : List AV := [B o, I x, I y, vp, vl]
theorem at_set {rows : List (List AV)} {j : Nat} {o : Bool} {x y : Int} {vp vl : AV} {i f l : Nat} (h : At (rows.set j (rw5 o x y vp vl)) i f l) :
    (i = j ∧ ((f = 3 ∧ l ∈ nm vp) ∨ (f = 4 ∧ l ∈ nm vl))) ∨ (i ≠ j ∧ At rows i f l) := by
  obtain ⟨r, z, h1, h2, h3⟩ := h
  rw [List.getElem?_set] at h1
  split at h1
  · rename_i e
    subst e
    split at h1
    · cases h1
      left
      refine ⟨rfl, ?_⟩
      match f, h2 with
      | 0, h2 => cases h2; simp at h3
      | 1, h2 => cases h2; simp at h3
      | 2, h2 => cases h2; simp at h3
      | 3, h2 => cases h2; exact .inl ⟨rfl, h3⟩
      | 4, h2 => cases h2; exact .inr ⟨rfl, h3⟩
      | f + 5, h2 => simp at h2
    · cases h1
  · rename_i e
    exact .inr ⟨fun e' => e e'.symm, r, z, h1, h2, h3⟩
/-- A row tells an account. -/
def RowIs (h : Heap) (r : List AV) (a : Acc) : Prop := ∃ vp vl, r = rw5 a.opn a.cash a.loan vp vl ∧ els h vp = some (ints a.parts) ∧ els h vl = some (ints a.last)
theorem row_congr {h h' : Heap} {r : List AV} {a : Acc} (H : RowIs h r a) (hh : ∀ (f : Nat) x, r[f]? = some x → ∀ l ∈ nm x, h' l = h l) : RowIs h' r a := by
  obtain ⟨vp, vl, rfl, h1, h2⟩ := H
  exact ⟨vp, vl, rfl, by rw [els_congr (hh 3 vp rfl)]; exact h1, by rw [els_congr (hh 4 vl rfl)]; exact h2⟩
/-- A bank in the call's own memory. -/
structure Own (Q : Nat → Prop) (c : Nat) (h : Heap) (la : Nat) (v : AV) (accs : List Acc) (book : List Ent) (rows : List (List AV)) : Prop where
  hla : h la = some ⟨5, rows⟩
  len : rows.length = 12
  alen : accs.length = 12
  row : ∀ (i : Nat) r a, rows[i]? = some r → accs[i]? = some a → RowIs h r a
  bk : els h v = some (book.map Ent.cells)
  bkv : SlV 3 v
  sep1 : ∀ i f i' f' l, At rows i f l → At rows i' f' l → i = i' ∧ f = f'
  sep2 : ∀ i f l, At rows i f l → l ≠ la ∧ l ∉ nm v ∧ Q l ∧ l < c
  sep3 : ∀ l ∈ nm v, l ≠ la ∧ Q l ∧ l < c
  sep4 : Q la ∧ la < c
  fr : ∀ l, c ≤ l → Q l
section
variable {Q : Nat → Prop} {c : Nat} {h : Heap} {la : Nat} {v : AV} {accs : List Acc} {book : List Ent} {rows : List (List AV)}
theorem Own.names (O : Own Q c h la v accs book rows) {l : Nat} (hl : l = la ∨ l ∈ nm v ∨ ∃ i f, At rows i f l) : Q l ∧ l < c := by
  rcases hl with rfl | hl | ⟨i, f, hl⟩
  · exact O.sep4
  · exact (O.sep3 l hl).2
  · exact (O.sep2 i f l hl).2.2
theorem Own.frame (O : Own Q c h la v accs book rows) {h' : Heap} {c' : Nat} (hc : c ≤ c') (hh : ∀ l, Q l → l < c → h' l = h l) : Own Q c' h' la v accs book rows := by
  refine ⟨by rw [hh la O.sep4.1 O.sep4.2]; exact O.hla, O.len, O.alen, fun i r a hr ha => ?_, ?_, O.bkv, O.sep1, fun i f l hl => ?_, fun l hl => ?_, ⟨O.sep4.1, by have := O.sep4.2; omega⟩, fun l hl => O.fr l (by omega)⟩
  · exact row_congr (O.row i r a hr ha) fun f x hx l hl => hh l (O.names (.inr (.inr ⟨i, f, r, x, hr, hx, hl⟩))).1 (O.names (.inr (.inr ⟨i, f, r, x, hr, hx, hl⟩))).2
  · rw [els_congr fun l hl => hh l (O.names (.inr (.inl hl))).1 (O.names (.inr (.inl hl))).2]; exact O.bk
  · have := O.sep2 i f l hl; exact ⟨this.1, this.2.1, this.2.2.1, by omega⟩
  · have := O.sep3 l hl; exact ⟨this.1, this.2.1, by omega⟩
theorem Own.get (O : Own Q c h la v accs book rows) {i : Nat} (hi : i < 12) : ∃ a vp vl, accs[i]? = some a ∧ rows[i]? = some (rw5 a.opn a.cash a.loan vp vl) ∧ els h vp = some (ints a.parts) ∧ els h vl = some (ints a.last) := by
  have h1 : i < rows.length := by rw [O.len]; exact hi
  have h2 : i < accs.length := by rw [O.alen]; exact hi
  obtain ⟨vp, vl, h3, h4, h5⟩ := O.row i _ _ (List.getElem?_eq_getElem h1) (List.getElem?_eq_getElem h2)
  exact ⟨_, vp, vl, List.getElem?_eq_getElem h2, by rw [List.getElem?_eq_getElem h1, h3], h4, h5⟩
/-- An account is changed. -/
theorem Own.upd (O : Own Q c h la v accs book rows) {j : Nat} (hj : j < 12) {a a' : Acc} {vp vl vp' vl' : AV} {h' : Heap} {c' : Nat} (hr : rows[j]? = some (rw5 a.opn a.cash a.loan vp vl))
    (hc : c ≤ c') (hla : h' la = some ⟨5, rows.set j (rw5 a'.opn a'.cash a'.loan vp' vl')⟩)
    (hh : ∀ l, l ≠ la → (l ∈ nm v ∨ ∃ i f, i ≠ j ∧ At rows i f l) → h' l = h l)
    (e1 : els h' vp' = some (ints a'.parts)) (e2 : els h' vl' = some (ints a'.last))
    (n1 : ∀ l ∈ nm vp', l ∈ nm vp ∨ (c ≤ l ∧ l < c')) (n2 : ∀ l ∈ nm vl', l ∈ nm vl ∨ (c ≤ l ∧ l < c')) (n3 : ∀ l ∈ nm vp', l ∉ nm vl') :
    Own Q c' h' la v (accs.set j a') book (rows.set j (rw5 a'.opn a'.cash a'.loan vp' vl')) := by
  have at3 : ∀ l ∈ nm vp, At rows j 3 l := fun l hl => ⟨_, vp, hr, rfl, hl⟩
  have at4 : ∀ l ∈ nm vl, At rows j 4 l := fun l hl => ⟨_, vl, hr, rfl, hl⟩
  have lc : la < c := O.sep4.2
  have own3 : ∀ l ∈ nm vp', (At rows j 3 l ∨ (c ≤ l ∧ l < c')) := fun l hl => (n1 l hl).imp (at3 l) id
  have own4 : ∀ l ∈ nm vl', (At rows j 4 l ∨ (c ≤ l ∧ l < c')) := fun l hl => (n2 l hl).imp (at4 l) id
  have sep2' : ∀ i f l, At rows i f l → l ≠ la ∧ l ∉ nm v ∧ Q l ∧ l < c' := fun i f l hl => by have := O.sep2 i f l hl; exact ⟨this.1, this.2.1, this.2.2.1, by omega⟩
  have new2 : ∀ l, c ≤ l ∧ l < c' → l ≠ la ∧ l ∉ nm v ∧ Q l ∧ l < c' := fun l hl => ⟨by omega, fun hin => by have := (O.sep3 l hin).2.2; omega, O.fr l hl.1, hl.2⟩
  refine ⟨hla, by simpa using O.len, by simpa using O.alen, fun i r a1 hri hai => ?_, ?_, O.bkv, ?_, ?_, fun l hl => ?_, ⟨O.sep4.1, by omega⟩, fun l hl => O.fr l (by omega)⟩
  · rw [List.getElem?_set] at hri hai
    split at hri
    · rename_i e
      subst e
      rw [if_pos rfl] at hai
      split at hri
      · cases hri
        split at hai
        · cases hai
          exact ⟨vp', vl', rfl, e1, e2⟩
        · cases hai
      · cases hri
    · rename_i e
      rw [if_neg e] at hai
      refine row_congr (O.row i r a1 hri hai) fun f x hx l hl => hh l ?_ (.inr ⟨i, f, fun e' => e e'.symm, r, x, hri, hx, hl⟩)
      exact (O.sep2 i f l ⟨r, x, hri, hx, hl⟩).1
  · rw [els_congr fun l hl => hh l (O.sep3 l hl).1 (.inl hl)]; exact O.bk
  · intro i f i' f' l h1 h2
    rcases at_set h1 with ⟨rfl, k1⟩ | ⟨g1, k1⟩
    · rcases at_set h2 with ⟨rfl, k2⟩ | ⟨g2, k2⟩
      · refine ⟨rfl, ?_⟩
        rcases k1 with ⟨rfl, k1⟩ | ⟨rfl, k1⟩
        · rcases k2 with ⟨rfl, k2⟩ | ⟨rfl, k2⟩
          · rfl
          · exact absurd k2 (n3 l k1)
        · rcases k2 with ⟨rfl, k2⟩ | ⟨rfl, k2⟩
          · exact absurd k1 (n3 l k2)
          · rfl
      · exfalso
        have lt := (O.sep2 i' f' l k2).2.2.2
        rcases k1 with ⟨rfl, k1⟩ | ⟨rfl, k1⟩
        · rcases own3 l k1 with k3 | k3
          · exact g2 (O.sep1 _ _ _ _ l k2 k3).1
          · omega
        · rcases own4 l k1 with k3 | k3
          · exact g2 (O.sep1 _ _ _ _ l k2 k3).1
          · omega
    · rcases at_set h2 with ⟨rfl, k2⟩ | ⟨g2, k2⟩
      · exfalso
        have lt := (O.sep2 i f l k1).2.2.2
        rcases k2 with ⟨rfl, k2⟩ | ⟨rfl, k2⟩
        · rcases own3 l k2 with k3 | k3
          · exact g1 (O.sep1 _ _ _ _ l k1 k3).1
          · omega
        · rcases own4 l k2 with k3 | k3
          · exact g1 (O.sep1 _ _ _ _ l k1 k3).1
          · omega
      · exact O.sep1 i f i' f' l k1 k2
  · intro i f l hl
    rcases at_set hl with ⟨rfl, k1⟩ | ⟨g1, k1⟩
    · rcases k1 with ⟨rfl, k1⟩ | ⟨rfl, k1⟩
      · rcases own3 l k1 with k3 | k3
        · exact sep2' _ _ l k3
        · exact new2 l k3
      · rcases own4 l k1 with k3 | k3
        · exact sep2' _ _ l k3
        · exact new2 l k3
    · exact sep2' _ _ l k1
  · have := O.sep3 l hl; exact ⟨this.1, this.2.1, by omega⟩
/-- The book is changed. -/
theorem Own.bookUpd (O : Own Q c h la v accs book rows) {v' : AV} {book' : List Ent} {h' : Heap} {c' : Nat} (hc : c ≤ c') (hla : h' la = h la)
    (hh : ∀ i f l, At rows i f l → h' l = h l) (e1 : els h' v' = some (book'.map Ent.cells)) (e2 : SlV 3 v') (n1 : ∀ l ∈ nm v', l ∈ nm v ∨ (c ≤ l ∧ l < c')) :
    Own Q c' h' la v' accs book' rows := by
  have lc := O.sep4
  refine ⟨by rw [hla]; exact O.hla, O.len, O.alen, fun i r a hr ha => ?_, e1, e2, O.sep1, fun i f l hl => ?_, fun l hl => ?_, ⟨lc.1, by omega⟩, fun l hl => O.fr l (by omega)⟩
  · exact row_congr (O.row i r a hr ha) fun f x hx l hl => hh i f l ⟨r, x, hr, hx, hl⟩
  · have := O.sep2 i f l hl
    refine ⟨this.1, fun hin => ?_, this.2.2.1, by omega⟩
    rcases n1 l hin with k | k
    · exact this.2.1 k
    · omega
  · rcases n1 l hl with k | k
    · have := O.sep3 l k; exact ⟨this.1, this.2.1, by omega⟩
    · exact ⟨by omega, O.fr l k.1, by omega⟩
end
/-! ### what is read out -/
theorem frz_els {h : Heap} {w : AV} {l : List Int} (n : Nat) (hs : SlV 1 w ∨ ∃ z, w = .ro z (ints l) ∧ (z = true → l = [])) (he : els h w = some (ints l)) : ∃ z : Bool, frz h (n + 2) w = some (.ro z (ints l)) ∧ (z = true → l = []) := by
  rcases hs with (⟨k, off, len, rfl⟩ | rfl | rfl) | ⟨z, rfl, hz⟩
  · refine ⟨false, ?_, fun h => by cases h⟩
    show ((els h (.sl k 1 off len)).bind fun es => (es.mapM fun (e : List AV) => e.mapM (frz h (n + 1))).map (AV.ro false)) = _
    rw [he, Option.bind_some, ints_frz]
    rfl
  · cases l with
    | nil => exact ⟨false, rfl, fun h => by cases h⟩
    | cons x l => simp [els] at he
  · cases l with
    | nil => exact ⟨true, rfl, fun _ => rfl⟩
    | cons x l => simp [els] at he
  · exact ⟨z, rfl, hz⟩
theorem ents_frz (h : Heap) (k : Nat) (l : List Ent) : (l.map Ent.cells).mapM (fun e => e.mapM (frz h (k + 1))) = some (l.map Ent.cells) := by
  induction l with
  | nil => rfl
  | cons x l ih =>
    show ((x.cells : List AV) :: l.map Ent.cells).mapM _ = _
    rw [List.mapM_cons, ih]
    rfl
theorem frz_book {h : Heap} {w : AV} {l : List Ent} (n : Nat) (hs : SlV 3 w) (he : els h w = some (l.map Ent.cells)) : ∃ z : Bool, frz h (n + 2) w = some (.ro z (l.map Ent.cells)) ∧ (z = true → l = []) := by
  rcases hs with ⟨k, off, len, rfl⟩ | rfl | rfl
  · refine ⟨false, ?_, fun h => by cases h⟩
    show ((els h (.sl k 3 off len)).bind fun es => (es.mapM fun (e : List AV) => e.mapM (frz h (n + 1))).map (AV.ro false)) = _
    rw [he, Option.bind_some, ents_frz]
    rfl
  · cases l with
    | nil => exact ⟨false, rfl, fun h => by cases h⟩
    | cons x l => simp [els] at he
  · cases l with
    | nil => exact ⟨true, rfl, fun _ => rfl⟩
    | cons x l => simp [els] at he
/-- The lists of the first accounts are the call's own. -/
def Mine (rows : List (List AV)) (j : Nat) : Prop := ∀ i r, i < j → rows[i]? = some r → ∃ o x y vp vl, r = rw5 o x y vp vl ∧ SlV 1 vp ∧ SlV 1 vl
/-- What an account's row reads as. -/
def Likes (a b : Acc) : Prop := a.nrm = b.nrm ∧ (a.np = true → a.parts = []) ∧ (a.nl = true → a.last = [])
theorem rows_frz {h : Heap} (n : Nat) : ∀ (rows : List (List AV)) (accs : List Acc), rows.length = accs.length → (∀ (i : Nat) r a, rows[i]? = some r → accs[i]? = some a → RowIs h r a ∧ ∃ o x y vp vl, r = rw5 o x y vp vl ∧ SlV 1 vp ∧ SlV 1 vl) →
    ∃ accs' : List Acc, rows.mapM (fun e => e.mapM (frz h (n + 2))) = some (accs'.map Acc.cells) ∧ accs'.map Acc.nrm = accs.map Acc.nrm ∧ ∀ a ∈ accs', (a.np = true → a.parts = []) ∧ (a.nl = true → a.last = [])
  | [], [], _, _ => ⟨[], rfl, rfl, fun a h => by cases h⟩
  | [], a :: accs, h, _ => by simp at h
  | r :: rows, [], h, _ => by simp at h
  | r :: rows, a :: accs, hl, H => by
    obtain ⟨accs', h1, h2, h3⟩ := rows_frz n rows accs (by simpa using hl) fun i r a hr ha => H (i + 1) r a (by simpa using hr) (by simpa using ha)
    obtain ⟨⟨vp, vl, e, k1, k2⟩, o, x, y, vp', vl', e', s1, s2⟩ := H 0 r a rfl rfl
    rw [e] at e'
    simp only [List.cons.injEq, and_true] at e'
    obtain ⟨_, _, _, rfl, rfl⟩ := e'
    obtain ⟨z1, f1, g1⟩ := frz_els n (.inl s1) k1
    obtain ⟨z2, f2, g2⟩ := frz_els n (.inl s2) k2
    refine ⟨{ a with np := z1, nl := z2 } :: accs', ?_, ?_, ?_⟩
    · rw [List.mapM_cons, h1, e]
      have : (rw5 a.opn a.cash a.loan vp vl).mapM (frz h (n + 2)) = some (Acc.cells { a with np := z1, nl := z2 }) := by
        unfold rw5
        rw [List.mapM_cons, List.mapM_cons, List.mapM_cons, List.mapM_cons, List.mapM_cons, f1, f2]
        rfl
      rw [this]
      rfl
    · rw [List.map_cons, List.map_cons, h2]
      rfl
    · intro b hb
      rcases List.mem_cons.1 hb with rfl | hb
      · exact ⟨g1, g2⟩
      · exact h3 b hb
theorem Own.frz {Q : Nat → Prop} {c : Nat} {h : Heap} {la : Nat} {v : AV} {accs : List Acc} {book : List Ent} {rows : List (List AV)} (O : Own Q c h la v accs book rows) (M : Mine rows 12) (n : Nat) (r f x : Int) :
    ∃ b' : Bnk, AM.frz h (n + 5) (.agg [.sl la 5 0 12, I r, I f, I x, v]) = some (.agg (bc b')) ∧ b'.nrm = (⟨false, accs, r, f, x, false, book⟩ : Bnk).nrm ∧ (b'.nb = true → b'.book = []) ∧ b'.na = false ∧ ∀ a ∈ b'.accs, (a.np = true → a.parts = []) ∧ (a.nl = true → a.last = []) := by
  obtain ⟨accs', h1, h2, h3⟩ := rows_frz (h := h) (n + 1) rows accs (by rw [O.len, O.alen]) fun i r a hr ha => ⟨O.row i r a hr ha, M i r (by have := (List.getElem?_eq_some_iff.1 hr).1; rw [O.len] at this; exact this) hr⟩
  obtain ⟨z, h4, h5⟩ := frz_book (n + 2) O.bkv O.bk
  refine ⟨⟨false, accs', r, f, x, z, book⟩, ?_, by unfold Bnk.nrm; simp only; rw [h2], h5, rfl, h3⟩
  show (List.mapM (AM.frz h (n + 4)) [.sl la 5 0 12, I r, I f, I x, v]).map AV.agg = _
  have e1 : AM.frz h (n + 4) (.sl la 5 0 12) = some (.ro false (accs'.map Acc.cells)) := by
    show ((els h (.sl la 5 0 12)).bind fun es => (es.mapM fun (e : List AV) => e.mapM (AM.frz h (n + 3))).map (AV.ro false)) = _
    have : els h (.sl la 5 0 12) = some rows := by
      simp only [els, O.hla, Option.bind_some]
      rw [if_pos (by simp [O.len]), List.drop_zero, List.take_of_length_le (by simp [O.len])]
    rw [this, Option.bind_some, h1]
    rfl
  rw [List.mapM_cons, List.mapM_cons, List.mapM_cons, List.mapM_cons, List.mapM_cons, e1, h4]
  rfl
end Go.Proofs.Ytdckleaemkcapaa.AM
namespace Go.Proofs.Ytdckleaemkcapaa.AM
open Go Go.Proofs
attribute [local simp] AV.cells okc AV.isBad fieldAddrA ld setCells stA skipV appendA hd makeA bnd sliceA kindA freshA killOk loadsAt newT empT lay_get allocA buildA buildRow builtinA lenA els indexAddrA isNil opA evA lit yldA binA binI unA pickA boolV intV fieldA mk flat lf lf.lfs frz
theorem els_up {h h' : Heap} {v : AV} {es : List (List AV)} (H : ∀ l ∈ nm v, ∀ b, h l = some b → h' l = some b) (e : els h v = some es) : els h' v = some es := by
  cases v <;> try exact e
  case sl l s o n =>
    unfold els at e ⊢
    simp only at e ⊢
    obtain ⟨b, hb, e⟩ := Option.bind_eq_some_iff.mp e
    rw [H l (by simp) b hb]
    exact e
theorem Own.up {Q : Nat → Prop} {c : Nat} {h : Heap} {la : Nat} {v : AV} {accs : List Acc} {book : List Ent} {rows : List (List AV)} (O : Own Q c h la v accs book rows) {h' : Heap} (hh : ∀ l b, Q l → l < c → h l = some b → h' l = some b) : Own Q c h' la v accs book rows := by
  refine ⟨hh la _ O.sep4.1 O.sep4.2 O.hla, O.len, O.alen, fun i r a hr ha => ?_, ?_, O.bkv, O.sep1, O.sep2, O.sep3, O.sep4, O.fr⟩
  · obtain ⟨vp, vl, rfl, h1, h2⟩ := O.row i r a hr ha
    have key : ∀ (f : Nat) x, (rw5 a.opn a.cash a.loan vp vl)[f]? = some x → ∀ l ∈ nm x, ∀ b, h l = some b → h' l = some b := fun f x hx l hl b hb => hh l b (O.names (.inr (.inr ⟨i, f, _, x, hr, hx, hl⟩))).1 (O.names (.inr (.inr ⟨i, f, _, x, hr, hx, hl⟩))).2 hb
    exact ⟨vp, vl, rfl, els_up (key 3 vp rfl) h1, els_up (key 4 vl rfl) h2⟩
  · exact els_up (fun l hl b hb => hh l b (O.names (.inr (.inl hl))).1 (O.names (.inr (.inl hl))).2 hb) O.bk
theorem cut_none (h h' : Heap) (c : Nat) : (h'.cut c c).over h = h := by
  funext l
  show (if c ≤ l ∧ l < c then h' l else none).or (h l) = h l
  rw [if_neg (by omega)]
  rfl
theorem cut_put (h : Heap) (c : Nat) (b : Blk) : ((Heap.none.put c (some b)).cut c (c + 1)).over h = h.put c (some b) := by
  funext l
  show (if c ≤ l ∧ l < c + 1 then (if l = c then some b else none) else none).or (h l) = if l = c then some b else h l
  by_cases e : l = c
  · subst e; simp
  · rw [if_neg (by omega), if_neg e]; rfl
theorem call_own_mode {f : Nat} {args : List AV} {h h' : Heap} {c c' : Nat} {r : AV} (hm : mdT tblB f = some .own) (e : run Try.prog (mdT tblB) f args Heap.none c = some (r, h', c')) :
    callA (mdT tblB) (run Try.prog (mdT tblB)) f args h c = some (r, (h'.cut c c').over h, c') := by
  unfold callA
  rw [hm]
  simp only [e, Option.map_some]
@[simp] theorem hd_map3 {α : Type} (l : List α) (g : α → List AV) (n : Nat) (hg : ∀ a, (g a).length = n) : hd (l.map g) n = true := by
  cases l with
  | nil => rfl
  | cons x l => simp [hd, hg]
theorem hd_ints (l : List Int) : hd (ints l) 1 = true := hd_map3 l _ 1 fun _ => rfl
theorem hd_ents (l : List Ent) : hd (l.map Ent.cells) 3 = true := hd_map3 l _ 3 fun _ => rfl
theorem hd_accs (l : List Acc) : hd (l.map Acc.cells) 5 = true := hd_map3 l _ 5 fun _ => rfl
theorem clonea_c (z : Bool) (l : List Acc) (hz : z = true → l = []) (hb : l.length ≤ 1000000) (h : Heap) (c : Nat) : callA (mdT tblB) (run Try.prog (mdT tblB)) 88 [.ro z (l.map Acc.cells)] h c =
    bif l.isEmpty then some (bif z then .ro true [] else .emp, h, c) else some (.sl c 5 0 l.length, h.put c (some ⟨5, l.map Acc.cells⟩), c + 1) := by
  have hh := hd_accs l
  have r1 : l.length * 72 ≤ room := by unfold room; omega
  have r2 : l.length ≤ room := by unfold room; omega
  cases hl : l.isEmpty
  · have hz' : z = false := by cases z with | false => rfl | true => rw [hz rfl] at hl; simp at hl
    subst hz'
    have hl' : ¬ (l = []) := by simpa using hl
    have e : run Try.prog (mdT tblB) 88 [.ro false (l.map Acc.cells)] Heap.none c = some (.sl c 5 0 l.length, Heap.none.put c (some ⟨5, l.map Acc.cells⟩), c + 1) := by
      rw [run_eq, show mdT tblB 88 = some .own from rfl, Option.bind_some, Try.func88]
      simp -implicitDefEqProofs [-hd, Try.f88, hl, hl', hh, r1, r2]
    rw [call_own_mode rfl e, cut_put]
    rfl
  · have hl' : l = [] := by simpa using hl
    subst hl'
    cases z
    · have e : run Try.prog (mdT tblB) 88 [.ro false []] Heap.none c = some (.emp, Heap.none, c) := by
        rw [run_eq, show mdT tblB 88 = some .own from rfl, Option.bind_some, Try.func88]
        simp -implicitDefEqProofs [Try.f88]
      rw [List.map_nil, call_own_mode rfl e, cut_none]
      rfl
    · have e : run Try.prog (mdT tblB) 88 [.ro true []] Heap.none c = some (.ro true [], Heap.none, c) := by
        rw [run_eq, show mdT tblB 88 = some .own from rfl, Option.bind_some, Try.func88]
        simp -implicitDefEqProofs [Try.f88]
      rw [List.map_nil, call_own_mode rfl e, cut_none]
      rfl
theorem clonee_c (z : Bool) (l : List Ent) (hz : z = true → l = []) (hb : l.length ≤ 1000000) (h : Heap) (c : Nat) : callA (mdT tblB) (run Try.prog (mdT tblB)) 89 [.ro z (l.map Ent.cells)] h c =
    bif l.isEmpty then some (bif z then .ro true [] else .emp, h, c) else some (.sl c 3 0 l.length, h.put c (some ⟨3, l.map Ent.cells⟩), c + 1) := by
  have hh := hd_ents l
  have r1 : l.length * 24 ≤ room := by unfold room; omega
  have r2 : l.length ≤ room := by unfold room; omega
  cases hl : l.isEmpty
  · have hz' : z = false := by cases z with | false => rfl | true => rw [hz rfl] at hl; simp at hl
    subst hz'
    have hl' : ¬ (l = []) := by simpa using hl
    have e : run Try.prog (mdT tblB) 89 [.ro false (l.map Ent.cells)] Heap.none c = some (.sl c 3 0 l.length, Heap.none.put c (some ⟨3, l.map Ent.cells⟩), c + 1) := by
      rw [run_eq, show mdT tblB 89 = some .own from rfl, Option.bind_some, Try.func89]
      simp -implicitDefEqProofs [-hd, Try.f89, hl, hl', hh, r1, r2]
    rw [call_own_mode rfl e, cut_put]
    rfl
  · have hl' : l = [] := by simpa using hl
    subst hl'
    cases z
    · have e : run Try.prog (mdT tblB) 89 [.ro false []] Heap.none c = some (.emp, Heap.none, c) := by
        rw [run_eq, show mdT tblB 89 = some .own from rfl, Option.bind_some, Try.func89]
        simp -implicitDefEqProofs [Try.f89]
      rw [List.map_nil, call_own_mode rfl e, cut_none]
      rfl
    · have e : run Try.prog (mdT tblB) 89 [.ro true []] Heap.none c = some (.ro true [], Heap.none, c) := by
        rw [run_eq, show mdT tblB 89 = some .own from rfl, Option.bind_some, Try.func89]
        simp -implicitDefEqProofs [Try.f89]
      rw [List.map_nil, call_own_mode rfl e, cut_none]
      rfl
theorem clonei_c (z : Bool) (l : List Int) (hz : z = true → l = []) (hb : l.length ≤ 1000000) (h : Heap) (c : Nat) : callA (mdT tblB) (run Try.prog (mdT tblB)) 90 [.ro z (l.map (fun n => [I n]))] h c =
    bif l.isEmpty then some (bif z then .ro true [] else .emp, h, c) else some (.sl c 1 0 l.length, h.put c (some ⟨1, l.map (fun n => [I n])⟩), c + 1) := by
  have hh := hd_ints l
  have r1 : l.length * 8 ≤ room := by unfold room; omega
  have r2 : l.length ≤ room := by unfold room; omega
  cases hl : l.isEmpty
  · have hz' : z = false := by cases z with | false => rfl | true => rw [hz rfl] at hl; simp at hl
    subst hz'
    have hl' : ¬ (l = []) := by simpa using hl
    have e : run Try.prog (mdT tblB) 90 [.ro false (l.map (fun n => [I n]))] Heap.none c = some (.sl c 1 0 l.length, Heap.none.put c (some ⟨1, l.map (fun n => [I n])⟩), c + 1) := by
      rw [run_eq, show mdT tblB 90 = some .own from rfl, Option.bind_some, Try.func90]
      simp -implicitDefEqProofs [-hd, Try.f90, hl, hl', hh, r1, r2]
    rw [call_own_mode rfl e, cut_put]
    rfl
  · have hl' : l = [] := by simpa using hl
    subst hl'
    cases z
    · have e : run Try.prog (mdT tblB) 90 [.ro false []] Heap.none c = some (.emp, Heap.none, c) := by
        rw [run_eq, show mdT tblB 90 = some .own from rfl, Option.bind_some, Try.func90]
        simp -implicitDefEqProofs [Try.f90]
      rw [List.map_nil, call_own_mode rfl e, cut_none]
      rfl
    · have e : run Try.prog (mdT tblB) 90 [.ro true []] Heap.none c = some (.ro true [], Heap.none, c) := by
        rw [run_eq, show mdT tblB 90 = some .own from rfl, Option.bind_some, Try.func90]
        simp -implicitDefEqProofs [Try.f90]
      rw [List.map_nil, call_own_mode rfl e, cut_none]
      rfl
@[simp] theorem md_3 : mdT tblB 3 = some .pure := rfl
@[simp] theorem md_4 : mdT tblB 4 = some .pure := rfl
@[simp] theorem md_5 : mdT tblB 5 = some .pure := rfl
@[simp] theorem md_6 : mdT tblB 6 = some .pure := rfl
@[simp] theorem md_7 : mdT tblB 7 = some .pure := rfl
@[simp] theorem md_8 : mdT tblB 8 = some .pure := rfl
@[simp] theorem md_9 : mdT tblB 9 = some .pure := rfl
@[simp] theorem md_10 : mdT tblB 10 = some .pure := rfl
@[simp] theorem md_11 : mdT tblB 11 = some .pure := rfl
@[simp] theorem md_12 : mdT tblB 12 = some .pure := rfl
@[simp] theorem md_13 : mdT tblB 13 = some .pure := rfl
@[simp] theorem md_14 : mdT tblB 14 = some .pure := rfl
@[simp] theorem md_15 : mdT tblB 15 = some .pure := rfl
@[simp] theorem md_16 : mdT tblB 16 = some .pure := rfl
@[simp] theorem md_17 : mdT tblB 17 = some .pure := rfl
@[simp] theorem md_18 : mdT tblB 18 = some .pure := rfl
@[simp] theorem md_19 : mdT tblB 19 = some .pure := rfl
@[simp] theorem md_20 : mdT tblB 20 = some .pure := rfl
@[simp] theorem md_21 : mdT tblB 21 = some .pure := rfl
@[simp] theorem md_22 : mdT tblB 22 = some .pure := rfl
@[simp] theorem md_23 : mdT tblB 23 = some .pure := rfl
@[simp] theorem md_24 : mdT tblB 24 = some .pure := rfl
@[simp] theorem md_25 : mdT tblB 25 = some .pure := rfl
@[simp] theorem md_26 : mdT tblB 26 = some .pure := rfl
@[simp] theorem md_27 : mdT tblB 27 = some .pure := rfl
@[simp] theorem md_28 : mdT tblB 28 = some .pure := rfl
@[simp] theorem md_29 : mdT tblB 29 = some .pure := rfl
@[simp] theorem md_30 : mdT tblB 30 = some .pure := rfl
@[simp] theorem md_31 : mdT tblB 31 = some .pure := rfl
@[simp] theorem md_32 : mdT tblB 32 = some .pure := rfl
@[simp] theorem md_33 : mdT tblB 33 = some .pure := rfl
@[simp] theorem md_34 : mdT tblB 34 = some .pure := rfl
@[simp] theorem md_35 : mdT tblB 35 = some .pure := rfl
@[simp] theorem md_36 : mdT tblB 36 = some .own := rfl
@[simp] theorem md_37 : mdT tblB 37 = some .pure := rfl
@[simp] theorem md_38 : mdT tblB 38 = some .pure := rfl
@[simp] theorem md_39 : mdT tblB 39 = some .pure := rfl
@[simp] theorem md_40 : mdT tblB 40 = some .own := rfl
@[simp] theorem md_41 : mdT tblB 41 = some .pure := rfl
@[simp] theorem md_42 : mdT tblB 42 = some .pure := rfl
@[simp] theorem md_43 : mdT tblB 43 = some .pure := rfl
@[simp] theorem md_44 : mdT tblB 44 = some .pure := rfl
@[simp] theorem md_45 : mdT tblB 45 = some .pure := rfl
@[simp] theorem md_46 : mdT tblB 46 = some .pure := rfl
@[simp] theorem md_47 : mdT tblB 47 = some .pure := rfl
@[simp] theorem md_48 : mdT tblB 48 = some .pure := rfl
@[simp] theorem md_49 : mdT tblB 49 = some .pure := rfl
@[simp] theorem md_50 : mdT tblB 50 = some .pure := rfl
@[simp] theorem md_51 : mdT tblB 51 = some .pure := rfl
@[simp] theorem md_52 : mdT tblB 52 = some .pure := rfl
@[simp] theorem md_53 : mdT tblB 53 = some .pure := rfl
@[simp] theorem md_54 : mdT tblB 54 = some .pure := rfl
@[simp] theorem md_55 : mdT tblB 55 = some .pure := rfl
@[simp] theorem md_56 : mdT tblB 56 = some .pure := rfl
@[simp] theorem md_57 : mdT tblB 57 = some .pure := rfl
@[simp] theorem md_58 : mdT tblB 58 = some .pure := rfl
@[simp] theorem md_59 : mdT tblB 59 = some .pure := rfl
@[simp] theorem md_60 : mdT tblB 60 = some .pure := rfl
@[simp] theorem md_61 : mdT tblB 61 = some .pure := rfl
@[simp] theorem md_62 : mdT tblB 62 = some .pure := rfl
@[simp] theorem md_63 : mdT tblB 63 = some .pure := rfl
@[simp] theorem md_64 : mdT tblB 64 = some .pure := rfl
@[simp] theorem md_65 : mdT tblB 65 = some .pure := rfl
@[simp] theorem md_66 : mdT tblB 66 = some .pure := rfl
@[simp] theorem md_67 : mdT tblB 67 = some .own := rfl
@[simp] theorem md_68 : mdT tblB 68 = some .heap := rfl
@[simp] theorem md_69 : mdT tblB 69 = some .own := rfl
@[simp] theorem md_70 : mdT tblB 70 = some .own := rfl
@[simp] theorem md_71 : mdT tblB 71 = some .pure := rfl
@[simp] theorem md_72 : mdT tblB 72 = some .pure := rfl
@[simp] theorem md_73 : mdT tblB 73 = some .pure := rfl
@[simp] theorem md_74 : mdT tblB 74 = some .pure := rfl
@[simp] theorem md_75 : mdT tblB 75 = some .pure := rfl
@[simp] theorem md_76 : mdT tblB 76 = some .pure := rfl
@[simp] theorem md_77 : mdT tblB 77 = some .pure := rfl
@[simp] theorem md_78 : mdT tblB 78 = some .own := rfl
@[simp] theorem md_79 : mdT tblB 79 = some .heap := rfl
@[simp] theorem md_80 : mdT tblB 80 = some .pure := rfl
@[simp] theorem md_81 : mdT tblB 81 = some .heap := rfl
@[simp] theorem md_82 : mdT tblB 82 = some .heap := rfl
@[simp] theorem md_83 : mdT tblB 83 = some .heap := rfl
@[simp] theorem md_84 : mdT tblB 84 = some .pure := rfl
@[simp] theorem md_85 : mdT tblB 85 = some .pure := rfl
@[simp] theorem md_86 : mdT tblB 86 = some .pure := rfl
@[simp] theorem md_87 : mdT tblB 87 = some .pure := rfl
@[simp] theorem md_88 : mdT tblB 88 = some .own := rfl
@[simp] theorem md_89 : mdT tblB 89 = some .own := rfl
@[simp] theorem md_90 : mdT tblB 90 = some .own := rfl
@[simp] theorem md_91 : mdT tblB 91 = some .heap := rfl
@[simp] theorem md_92 : mdT tblB 92 = some .heap := rfl
end Go.Proofs.Ytdckleaemkcapaa.AM
namespace Go.Proofs.Ytdckleaemkcapaa.AM
open Go Go.Proofs
attribute [local simp] AV.cells okc AV.isBad fieldAddrA ld setCells stA skipV appendA hd makeA bnd sliceA kindA freshA killOk loadsAt newT empT lay_get allocA buildA buildRow builtinA lenA els indexAddrA isNil opA evA lit yldA binA binI unA pickA boolV intV fieldA mk flat lf lf.lfs frz
theorem goes_mono {J J' : St → Prop} {x : Option (Ex × St)} (h : GoesOn J x) (k : ∀ s, J s → J' s) : GoesOn J' x := by
  unfold GoesOn at h ⊢
  split at h
  · exact k _ h
  · exact h.elim
/-- How far a copy has come: the first rows are copied. -/
structure Part (Q : Nat → Prop) (c : Nat) (h : Heap) (la : Nat) (b : Bnk) (v : AV) (bk : List Ent) (rows : List (List AV)) (j : Nat) : Prop where
  own : Own Q c h la v b.accs bk rows
  mine : Mine rows j
  rest : ∀ i, j ≤ i → rows[i]? = (b.accs[i]?).map Acc.cells
theorem mine_set {rows : List (List AV)} {j : Nat} (M : Mine rows j) {o : Bool} {x y : Int} {vp vl : AV} (s1 : SlV 1 vp) (s2 : SlV 1 vl) : Mine (rows.set j (rw5 o x y vp vl)) (j + 1) := by
  intro i r hi hr
  rw [List.getElem?_set] at hr
  split at hr
  · split at hr
    · cases hr; exact ⟨o, x, y, vp, vl, rfl, s1, s2⟩
    · cases hr
  · rename_i e
    exact M i r (by omega) hr
theorem Part.start {Q : Nat → Prop} {c : Nat} {h : Heap} {la : Nat} {b : Bnk} (vb : Valid b) (h1 : Q la) (h2 : la < c) (hf : ∀ l, c ≤ l → Q l) (hl : h la = some ⟨5, b.accs.map Acc.cells⟩) : Part Q c h la b .emp [] (b.accs.map Acc.cells) 0 := by
  have noAt : ∀ i f l, ¬ At (b.accs.map Acc.cells) i f l := by
    rintro i f l ⟨r, x, hr, hx, hl⟩
    rw [List.getElem?_map] at hr
    obtain ⟨a, ha, rfl⟩ := Option.map_eq_some_iff.mp hr
    match f, hx with
    | 0, hx => cases hx; simp at hl
    | 1, hx => cases hx; simp at hl
    | 2, hx => cases hx; simp at hl
    | 3, hx => cases hx; simp at hl
    | 4, hx => cases hx; simp at hl
    | f + 5, hx => simp [Acc.cells] at hx
  refine ⟨⟨hl, by simpa using vb.len, vb.len, fun i r a hr ha => ?_, rfl, .inr (.inl rfl), fun i f i' f' l k => absurd k (noAt _ _ _), fun i f l k => absurd k (noAt _ _ _), fun l hl => by simp at hl, ⟨h1, h2⟩, hf⟩, fun i r hi => by omega, fun i _ => by rw [List.getElem?_map]⟩
  rw [List.getElem?_map, ha] at hr
  cases hr
  exact ⟨_, _, rfl, rfl, rfl⟩
/-- One account more. -/
theorem Part.next {Q : Nat → Prop} {c c' : Nat} {h h' : Heap} {la : Nat} {b : Bnk} {v : AV} {bk : List Ent} {rows : List (List AV)} {j : Nat} (P : Part Q c h la b v bk rows j) (hj : j < b.accs.length) {vp vl : AV} (hc : c ≤ c')
    (hla : h' la = some ⟨5, rows.set j (rw5 b.accs[j].opn b.accs[j].cash b.accs[j].loan vp vl)⟩) (hh : ∀ l, l ≠ la → l < c → h' l = h l)
    (e1 : els h' vp = some (ints b.accs[j].parts)) (e2 : els h' vl = some (ints b.accs[j].last)) (s1 : SlV 1 vp) (s2 : SlV 1 vl)
    (n1 : ∀ l ∈ nm vp, c ≤ l ∧ l < c') (n2 : ∀ l ∈ nm vl, c ≤ l ∧ l < c') (n3 : ∀ l ∈ nm vp, l ∉ nm vl) :
    Part Q c' h' la b v bk (rows.set j (rw5 b.accs[j].opn b.accs[j].cash b.accs[j].loan vp vl)) (j + 1) := by
  have hj12 : j < 12 := by have := P.own.alen; omega
  have hr : rows[j]? = some (rw5 b.accs[j].opn b.accs[j].cash b.accs[j].loan (.ro b.accs[j].np (ints b.accs[j].parts)) (.ro b.accs[j].nl (ints b.accs[j].last))) := by
    rw [P.rest j (Nat.le_refl _), List.getElem?_eq_getElem hj]; rfl
  have ha : b.accs.set j b.accs[j] = b.accs := List.set_getElem_self hj
  refine ⟨?_, mine_set P.mine s1 s2, fun i hi => ?_⟩
  · have := P.own.upd hj12 (a := b.accs[j]) (a' := b.accs[j]) hr hc hla (fun l hl hin => hh l hl ?_) e1 e2 (fun l hl => .inr (n1 l hl)) (fun l hl => .inr (n2 l hl)) n3
    · rw [ha] at this; exact this
    · rcases hin with hin | ⟨i, f, _, hin⟩
      · exact (P.own.sep3 l hin).2.2
      · exact (P.own.sep2 i f l hin).2.2.2
  · rw [List.getElem?_set, if_neg (by omega)]
    exact P.rest i (by omega)
theorem Own.weaken {Q Q' : Nat → Prop} {c : Nat} {h : Heap} {la : Nat} {v : AV} {accs : List Acc} {book : List Ent} {rows : List (List AV)} (hl : ∀ l, Q l → Q' l) (O : Own Q c h la v accs book rows) : Own Q' c h la v accs book rows :=
  ⟨O.hla, O.len, O.alen, O.row, O.bk, O.bkv, O.sep1, fun i f l h => by have := O.sep2 i f l h; exact ⟨this.1, this.2.1, hl _ this.2.2.1, this.2.2.2⟩, fun l h => by have := O.sep3 l h; exact ⟨this.1, hl _ this.2.1, this.2.2⟩, ⟨hl _ O.sep4.1, O.sep4.2⟩, fun l h => hl _ (O.fr l h)⟩
/-- A name that is not led to. -/
theorem Own.excl {Q : Nat → Prop} {c : Nat} {h : Heap} {la : Nat} {v : AV} {accs : List Acc} {book : List Ent} {rows : List (List AV)} (O : Own Q c h la v accs book rows) {d : Nat} (hd : c ≤ d) : Own (fun l => Q l ∧ l ≠ d) (d + 1) h la v accs book rows :=
  ⟨O.hla, O.len, O.alen, O.row, O.bk, O.bkv, O.sep1, fun i f l h => by have := O.sep2 i f l h; exact ⟨this.1, this.2.1, ⟨this.2.2.1, by omega⟩, by omega⟩, fun l h => by have := O.sep3 l h; exact ⟨this.1, ⟨this.2.1, by omega⟩, by omega⟩, ⟨⟨O.sep4.1, by have := O.sep4.2; omega⟩, by have := O.sep4.2; omega⟩, fun l h => ⟨O.fr l (by omega), by omega⟩⟩
theorem hd_nil (n : Nat) : hd [] n = true := rfl
theorem els_all {h : Heap} {l sz n : Nat} {es : List (List AV)} (hl : h l = some ⟨sz, es⟩) (hn : es.length = n) : els h (.sl l sz 0 n) = some es := by
  simp only [els, hl, Option.bind_some]
  rw [if_pos (by simp [hn]), List.drop_zero, List.take_of_length_le (by simp [hn])]
theorem rcopy_run (b : Bnk) (vb : Valid b) (w : b.Wfb) (c : Nat) (R : Option (AV × Heap × Nat) → Prop)
    (k : ∀ h1 c1 la v rows, c ≤ c1 → Own (fun l => c ≤ l) c1 h1 la v b.accs b.book rows → Mine rows 12 → R (some (.agg [.sl la 5 0 12, I b.rate, I b.infl, I b.idx, v], h1, c1))) :
    R (run Try.prog (mdT tblB) 67 [.agg (bc b)] Heap.none c) := by
  have ha := hd_accs b.accs
  have hb := hd_ents b.book
  have l12 := vb.len
  have lbk := vb.book
  have r1 : b.book.length * 24 ≤ room := by unfold room; omega
  have r2 : b.book.length ≤ room := by unfold room; omega
  have ne : ¬ (b.accs = []) := by intro e; rw [e] at l12; simp at l12
  have z1 : ¬ (c = c + 1 + 1) := by omega
  have z2 : ¬ (c + 1 + 1 = c) := by omega
  have z3 : ¬ (c + 1 = c + 1 + 1) := by omega
  have z4 : ¬ (c + 1 + 1 = c + 1) := by omega
  rw [run_eq, show mdT tblB 67 = some .own from rfl, Option.bind_some, Try.func67]
  simp -implicitDefEqProofs [-hd, Try.f67, z1, z2, z3, z4, ha, ne, l12, show (12 : Nat) * 72 ≤ room by unfold room; omega, show (12 : Nat) ≤ room by unfold room; omega, Option.bind_assoc]
  refine count_to (R := R) 12 (fun j s => s.t 1 = .ptr c 0 0 ∧ s.t 2 = .ptr (c + 1) 0 0 ∧ s.t 3 = I j ∧ s.h c = some ⟨5, [[.sl (c + 1 + 1) 5 0 12, I b.rate, I b.infl, I b.idx, .ro b.nb (b.book.map Ent.cells)]]⟩ ∧ s.h (c + 1) = some ⟨5, [noC]⟩ ∧ ∃ rows, Part (fun l => c + 1 + 1 ≤ l) s.c s.h (c + 1 + 1) b .emp [] rows j) _ ?_ ?_ ?_
  · simp -implicitDefEqProofs [-hd, z1, z2, z3, z4]
    exact ⟨_, Part.start vb (Nat.le_refl _) (by omega) (fun l hl => by omega) (by simp [z1, z2, z3, z4])⟩
  · rintro j ⟨t, h, d⟩ ⟨t1, t2, t3, h1, h2, rows, P⟩ hj
    simp only at t1 t2 t3 h1 h2 P
    have hj' : j < b.accs.length := by omega
    have hla := P.own.hla
    have dl : c + 1 + 1 < d := P.own.sep4.2
    have hlt : j < rows.length := by rw [P.own.len]; exact hj
    have hr : rows[j] = [B b.accs[j].opn, I b.accs[j].cash, I b.accs[j].loan, .ro b.accs[j].np (ints b.accs[j].parts), .ro b.accs[j].nl (ints b.accs[j].last)] := by
      have := P.rest j (Nat.le_refl _)
      rw [List.getElem?_eq_getElem hlt, List.getElem?_eq_getElem hj'] at this
      exact Option.some.inj this
    have hp := hd_ints b.accs[j].parts
    have hq := hd_ints b.accs[j].last
    have okj := vb.accs _ (List.getElem_mem hj')
    have lp := okj.lp
    have ll := vb.last _ (List.getElem_mem hj')
    have q1 : b.accs[j].last.length * 8 ≤ room := by unfold room; omega
    have q2 : b.accs[j].last.length ≤ room := by unfold room; omega
    have q3 : (4 : Nat) * 8 ≤ room := by unfold room; omega
    have q4 : (4 : Nat) ≤ room := by unfold room; omega
    have np : ¬ (b.accs[j].parts = []) := by intro e; rw [e] at lp; simp at lp
    have k1 : decide ((j : Int) < 12) = true := decide_eq_true (by omega)
    have kk : (j : Int) < 12 := by omega
    have e1 : ¬ (d = c) := by omega
    have e2 : ¬ (c = d) := by omega
    have e3 : ¬ (d = c + 1) := by omega
    have e4 : ¬ (c + 1 = d) := by omega
    have e5 : ¬ (d = c + 1 + 1) := by omega
    have e6 : ¬ (c + 1 + 1 = d) := by omega
    have e7 : ¬ (d + 1 = c) := by omega
    have e8 : ¬ (c = d + 1) := by omega
    have e9 : ¬ (d + 1 = c + 1) := by omega
    have f1 : ¬ (c + 1 = d + 1) := by omega
    have f2 : ¬ (d + 1 = c + 1 + 1) := by omega
    have f3 : ¬ (c + 1 + 1 = d + 1) := by omega
    have f4 : ¬ (d ≤ c) := by omega
    have f5 : ¬ (d ≤ c + 1) := by omega
    have f6 : ¬ (d ≤ c + 1 + 1) := by omega
    have f7 : ¬ (d + 1 ≤ c) := by omega
    have f8 : ¬ (d + 1 ≤ c + 1) := by omega
    have f9 : ¬ (d + 1 ≤ c + 1 + 1) := by omega
    by_cases nl : b.accs[j].last = []
    · simp -implicitDefEqProofs [-hd, t1, t2, t3, h1, h2, hla, hlt, hr, hp, hd_nil, lp, q3, q4, np, nl, k1, kk, z1, z2, z3, z4, e1, e2, e3, e4, e5, e6, e7, e8, e9, f1, f2, f3, f4, f5, f6, f7, f8, f9]
      refine ⟨wrap_succ (by omega), _, P.next (vp := .sl d 1 0 4) (vl := .emp) hj' (by omega) (by simp [k1, kk, z1, z2, z3, z4, e1, e2, e3, e4, e5, e6, e7, e8, e9, f1, f2, f3, f4, f5, f6, f7, f8, f9]) (fun l hl1 hl2 => ?_) (els_all (by simp [k1, kk, z1, z2, z3, z4, e1, e2, e3, e4, e5, e6, e7, e8, e9, f1, f2, f3, f4, f5, f6, f7, f8, f9]) (by simp [lp])) (by rw [nl]; rfl) (.inl ⟨_, _, _, rfl⟩) (.inr (.inl rfl)) (by simp) (by simp) (by simp)⟩
      have g1 : ¬ (l = d) := by omega
      have g2 : ¬ (d ≤ l) := by omega
      simp [hl1, g1, g2]
    · simp -implicitDefEqProofs [-hd, t1, t2, t3, h1, h2, hla, hlt, hr, hp, hq, lp, q1, q2, q3, q4, np, nl, k1, kk, z1, z2, z3, z4, e1, e2, e3, e4, e5, e6, e7, e8, e9, f1, f2, f3, f4, f5, f6, f7, f8, f9]
      refine ⟨wrap_succ (by omega), _, P.next (vp := .sl d 1 0 4) (vl := .sl (d + 1) 1 0 b.accs[j].last.length) hj' (by omega) (by simp [k1, kk, z1, z2, z3, z4, e1, e2, e3, e4, e5, e6, e7, e8, e9, f1, f2, f3, f4, f5, f6, f7, f8, f9]) (fun l hl1 hl2 => ?_) (els_all (by simp [k1, kk, z1, z2, z3, z4, e1, e2, e3, e4, e5, e6, e7, e8, e9, f1, f2, f3, f4, f5, f6, f7, f8, f9]) (by simp [lp])) (els_all (by simp [k1, kk, z1, z2, z3, z4, e1, e2, e3, e4, e5, e6, e7, e8, e9, f1, f2, f3, f4, f5, f6, f7, f8, f9]) (by simp)) (.inl ⟨_, _, _, rfl⟩) (.inl ⟨_, _, _, rfl⟩) (by simp; omega) (by simp) (by simp)⟩
      have g1 : ¬ (l = d) := by omega
      have g2 : ¬ (d ≤ l) := by omega
      have g3 : ¬ (l = d + 1) := by omega
      have g4 : ¬ (d + 1 ≤ l) := by omega
      simp [hl1, g1, g2, g3, g4]
  · rintro ⟨t, h, d⟩ ⟨t1, t2, t3, h1, h2, rows, P⟩
    simp only at t1 t2 t3 h1 h2 P
    have dl : c + 1 + 1 < d := P.own.sep4.2
    have e1 : ¬ (d = c) := by omega
    have e2 : ¬ (c = d) := by omega
    have e3 : ¬ (d = c + 1) := by omega
    have e4 : ¬ (c + 1 = d) := by omega
    by_cases nb : b.book = []
    · simp -implicitDefEqProofs [-hd, t1, t2, t3, h1, h2, hd_nil, nb, z1, z2, z3, z4, e1, e2, e3, e4]
      refine k _ _ _ _ _ (by omega) (Own.weaken (Q := fun l => c + 1 + 1 ≤ l) (fun l hl => by omega) (P.own.bookUpd (Nat.le_refl _) (by simp [z1, z2, z3, z4]) (fun i f l hl => ?_) (by rw [nb]; rfl) (.inr (.inl rfl)) (fun l hl => .inl hl))) (fun i r hi hr => P.mine i r hi hr)
      have := P.own.sep2 i f l hl
      have g1 : ¬ (l = c) := by omega
      have g2 : ¬ (l = c + 1) := by omega
      simp [g1, g2]
    · simp -implicitDefEqProofs [-hd, t1, t2, t3, h1, h2, hb, r1, r2, nb, z1, z2, z3, z4, e1, e2, e3, e4]
      refine k _ _ _ _ _ (by omega) (Own.weaken (Q := fun l => c + 1 + 1 ≤ l) (fun l hl => by omega) (P.own.bookUpd (c' := d + 1) (by omega) (by simp [z1, z2, z3, z4, show ¬ (c + 1 + 1 = d) by omega]) (fun i f l hl => ?_) (els_all (by simp [e1, e2, e3, e4]) (by simp)) (.inl ⟨_, _, _, rfl⟩) (fun l hl => .inr (by simp at hl; omega)))) (fun i r hi hr => P.mine i r hi hr)
      have := P.own.sep2 i f l hl
      have g1 : ¬ (l = c) := by omega
      have g2 : ¬ (l = c + 1) := by omega
      have g3 : ¬ (l = d) := by omega
      simp [g1, g2, g3]
def clV (b : Bnk) (c : Nat) : AV := bif b.book.isEmpty then bif b.nb then .ro true [] else .emp else .sl c 3 0 b.book.length
def clH (b : Bnk) (c : Nat) (h : Heap) : Heap := bif b.book.isEmpty then h else h.put c (some ⟨3, b.book.map Ent.cells⟩)
def clC (b : Bnk) (c : Nat) : Nat := bif b.book.isEmpty then c else c + 1
theorem cle_c (b : Bnk) (w : b.Wfb) (hb : b.book.length ≤ 20000) (h : Heap) (c : Nat) : callA (mdT tblB) (run Try.prog (mdT tblB)) 89 [.ro b.nb (b.book.map Ent.cells)] h c = some (clV b c, clH b c h, clC b c) := by
  rw [clonee_c b.nb b.book w.fb (by omega)]
  unfold clV clH clC
  cases b.book.isEmpty <;> rfl
theorem clV_cells (b : Bnk) (c : Nat) : (clV b c).cells = [clV b c] := by
  unfold clV
  cases b.book.isEmpty <;> cases b.nb <;> rfl
theorem clV_okc (b : Bnk) (c : Nat) : okc (clV b c) = true := by
  unfold clV
  cases b.book.isEmpty <;> cases b.nb <;> rfl
theorem clC_le (b : Bnk) (c : Nat) : c ≤ clC b c := by
  unfold clC
  cases b.book.isEmpty <;> simp
theorem clV_slv (b : Bnk) (c : Nat) : SlV 3 (clV b c) := by
  unfold clV
  cases b.book.isEmpty
  · exact .inl ⟨_, _, _, rfl⟩
  · cases b.nb
    · exact .inr (.inl rfl)
    · exact .inr (.inr rfl)
theorem clV_nm (b : Bnk) (c : Nat) : ∀ l ∈ nm (clV b c), c ≤ l ∧ l < clC b c := by
  unfold clV clC
  cases b.book.isEmpty
  · intro l hl; simp at hl; subst hl; simp
  · cases b.nb <;> simp
theorem clV_els (b : Bnk) (c : Nat) (h g : Heap) (hg : ∀ l, c ≤ l → l < clC b c → g l = clH b c h l) : els g (clV b c) = some (b.book.map Ent.cells) := by
  unfold clV
  unfold clC clH at hg
  cases hb : b.book.isEmpty
  · rw [hb] at hg
    simp only [cond_false] at hg ⊢
    exact els_all (by rw [hg c (Nat.le_refl _) (by omega)]; simp) (by simp)
  · have : b.book = [] := by simpa using hb
    rw [this]
    cases b.nb <;> rfl
theorem Part.start2 {Q : Nat → Prop} {d : Nat} {H : Heap} {la : Nat} {b : Bnk} (X : Heap) (vb : Valid b) (h1 : Q la) (h2 : la < d) (hf : ∀ l, d ≤ l → Q l) (hl : H la = some ⟨5, b.accs.map Acc.cells⟩) (hX : ∀ l, d ≤ l → l < clC b d → H l = clH b d X l) :
    Part Q (clC b d) H la b (clV b d) b.book (b.accs.map Acc.cells) 0 := by
  have P := Part.start (c := d) vb h1 h2 hf hl
  exact ⟨P.own.bookUpd (clC_le b d) rfl (fun _ _ _ _ => rfl) (clV_els b d X H hX) (clV_slv b d) (fun l hl => .inr (clV_nm b d l hl)), P.mine, P.rest⟩
theorem bcopy_run (b : Bnk) (vb : Valid b) (w : b.Wfb) (c : Nat) (R : Option (AV × Heap × Nat) → Prop)
    (k : ∀ h1 c1 la v rows, c ≤ c1 → Own (fun l => c ≤ l) c1 h1 la v b.accs b.book rows → Mine rows 12 → R (some (.agg [.sl la 5 0 12, I b.rate, I b.infl, I b.idx, v], h1, c1))) :
    R (run Try.prog (mdT tblB) 69 [.agg (bc b)] Heap.none c) := by
  have l12 := vb.len
  have lbk := vb.book
  have ne : b.accs.isEmpty = false := by cases hh : b.accs with | nil => rw [hh] at l12; simp at l12 | cons x l => rfl
  have ca : ∀ h c, callA (mdT tblB) (run Try.prog (mdT tblB)) 88 [.ro b.na (b.accs.map Acc.cells)] h c = some (.sl c 5 0 12, h.put c (some ⟨5, b.accs.map Acc.cells⟩), c + 1) := by
    intro h c
    rw [clonea_c b.na b.accs w.fa (by omega), ne, l12]
    rfl
  have ce := cle_c b w lbk
  have v1 := clV_cells b (c + 1 + 1 + 1)
  have v2 := clV_okc b (c + 1 + 1 + 1)
  have v3 := clC_le b (c + 1 + 1 + 1)
  unfold AV.cells at v1
  unfold okc at v2
  have z1 : ¬ (c = c + 1 + 1) := by omega
  have z2 : ¬ (c + 1 + 1 = c) := by omega
  have z3 : ¬ (c + 1 = c + 1 + 1) := by omega
  have z4 : ¬ (c + 1 + 1 = c + 1) := by omega
  have z5 : ¬ (c = c + 1 + 1 + 1) := by omega
  have z6 : ¬ (c + 1 + 1 + 1 = c) := by omega
  have z7 : ¬ (c + 1 = c + 1 + 1 + 1) := by omega
  have z8 : ¬ (c + 1 + 1 + 1 = c + 1) := by omega
  have y1 : ¬ (c + 1 + 1 ≤ c) := by omega
  have y2 : ¬ (c + 1 + 1 ≤ c + 1) := by omega
  have y3 : ¬ (c + 1 + 1 + 1 ≤ c) := by omega
  have y4 : ¬ (c + 1 + 1 + 1 ≤ c + 1) := by omega
  have y5 : ¬ (c + 1 + 1 + 1 ≤ c + 1 + 1) := by omega
  rw [run_eq, show mdT tblB 69 = some .own from rfl, Option.bind_some, Try.func69]
  simp -implicitDefEqProofs [-hd, Try.f69, ca, ce, v1, v2, z1, z2, z3, z4, z5, z6, z7, z8, y1, y2, y3, y4, y5, Option.bind_assoc]
  refine count_to (R := R) 12 (fun j s => s.t 1 = .ptr c 0 0 ∧ s.t 2 = .ptr (c + 1) 0 0 ∧ s.t 15 = I 12 ∧ s.t 16 = I j ∧ s.h c = some ⟨5, [[.sl (c + 1 + 1) 5 0 12, I b.rate, I b.infl, I b.idx, clV b (c + 1 + 1 + 1)]]⟩ ∧ s.h (c + 1) = some ⟨5, [noC]⟩ ∧ ∃ rows, Part (fun l => c + 1 + 1 ≤ l) s.c s.h (c + 1 + 1) b (clV b (c + 1 + 1 + 1)) b.book rows j) _ ?_ ?_ ?_
  · simp -implicitDefEqProofs [-hd, z1, z2, z3, z4, z5, z6, z7, z8, y1, y2, y3, y4, y5]
    refine ⟨_, Part.start2 ((Heap.none.put c (some ⟨5, [bc b]⟩)).put (c + 1) (some ⟨5, [noC]⟩)) vb (Nat.le_refl _) (by omega) (fun l hl => by omega) ?_ (fun l h1 h2 => ?_)⟩
    · simp -implicitDefEqProofs [z1, z2, z3, z4, z5, z6, z7, z8, y1, y2, y3, y4, y5]
    · have g1 : ¬ (l = c) := by omega
      simp -implicitDefEqProofs [g1, h1, h2]
  · rintro j ⟨t, h, d⟩ ⟨t1, t2, t15, t16, h1, h2, rows, P⟩ hj
    simp only at t1 t2 t15 t16 h1 h2 P
    have hj' : j < b.accs.length := by omega
    have hla := P.own.hla
    have dl : c + 1 + 1 < d := P.own.sep4.2
    have hlt : j < rows.length := by rw [P.own.len]; exact hj
    have hr : rows[j] = [B b.accs[j].opn, I b.accs[j].cash, I b.accs[j].loan, .ro b.accs[j].np (ints b.accs[j].parts), .ro b.accs[j].nl (ints b.accs[j].last)] := by
      have := P.rest j (Nat.le_refl _)
      rw [List.getElem?_eq_getElem hlt, List.getElem?_eq_getElem hj'] at this
      exact Option.some.inj this
    have okj := vb.accs _ (List.getElem_mem hj')
    have wj := w.accs _ (List.getElem_mem hj')
    have lp := okj.lp
    have ll := vb.last _ (List.getElem_mem hj')
    have np : b.accs[j].parts.isEmpty = false := by cases hh : b.accs[j].parts with | nil => rw [hh] at lp; simp at lp | cons x l => rfl
    have cp : ∀ h c, callA (mdT tblB) (run Try.prog (mdT tblB)) 90 [.ro b.accs[j].np (ints b.accs[j].parts)] h c = some (.sl c 1 0 4, h.put c (some ⟨1, ints b.accs[j].parts⟩), c + 1) := by
      intro h c
      rw [clonei_c b.accs[j].np b.accs[j].parts wj.fp (by omega), np, lp]
      rfl
    have cl := clonei_c b.accs[j].nl b.accs[j].last wj.fl (by omega)
    have k1 : decide ((j : Int) < 12) = true := decide_eq_true (by omega)
    have kk : (j : Int) < 12 := by omega
    have e1 : ¬ (d = c) := by omega
    have e2 : ¬ (c = d) := by omega
    have e3 : ¬ (d = c + 1) := by omega
    have e4 : ¬ (c + 1 = d) := by omega
    have e5 : ¬ (d = c + 1 + 1) := by omega
    have e6 : ¬ (c + 1 + 1 = d) := by omega
    have e7 : ¬ (d + 1 = c) := by omega
    have e8 : ¬ (c = d + 1) := by omega
    have e9 : ¬ (d + 1 = c + 1) := by omega
    have f1 : ¬ (c + 1 = d + 1) := by omega
    have f2 : ¬ (d + 1 = c + 1 + 1) := by omega
    have f3 : ¬ (c + 1 + 1 = d + 1) := by omega
    have f4 : ¬ (d ≤ c) := by omega
    have f5 : ¬ (d ≤ c + 1) := by omega
    have f6 : ¬ (d ≤ c + 1 + 1) := by omega
    have f7 : ¬ (d + 1 ≤ c) := by omega
    have f8 : ¬ (d + 1 ≤ c + 1) := by omega
    have f9 : ¬ (d + 1 ≤ c + 1 + 1) := by omega
    cases nl : b.accs[j].last.isEmpty
    · have cl' : ∀ h c, callA (mdT tblB) (run Try.prog (mdT tblB)) 90 [.ro b.accs[j].nl (ints b.accs[j].last)] h c = some (.sl c 1 0 b.accs[j].last.length, h.put c (some ⟨1, ints b.accs[j].last⟩), c + 1) := by
        intro h c; rw [cl, nl]; rfl
      simp -implicitDefEqProofs [-hd, t1, t2, t15, t16, h1, h2, hla, hlt, hr, cp, cl', k1, kk, z1, z2, z3, z4, z5, z6, z7, z8, y1, y2, y3, y4, y5, e1, e2, e3, e4, e5, e6, e7, e8, e9, f1, f2, f3, f4, f5, f6, f7, f8, f9]
      refine ⟨wrap_succ (by omega), _, P.next (vp := .sl d 1 0 4) (vl := .sl (d + 1) 1 0 b.accs[j].last.length) hj' (by omega) (by simp [z1, z2, z3, z4, z5, z6, z7, z8, y1, y2, y3, y4, y5, e1, e2, e3, e4, e5, e6, e7, e8, e9, f1, f2, f3, f4, f5, f6, f7, f8, f9]) (fun l hl1 hl2 => ?_) (els_all (by simp [lay_get, show ¬ (d + 1 ≤ d) by omega, z1, z2, z3, z4, z5, z6, z7, z8, y1, y2, y3, y4, y5, e1, e2, e3, e4, e5, e6, e7, e8, e9, f1, f2, f3, f4, f5, f6, f7, f8, f9]) (by simp [lp])) (els_all (by simp [lay_get, show ¬ (d + 1 ≤ d) by omega, z1, z2, z3, z4, z5, z6, z7, z8, y1, y2, y3, y4, y5, e1, e2, e3, e4, e5, e6, e7, e8, e9, f1, f2, f3, f4, f5, f6, f7, f8, f9]) (by simp)) (.inl ⟨_, _, _, rfl⟩) (.inl ⟨_, _, _, rfl⟩) (by simp; omega) (by simp) (by simp)⟩
      have g1 : ¬ (l = d) := by omega
      have g2 : ¬ (d ≤ l) := by omega
      have g3 : ¬ (l = d + 1) := by omega
      have g4 : ¬ (d + 1 ≤ l) := by omega
      simp [hl1, g1, g2, g3, g4]
    · have nl' : b.accs[j].last = [] := by simpa using nl
      cases zz : b.accs[j].nl
      · have cl' : ∀ h c, callA (mdT tblB) (run Try.prog (mdT tblB)) 90 [.ro b.accs[j].nl (ints b.accs[j].last)] h c = some (.emp, h, c) := by
          intro h c; rw [cl, nl, zz]; rfl
        rw [zz] at cl' hr
        simp -implicitDefEqProofs [-hd, t1, t2, t15, t16, h1, h2, hla, hlt, hr, cp, cl', k1, kk, z1, z2, z3, z4, z5, z6, z7, z8, y1, y2, y3, y4, y5, e1, e2, e3, e4, e5, e6, e7, e8, e9, f1, f2, f3, f4, f5, f6, f7, f8, f9]
        refine ⟨wrap_succ (by omega), _, P.next (vp := .sl d 1 0 4) (vl := .emp) hj' (by omega) (by simp [z1, z2, z3, z4, z5, z6, z7, z8, y1, y2, y3, y4, y5, e1, e2, e3, e4, e5, e6, e7, e8, e9, f1, f2, f3, f4, f5, f6, f7, f8, f9]) (fun l hl1 hl2 => ?_) (els_all (by simp [lay_get, show ¬ (d + 1 ≤ d) by omega, z1, z2, z3, z4, z5, z6, z7, z8, y1, y2, y3, y4, y5, e1, e2, e3, e4, e5, e6, e7, e8, e9, f1, f2, f3, f4, f5, f6, f7, f8, f9]) (by simp [lp])) (by rw [nl']; rfl) (.inl ⟨_, _, _, rfl⟩) (.inr (.inl rfl)) (by simp) (by simp) (by simp)⟩
        have g1 : ¬ (l = d) := by omega
        have g2 : ¬ (d ≤ l) := by omega
        simp [hl1, g1, g2]
      · have cl' : ∀ h c, callA (mdT tblB) (run Try.prog (mdT tblB)) 90 [.ro b.accs[j].nl (ints b.accs[j].last)] h c = some (.ro true [], h, c) := by
          intro h c; rw [cl, nl, zz]; rfl
        rw [zz] at cl' hr
        simp -implicitDefEqProofs [-hd, t1, t2, t15, t16, h1, h2, hla, hlt, hr, cp, cl', k1, kk, z1, z2, z3, z4, z5, z6, z7, z8, y1, y2, y3, y4, y5, e1, e2, e3, e4, e5, e6, e7, e8, e9, f1, f2, f3, f4, f5, f6, f7, f8, f9]
        refine ⟨wrap_succ (by omega), _, P.next (vp := .sl d 1 0 4) (vl := .ro true []) hj' (by omega) (by simp [z1, z2, z3, z4, z5, z6, z7, z8, y1, y2, y3, y4, y5, e1, e2, e3, e4, e5, e6, e7, e8, e9, f1, f2, f3, f4, f5, f6, f7, f8, f9]) (fun l hl1 hl2 => ?_) (els_all (by simp [lay_get, show ¬ (d + 1 ≤ d) by omega, z1, z2, z3, z4, z5, z6, z7, z8, y1, y2, y3, y4, y5, e1, e2, e3, e4, e5, e6, e7, e8, e9, f1, f2, f3, f4, f5, f6, f7, f8, f9]) (by simp [lp])) (by rw [nl']; rfl) (.inl ⟨_, _, _, rfl⟩) (.inr (.inr rfl)) (by simp) (by simp) (by simp)⟩
        have g1 : ¬ (l = d) := by omega
        have g2 : ¬ (d ≤ l) := by omega
        simp [hl1, g1, g2]
  · rintro ⟨t, h, d⟩ ⟨t1, t2, t15, t16, h1, h2, rows, P⟩
    simp only at t1 t2 t15 t16 h1 h2 P
    have dl : c + 1 + 1 < d := P.own.sep4.2
    have e1 : ¬ (d = c) := by omega
    have e2 : ¬ (c = d) := by omega
    have e3 : ¬ (d = c + 1) := by omega
    have e4 : ¬ (c + 1 = d) := by omega
    simp -implicitDefEqProofs [-hd, t1, t2, t15, t16, h1, h2, v1, v2, z1, z2, z3, z4, z5, z6, z7, z8, y1, y2, y3, y4, y5, e1, e2, e3, e4]
    refine k _ _ _ _ _ (by omega) (Own.weaken (Q := fun l => c + 1 + 1 ≤ l) (fun l hl => by omega) (P.own.frame (Nat.le_refl _) (fun l hl1 hl2 => ?_))) (fun i r hi hr => P.mine i r hi hr)
    have g1 : ¬ (l = c) := by omega
    have g2 : ¬ (l = c + 1) := by omega
    simp [g1, g2]
end Go.Proofs.Ytdckleaemkcapaa.AM
