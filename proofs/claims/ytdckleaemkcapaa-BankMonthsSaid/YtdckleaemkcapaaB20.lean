/- Texts of the proof: part B20. -/
import Derived.Test.YtdckleaemkcapaaB13
set_option linter.unusedVariables false
set_option linter.unusedSimpArgs false
namespace Go.Proofs.Ytdckleaemkcapaa.AM
open Go Go.Proofs
/-- The name that a row of memory is led to by. -/
def nm : AV → List Nat
  | .sl l _ _ _ => [l]
  | _ => []
@[simp] theorem nm_sl (l s o n : Nat) : nm (.sl l s o n) = [l] := rfl
@[simp] theorem nm_emp : nm .emp = [] := rfl
@[simp] theorem nm_ro (z : Bool) (es : List (List AV)) : nm (.ro z es) = [] := rfl
@[simp] theorem nm_val (v : Value) : nm (.val v) = [] := rfl
/-- What an append takes. -/
def SlV (sz : Nat) (v : AV) : Prop := (∃ l off len, v = .sl l sz off len) ∨ v = .emp ∨ v = .ro true []
theorem els_congr {h h' : Heap} {v : AV} (H : ∀ l ∈ nm v, h' l = h l) : els h' v = els h v := by
  cases v <;> try rfl
  case sl l s o n =>
    unfold els
    simp only
    rw [H l (by simp)]
def At (rows : List (List AV)) (i f l : Nat) : Prop := ∃ r x, rows[i]? = some r ∧ r[f]? = some x ∧ l ∈ nm x
/-- A row of an account. -/
abbrev rw5 (o : Bool) (x y : Int) (vp vl : AV) : List AV := [B o, I x, I y, vp, vl]
theorem at_set {rows : List (List AV)} {j : Nat} {o : Bool} {x y : Int} {vp vl : AV} {i f l : Nat} (h : At (rows.set j (rw5 o x y vp vl)) i f l) :
    (i = j ∧ ((f = 3 ∧ l ∈ nm vp) ∨ (f = 4 ∧ l ∈ nm vl))) ∨ (i ≠ j ∧ At rows i f l) := by
  obtain ⟨r, z, h1, h2, h3⟩ := h
  rw [List.getElem?_set] at h1
  split at h1
  · rename_i e
    subst e
    split at h1
    · cases h1
      left
      refine ⟨rfl, ?_⟩
      match f, h2 with
      | 0, h2 => cases h2; simp at h3
      | 1, h2 => cases h2; simp at h3
      | 2, h2 => cases h2; simp at h3
      | 3, h2 => cases h2; exact .inl ⟨rfl, h3⟩
      | 4, h2 => cases h2; exact .inr ⟨rfl, h3⟩
      | f + 5, h2 => simp at h2
    · cases h1
  · rename_i e
    exact .inr ⟨fun e' => e e'.symm, r, z, h1, h2, h3⟩
/-- A row tells an account. -/
def RowIs (h : Heap) (r : List AV) (a : Acc) : Prop := ∃ vp vl, r = rw5 a.opn a.cash a.loan vp vl ∧ els h vp = some (ints a.parts) ∧ els h vl = some (ints a.last)
theorem row_congr {h h' : Heap} {r : List AV} {a : Acc} (H : RowIs h r a) (hh : ∀ (f : Nat) x, r[f]? = some x → ∀ l ∈ nm x, h' l = h l) : RowIs h' r a := by
  obtain ⟨vp, vl, rfl, h1, h2⟩ := H
  exact ⟨vp, vl, rfl, by rw [els_congr (hh 3 vp rfl)]; exact h1, by rw [els_congr (hh 4 vl rfl)]; exact h2⟩
/-- A bank in the call's own memory. -/
structure Own (Q : Nat → Prop) (c : Nat) (h : Heap) (la : Nat) (v : AV) (accs : List Acc) (book : List Ent) (rows : List (List AV)) : Prop where
  hla : h la = some ⟨5, rows⟩
  len : rows.length = 12
  alen : accs.length = 12
  row : ∀ (i : Nat) r a, rows[i]? = some r → accs[i]? = some a → RowIs h r a
  bk : els h v = some (book.map Ent.cells)
  bkv : SlV 3 v
  sep1 : ∀ i f i' f' l, At rows i f l → At rows i' f' l → i = i' ∧ f = f'
  sep2 : ∀ i f l, At rows i f l → l ≠ la ∧ l ∉ nm v ∧ Q l ∧ l < c
  sep3 : ∀ l ∈ nm v, l ≠ la ∧ Q l ∧ l < c
  sep4 : Q la ∧ la < c
  fr : ∀ l, c ≤ l → Q l
section
variable {Q : Nat → Prop} {c : Nat} {h : Heap} {la : Nat} {v : AV} {accs : List Acc} {book : List Ent} {rows : List (List AV)}
theorem Own.names (O : Own Q c h la v accs book rows) {l : Nat} (hl : l = la ∨ l ∈ nm v ∨ ∃ i f, At rows i f l) : Q l ∧ l < c := by
  rcases hl with rfl | hl | ⟨i, f, hl⟩
  · exact O.sep4
  · exact (O.sep3 l hl).2
  · exact (O.sep2 i f l hl).2.2
theorem Own.frame (O : Own Q c h la v accs book rows) {h' : Heap} {c' : Nat} (hc : c ≤ c') (hh : ∀ l, Q l → l < c → h' l = h l) : Own Q c' h' la v accs book rows := by
  refine ⟨by rw [hh la O.sep4.1 O.sep4.2]; exact O.hla, O.len, O.alen, fun i r a hr ha => ?_, ?_, O.bkv, O.sep1, fun i f l hl => ?_, fun l hl => ?_, ⟨O.sep4.1, by have := O.sep4.2; omega⟩, fun l hl => O.fr l (by omega)⟩
  · exact row_congr (O.row i r a hr ha) fun f x hx l hl => hh l (O.names (.inr (.inr ⟨i, f, r, x, hr, hx, hl⟩))).1 (O.names (.inr (.inr ⟨i, f, r, x, hr, hx, hl⟩))).2
  · rw [els_congr fun l hl => hh l (O.names (.inr (.inl hl))).1 (O.names (.inr (.inl hl))).2]; exact O.bk
  · have := O.sep2 i f l hl; exact ⟨this.1, this.2.1, this.2.2.1, by omega⟩
  · have := O.sep3 l hl; exact ⟨this.1, this.2.1, by omega⟩
theorem Own.get (O : Own Q c h la v accs book rows) {i : Nat} (hi : i < 12) : ∃ a vp vl, accs[i]? = some a ∧ rows[i]? = some (rw5 a.opn a.cash a.loan vp vl) ∧ els h vp = some (ints a.parts) ∧ els h vl = some (ints a.last) := by
  have h1 : i < rows.length := by rw [O.len]; exact hi
  have h2 : i < accs.length := by rw [O.alen]; exact hi
  obtain ⟨vp, vl, h3, h4, h5⟩ := O.row i _ _ (List.getElem?_eq_getElem h1) (List.getElem?_eq_getElem h2)
  exact ⟨_, vp, vl, List.getElem?_eq_getElem h2, by rw [List.getElem?_eq_getElem h1, h3], h4, h5⟩
/-- An account is changed. -/
theorem Own.upd (O : Own Q c h la v accs book rows) {j : Nat} (hj : j < 12) {a a' : Acc} {vp vl vp' vl' : AV} {h' : Heap} {c' : Nat} (hr : rows[j]? = some (rw5 a.opn a.cash a.loan vp vl))
    (hc : c ≤ c') (hla : h' la = some ⟨5, rows.set j (rw5 a'.opn a'.cash a'.loan vp' vl')⟩)
    (hh : ∀ l, l ≠ la → (l ∈ nm v ∨ ∃ i f, i ≠ j ∧ At rows i f l) → h' l = h l)
    (e1 : els h' vp' = some (ints a'.parts)) (e2 : els h' vl' = some (ints a'.last))
    (n1 : ∀ l ∈ nm vp', l ∈ nm vp ∨ (c ≤ l ∧ l < c')) (n2 : ∀ l ∈ nm vl', l ∈ nm vl ∨ (c ≤ l ∧ l < c')) (n3 : ∀ l ∈ nm vp', l ∉ nm vl') :
    Own Q c' h' la v (accs.set j a') book (rows.set j (rw5 a'.opn a'.cash a'.loan vp' vl')) := by
  have at3 : ∀ l ∈ nm vp, At rows j 3 l := fun l hl => ⟨_, vp, hr, rfl, hl⟩
  have at4 : ∀ l ∈ nm vl, At rows j 4 l := fun l hl => ⟨_, vl, hr, rfl, hl⟩
  have lc : la < c := O.sep4.2
  have own3 : ∀ l ∈ nm vp', (At rows j 3 l ∨ (c ≤ l ∧ l < c')) := fun l hl => (n1 l hl).imp (at3 l) id
  have own4 : ∀ l ∈ nm vl', (At rows j 4 l ∨ (c ≤ l ∧ l < c')) := fun l hl => (n2 l hl).imp (at4 l) id
  have sep2' : ∀ i f l, At rows i f l → l ≠ la ∧ l ∉ nm v ∧ Q l ∧ l < c' := fun i f l hl => by have := O.sep2 i f l hl; exact ⟨this.1, this.2.1, this.2.2.1, by omega⟩
  have new2 : ∀ l, c ≤ l ∧ l < c' → l ≠ la ∧ l ∉ nm v ∧ Q l ∧ l < c' := fun l hl => ⟨by omega, fun hin => by have := (O.sep3 l hin).2.2; omega, O.fr l hl.1, hl.2⟩
  refine ⟨hla, by simpa using O.len, by simpa using O.alen, fun i r a1 hri hai => ?_, ?_, O.bkv, ?_, ?_, fun l hl => ?_, ⟨O.sep4.1, by omega⟩, fun l hl => O.fr l (by omega)⟩
  · rw [List.getElem?_set] at hri hai
    split at hri
    · rename_i e
      subst e
      rw [if_pos rfl] at hai
      split at hri
      · cases hri
        split at hai
        · cases hai
          exact ⟨vp', vl', rfl, e1, e2⟩
        · cases hai
      · cases hri
    · rename_i e
      rw [if_neg e] at hai
      refine row_congr (O.row i r a1 hri hai) fun f x hx l hl => hh l ?_ (.inr ⟨i, f, fun e' => e e'.symm, r, x, hri, hx, hl⟩)
      exact (O.sep2 i f l ⟨r, x, hri, hx, hl⟩).1
  · rw [els_congr fun l hl => hh l (O.sep3 l hl).1 (.inl hl)]; exact O.bk
  · intro i f i' f' l h1 h2
    rcases at_set h1 with ⟨rfl, k1⟩ | ⟨g1, k1⟩
    · rcases at_set h2 with ⟨rfl, k2⟩ | ⟨g2, k2⟩
      · refine ⟨rfl, ?_⟩
        rcases k1 with ⟨rfl, k1⟩ | ⟨rfl, k1⟩
        · rcases k2 with ⟨rfl, k2⟩ | ⟨rfl, k2⟩
          · rfl
          · exact absurd k2 (n3 l k1)
        · rcases k2 with ⟨rfl, k2⟩ | ⟨rfl, k2⟩
          · exact absurd k1 (n3 l k2)
          · rfl
      · exfalso
        have lt := (O.sep2 i' f' l k2).2.2.2
        rcases k1 with ⟨rfl, k1⟩ | ⟨rfl, k1⟩
        · rcases own3 l k1 with k3 | k3
          · exact g2 (O.sep1 _ _ _ _ l k2 k3).1
          · omega
        · rcases own4 l k1 with k3 | k3
          · exact g2 (O.sep1 _ _ _ _ l k2 k3).1
          · omega
    · rcases at_set h2 with ⟨rfl, k2⟩ | ⟨g2, k2⟩
      · exfalso
        have lt := (O.sep2 i f l k1).2.2.2
        rcases k2 with ⟨rfl, k2⟩ | ⟨rfl, k2⟩
        · rcases own3 l k2 with k3 | k3
          · exact g1 (O.sep1 _ _ _ _ l k1 k3).1
          · omega
        · rcases own4 l k2 with k3 | k3
          · exact g1 (O.sep1 _ _ _ _ l k1 k3).1
          · omega
      · exact O.sep1 i f i' f' l k1 k2
  · intro i f l hl
    rcases at_set hl with ⟨rfl, k1⟩ | ⟨g1, k1⟩
    · rcases k1 with ⟨rfl, k1⟩ | ⟨rfl, k1⟩
      · rcases own3 l k1 with k3 | k3
        · exact sep2' _ _ l k3
        · exact new2 l k3
      · rcases own4 l k1 with k3 | k3
        · exact sep2' _ _ l k3
        · exact new2 l k3
    · exact sep2' _ _ l k1
  · have := O.sep3 l hl; exact ⟨this.1, this.2.1, by omega⟩
/-- The book is changed. -/
theorem Own.bookUpd (O : Own Q c h la v accs book rows) {v' : AV} {book' : List Ent} {h' : Heap} {c' : Nat} (hc : c ≤ c') (hla : h' la = h la)
    (hh : ∀ i f l, At rows i f l → h' l = h l) (e1 : els h' v' = some (book'.map Ent.cells)) (e2 : SlV 3 v') (n1 : ∀ l ∈ nm v', l ∈ nm v ∨ (c ≤ l ∧ l < c')) :
    Own Q c' h' la v' accs book' rows := by
  have lc := O.sep4
  refine ⟨by rw [hla]; exact O.hla, O.len, O.alen, fun i r a hr ha => ?_, e1, e2, O.sep1, fun i f l hl => ?_, fun l hl => ?_, ⟨lc.1, by omega⟩, fun l hl => O.fr l (by omega)⟩
  · exact row_congr (O.row i r a hr ha) fun f x hx l hl => hh i f l ⟨r, x, hr, hx, hl⟩
  · have := O.sep2 i f l hl
    refine ⟨this.1, fun hin => ?_, this.2.2.1, by omega⟩
    rcases n1 l hin with k | k
    · exact this.2.1 k
    · omega
  · rcases n1 l hl with k | k
    · have := O.sep3 l k; exact ⟨this.1, this.2.1, by omega⟩
    · exact ⟨by omega, O.fr l k.1, by omega⟩
end
/-! ### what is read out -/
theorem frz_els {h : Heap} {w : AV} {l : List Int} (n : Nat) (hs : SlV 1 w ∨ ∃ z, w = .ro z (ints l) ∧ (z = true → l = [])) (he : els h w = some (ints l)) : ∃ z : Bool, frz h (n + 2) w = some (.ro z (ints l)) ∧ (z = true → l = []) := by
  rcases hs with (⟨k, off, len, rfl⟩ | rfl | rfl) | ⟨z, rfl, hz⟩
  · refine ⟨false, ?_, fun h => by cases h⟩
    show ((els h (.sl k 1 off len)).bind fun es => (es.mapM fun (e : List AV) => e.mapM (frz h (n + 1))).map (AV.ro false)) = _
    rw [he, Option.bind_some, ints_frz]
    rfl
  · cases l with
    | nil => exact ⟨false, rfl, fun h => by cases h⟩
    | cons x l => simp [els] at he
  · cases l with
    | nil => exact ⟨true, rfl, fun _ => rfl⟩
    | cons x l => simp [els] at he
  · exact ⟨z, rfl, hz⟩
theorem ents_frz (h : Heap) (k : Nat) (l : List Ent) : (l.map Ent.cells).mapM (fun e => e.mapM (frz h (k + 1))) = some (l.map Ent.cells) := by
  induction l with
  | nil => rfl
  | cons x l ih =>
    show ((x.cells : List AV) :: l.map Ent.cells).mapM _ = _
    rw [List.mapM_cons, ih]
    rfl
theorem frz_book {h : Heap} {w : AV} {l : List Ent} (n : Nat) (hs : SlV 3 w) (he : els h w = some (l.map Ent.cells)) : ∃ z : Bool, frz h (n + 2) w = some (.ro z (l.map Ent.cells)) ∧ (z = true → l = []) := by
  rcases hs with ⟨k, off, len, rfl⟩ | rfl | rfl
  · refine ⟨false, ?_, fun h => by cases h⟩
    show ((els h (.sl k 3 off len)).bind fun es => (es.mapM fun (e : List AV) => e.mapM (frz h (n + 1))).map (AV.ro false)) = _
    rw [he, Option.bind_some, ents_frz]
    rfl
  · cases l with
    | nil => exact ⟨false, rfl, fun h => by cases h⟩
    | cons x l => simp [els] at he
  · cases l with
    | nil => exact ⟨true, rfl, fun _ => rfl⟩
    | cons x l => simp [els] at he
/-- The lists of the first accounts are the call's own. -/
def Mine (rows : List (List AV)) (j : Nat) : Prop := ∀ i r, i < j → rows[i]? = some r → ∃ o x y vp vl, r = rw5 o x y vp vl ∧ SlV 1 vp ∧ SlV 1 vl
/-- What an account's row reads as. -/
def Likes (a b : Acc) : Prop := a.nrm = b.nrm ∧ (a.np = true → a.parts = []) ∧ (a.nl = true → a.last = [])
theorem rows_frz {h : Heap} (n : Nat) : ∀ (rows : List (List AV)) (accs : List Acc), rows.length = accs.length → (∀ (i : Nat) r a, rows[i]? = some r → accs[i]? = some a → RowIs h r a ∧ ∃ o x y vp vl, r = rw5 o x y vp vl ∧ SlV 1 vp ∧ SlV 1 vl) →
    ∃ accs' : List Acc, rows.mapM (fun e => e.mapM (frz h (n + 2))) = some (accs'.map Acc.cells) ∧ accs'.map Acc.nrm = accs.map Acc.nrm ∧ ∀ a ∈ accs', (a.np = true → a.parts = []) ∧ (a.nl = true → a.last = [])
  | [], [], _, _ => ⟨[], rfl, rfl, fun a h => by cases h⟩
  | [], a :: accs, h, _ => by simp at h
  | r :: rows, [], h, _ => by simp at h
  | r :: rows, a :: accs, hl, H => by
    obtain ⟨accs', h1, h2, h3⟩ := rows_frz n rows accs (by simpa using hl) fun i r a hr ha => H (i + 1) r a (by simpa using hr) (by simpa using ha)
    obtain ⟨⟨vp, vl, e, k1, k2⟩, o, x, y, vp', vl', e', s1, s2⟩ := H 0 r a rfl rfl
    rw [e] at e'
    simp only [List.cons.injEq, and_true] at e'
    obtain ⟨_, _, _, rfl, rfl⟩ := e'
    obtain ⟨z1, f1, g1⟩ := frz_els n (.inl s1) k1
    obtain ⟨z2, f2, g2⟩ := frz_els n (.inl s2) k2
    refine ⟨{ a with np := z1, nl := z2 } :: accs', ?_, ?_, ?_⟩
    · rw [List.mapM_cons, h1, e]
      have : (rw5 a.opn a.cash a.loan vp vl).mapM (frz h (n + 2)) = some (Acc.cells { a with np := z1, nl := z2 }) := by
        unfold rw5
        rw [List.mapM_cons, List.mapM_cons, List.mapM_cons, List.mapM_cons, List.mapM_cons, f1, f2]
        rfl
      rw [this]
      rfl
    · rw [List.map_cons, List.map_cons, h2]
      rfl
    · intro b hb
      rcases List.mem_cons.1 hb with rfl | hb
      · exact ⟨g1, g2⟩
      · exact h3 b hb
theorem Own.frz {Q : Nat → Prop} {c : Nat} {h : Heap} {la : Nat} {v : AV} {accs : List Acc} {book : List Ent} {rows : List (List AV)} (O : Own Q c h la v accs book rows) (M : Mine rows 12) (n : Nat) (r f x : Int) :
    ∃ b' : Bnk, AM.frz h (n + 5) (.agg [.sl la 5 0 12, I r, I f, I x, v]) = some (.agg (bc b')) ∧ b'.nrm = (⟨false, accs, r, f, x, false, book⟩ : Bnk).nrm ∧ (b'.nb = true → b'.book = []) ∧ b'.na = false ∧ ∀ a ∈ b'.accs, (a.np = true → a.parts = []) ∧ (a.nl = true → a.last = []) := by
  obtain ⟨accs', h1, h2, h3⟩ := rows_frz (h := h) (n + 1) rows accs (by rw [O.len, O.alen]) fun i r a hr ha => ⟨O.row i r a hr ha, M i r (by have := (List.getElem?_eq_some_iff.1 hr).1; rw [O.len] at this; exact this) hr⟩
  obtain ⟨z, h4, h5⟩ := frz_book (n + 2) O.bkv O.bk
  refine ⟨⟨false, accs', r, f, x, z, book⟩, ?_, by unfold Bnk.nrm; simp only; rw [h2], h5, rfl, h3⟩
  show (List.mapM (AM.frz h (n + 4)) [.sl la 5 0 12, I r, I f, I x, v]).map AV.agg = _
  have e1 : AM.frz h (n + 4) (.sl la 5 0 12) = some (.ro false (accs'.map Acc.cells)) := by
    show ((els h (.sl la 5 0 12)).bind fun es => (es.mapM fun (e : List AV) => e.mapM (AM.frz h (n + 3))).map (AV.ro false)) = _
    have : els h (.sl la 5 0 12) = some rows := by
      simp only [els, O.hla, Option.bind_some]
      rw [if_pos (by simp [O.len]), List.drop_zero, List.take_of_length_le (by simp [O.len])]
    rw [this, Option.bind_some, h1]
    rfl
  rw [List.mapM_cons, List.mapM_cons, List.mapM_cons, List.mapM_cons, List.mapM_cons, e1, h4]
  rfl
end Go.Proofs.Ytdckleaemkcapaa.AM
