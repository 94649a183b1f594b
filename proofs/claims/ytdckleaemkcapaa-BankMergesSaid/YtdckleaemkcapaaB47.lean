/- Texts of the proof: part B47. -/
import Derived.Test.YtdckleaemkcapaaB41
set_option maxHeartbeats 0
set_option linter.unusedVariables false
set_option linter.unusedSimpArgs false
namespace Go.Proofs.Ytdckleaemkcapaa.AM
open Go Go.Proofs
def unint : List AV → Int
  | [.val (.int _ n)] => n
  | _ => 0
theorem ints_inj {l l' : List Int} (h : ints l = ints l') : l = l' := by
  have e : ∀ l : List Int, (ints l).map unint = l := by
    intro l
    rw [List.map_map]
    exact List.map_id' l
  rw [← e l, h, e]
/-- What is read out. -/
def FrV (v : AV) : Prop := SlV 1 v ∨ ∃ z l, v = .ro z (ints l) ∧ (z = true → l = [])
theorem frz_elsW {h : Heap} {w : AV} {l : List Int} (n : Nat) (hs : FrV w) (he : els h w = some (ints l)) : ∃ z : Bool, frz h (n + 2) w = some (.ro z (ints l)) ∧ (z = true → l = []) := by
  rcases hs with hs | ⟨z, l', rfl, hz⟩
  · exact frz_els n (.inl hs) he
  · have : l' = l := ints_inj (Option.some.inj he)
    subst this
    exact ⟨z, rfl, hz⟩
def MineW (rows : List (List AV)) : Prop := ∀ i r, i < 12 → rows[i]? = some r → ∃ o x y vp vl, r = rw5 o x y vp vl ∧ FrV vp ∧ FrV vl
theorem rows_frzW {h : Heap} (n : Nat) : ∀ (rows : List (List AV)) (accs : List Acc), rows.length = accs.length → (∀ (i : Nat) r a, rows[i]? = some r → accs[i]? = some a → RowIs h r a ∧ ∃ o x y vp vl, r = rw5 o x y vp vl ∧ FrV vp ∧ FrV vl) →
    ∃ accs' : List Acc, rows.mapM (fun e => e.mapM (frz h (n + 2))) = some (accs'.map Acc.cells) ∧ accs'.map Acc.nrm = accs.map Acc.nrm ∧ ∀ a ∈ accs', (a.np = true → a.parts = []) ∧ (a.nl = true → a.last = [])
  | [], [], _, _ => ⟨[], rfl, rfl, fun a h => by cases h⟩
  | [], a :: accs, h, _ => by simp at h
  | r :: rows, [], h, _ => by simp at h
  | r :: rows, a :: accs, hl, H => by
    obtain ⟨accs', h1, h2, h3⟩ := rows_frzW n rows accs (by simpa using hl) fun i r a hr ha => H (i + 1) r a (by simpa using hr) (by simpa using ha)
    obtain ⟨⟨vp, vl, e, k1, k2⟩, o, x, y, vp', vl', e', s1, s2⟩ := H 0 r a rfl rfl
    rw [e] at e'
    simp only [List.cons.injEq, and_true] at e'
    obtain ⟨_, _, _, rfl, rfl⟩ := e'
    obtain ⟨z1, f1, g1⟩ := frz_elsW n s1 k1
    obtain ⟨z2, f2, g2⟩ := frz_elsW n s2 k2
    refine ⟨{ a with np := z1, nl := z2 } :: accs', ?_, ?_, ?_⟩
    · rw [List.mapM_cons, h1, e]
      have : (rw5 a.opn a.cash a.loan vp vl).mapM (frz h (n + 2)) = some (Acc.cells { a with np := z1, nl := z2 }) := by
        unfold rw5
        rw [List.mapM_cons, List.mapM_cons, List.mapM_cons, List.mapM_cons, List.mapM_cons, f1, f2]
        rfl
      rw [this]
      rfl
    · rw [List.map_cons, List.map_cons, h2]
      rfl
    · intro b hb
      rcases List.mem_cons.1 hb with rfl | hb
      · exact ⟨g1, g2⟩
      · exact h3 b hb
theorem post_ownW {Q : Nat → Prop} {c c' : Nat} {h : Heap} {la : Nat} {v : AV} {accs : List Acc} {book : List Ent} {rows : List (List AV)} (O : Own Q c h la v accs book rows) (M : MineW rows) (r f x : Int) (hb : book.length ≤ 9223372036854775807) (hs : Small accs) :
    PostB 0 ⟨false, accs, r, f, x, false, book⟩ (some (.tup [.agg [.sl la 5 0 12, I r, I f, I x, v], E 0], h, c')) := by
  obtain ⟨accs', h1, h2, h3⟩ := rows_frzW (h := h) 7 rows accs (by rw [O.len, O.alen]) fun i r a hr ha => ⟨O.row i r a hr ha, M i r (by have := (List.getElem?_eq_some_iff.1 hr).1; rw [O.len] at this; exact this) hr⟩
  obtain ⟨z, h4, h5⟩ := frz_book 8 O.bkv O.bk
  refine ⟨⟨false, accs', r, f, x, z, book⟩, ?_, by unfold Bnk.nrm; simp only; rw [h2], ⟨fun a ha => ?_, ?_, hb, fun hn => (by cases hn), h5⟩⟩
  · have e1 : frz h 10 (.sl la 5 0 12) = some (.ro false (accs'.map Acc.cells)) := by
      show ((els h (.sl la 5 0 12)).bind fun es => (es.mapM fun (e : List AV) => e.mapM (frz h 9)).map (AV.ro false)) = _
      have : els h (.sl la 5 0 12) = some rows := by
        simp only [els, O.hla, Option.bind_some]
        rw [if_pos (by simp [O.len]), List.drop_zero, List.take_of_length_le (by simp [O.len])]
      rw [this, Option.bind_some, h1]
      rfl
    have e2 : frz h 11 (.agg [.sl la 5 0 12, I r, I f, I x, v]) = some (.agg (bc ⟨false, accs', r, f, x, z, book⟩)) := by
      show (List.mapM (frz h 10) [.sl la 5 0 12, I r, I f, I x, v]).map AV.agg = _
      rw [List.mapM_cons, List.mapM_cons, List.mapM_cons, List.mapM_cons, List.mapM_cons, e1, h4]
      rfl
    show (List.mapM (frz h 11) [.agg [.sl la 5 0 12, I r, I f, I x, v], E 0]).map AV.tup = _
    rw [List.mapM_cons, e2]
    rfl
  · have ha' : a.nrm ∈ accs.map Acc.nrm := by rw [← h2]; exact List.mem_map_of_mem ha
    obtain ⟨a0, k1, k2⟩ := List.mem_map.1 ha'
    have k3 := hs a0 k1
    have p1 : a0.parts = a.parts := by simpa [Acc.nrm] using congrArg Acc.parts k2
    have p2 : a0.last = a.last := by simpa [Acc.nrm] using congrArg Acc.last k2
    rw [p1, p2] at k3
    exact ⟨k3.1, k3.2, (h3 a ha).1, (h3 a ha).2⟩
  · have := congrArg List.length h2
    simp [O.alen] at this
    simp only
    omega
/-! ### shutting -/
def gone (m p : Int) : Int := bif p == m then -1 else p
def goneTo (m : Int) (l : List Int) (k : Nat) : List Int := (l.take k).map (gone m) ++ l.drop k
theorem goneTo_zero (m : Int) (l : List Int) : goneTo m l 0 = l := by simp [goneTo]
theorem goneTo_all (m : Int) {l : List Int} {k : Nat} (h : l.length ≤ k) : goneTo m l k = l.map (gone m) := by
  unfold goneTo
  rw [List.take_of_length_le h, List.drop_of_length_le h, List.append_nil]
theorem goneTo_len (m : Int) (l : List Int) (k : Nat) : (goneTo m l k).length = l.length := by
  unfold goneTo
  simp
  omega
theorem goneTo_get (m : Int) (l : List Int) (k i : Nat) : (goneTo m l k)[i]? = if i < k then (l[i]?).map (gone m) else l[i]? := by
  unfold goneTo
  rw [List.getElem?_append]
  simp only [List.length_map, List.length_take, List.getElem?_map, List.getElem?_take, List.getElem?_drop]
  by_cases h1 : i < k
  · simp only [if_pos h1]
    by_cases h2 : i < l.length
    · rw [if_pos (by omega)]
    · rw [if_neg (by omega), List.getElem?_eq_none (by omega), List.getElem?_eq_none (by omega)]
      rfl
  · simp only [if_neg h1]
    by_cases h2 : k ≤ l.length
    · rw [if_neg (by omega)]
      congr 1
      omega
    · have h3 : l.length ≤ i := by omega
      rw [List.getElem?_eq_none h3]
      split
      · rfl
      · exact List.getElem?_eq_none (by omega)
theorem goneTo_succ (m : Int) {l : List Int} {k : Nat} (h : k < l.length) : goneTo m l (k + 1) = (goneTo m l k).set k (gone m l[k]) := by
  apply List.ext_getElem?
  intro i
  rw [List.getElem?_set, goneTo_get, goneTo_get, goneTo_len]
  by_cases e : k = i
  · subst e
    rw [if_pos (by omega), if_pos rfl, if_pos h, List.getElem?_eq_getElem h]
    rfl
  · rw [if_neg e]
    by_cases h1 : i < k
    · rw [if_pos (by omega), if_pos h1]
    · rw [if_neg (by omega), if_neg h1]
def goneA (m : Int) (a : Acc) (k : Nat) : Acc := { a with parts := goneTo m a.parts k }
def shN (m : Int) (X : List Acc) : Nat → List Acc
  | 0 => X
  | i + 1 => match X[i]? with
    | some a => (shN m X i).set i (goneA m a 4)
    | none => shN m X i
theorem shN_len (m : Int) (X : List Acc) : ∀ i, (shN m X i).length = X.length
  | 0 => rfl
  | i + 1 => by
    show (match X[i]? with | some a => (shN m X i).set i (goneA m a 4) | none => shN m X i).length = _
    cases X[i]? with
    | none => exact shN_len m X i
    | some a => simp [shN_len m X i]
theorem shN_get (m : Int) (X : List Acc) : ∀ i j, i ≤ j → (shN m X i)[j]? = X[j]?
  | 0, _, _ => rfl
  | i + 1, j, h => by
    show (match X[i]? with | some a => (shN m X i).set i (goneA m a 4) | none => shN m X i)[j]? = _
    have ih := shN_get m X i j (by omega)
    cases X[i]? with
    | none => exact ih
    | some a => simp only; rw [List.getElem?_set, if_neg (by omega)]; exact ih
theorem shN_succ (m : Int) {X : List Acc} {i : Nat} {a : Acc} (h : X[i]? = some a) : shN m X (i + 1) = (shN m X i).set i (goneA m a 4) := by
  show (match X[i]? with | some a => (shN m X i).set i (goneA m a 4) | none => shN m X i) = _
  rw [h]
theorem shN_small (m : Int) {X : List Acc} (h : Small X) : ∀ i, Small (shN m X i)
  | 0 => h
  | i + 1 => by
    cases e : X[i]? with
    | none =>
      have : shN m X (i + 1) = shN m X i := by
        show (match X[i]? with | some a => (shN m X i).set i (goneA m a 4) | none => shN m X i) = _
        rw [e]
      rw [this]; exact shN_small m h i
    | some a =>
      rw [shN_succ m e]
      have k := h a (List.mem_of_getElem? e)
      exact small_set (shN_small m h i) (by show (goneTo m a.parts 4).length ≤ _; rw [goneTo_len]; exact k.1) k.2
/-- What a bank's accounts come to when one is shut. -/
def shutL (m : Nat) (X : List Acc) : List Acc := shN m (X.set m shutA) 12
/-- The rows while an account is shut: what is not the call's own is nobody's. -/
def Shut (m : Int) (rows : List (List AV)) (accs : List Acc) : Prop := ∀ (j : Nat) r a, rows[j]? = some r → accs[j]? = some a → ∃ o x y vp vl, r = rw5 o x y vp vl ∧ FrV vl ∧ (SlV 1 vp ∨ ((∃ z l, vp = .ro z (ints l) ∧ (z = true → l = [])) ∧ ∀ p ∈ a.parts, p ≠ m))
theorem Shut.mineW {m : Int} {rows : List (List AV)} {accs : List Acc} (S : Shut m rows accs) (hl : rows.length = 12) (hl2 : accs.length = 12) : MineW rows := by
  intro i r hi hr
  have h2 : i < accs.length := by omega
  obtain ⟨o, x, y, vp, vl, e, h3, h4⟩ := S i r _ hr (List.getElem?_eq_getElem h2)
  exact ⟨o, x, y, vp, vl, e, h4.imp id fun h => h.1, h3⟩
theorem Shut.set {m : Int} {rows : List (List AV)} {accs : List Acc} (S : Shut m rows accs) {i : Nat} {a a' : Acc} (ha : accs[i]? = some a) (hp : (∀ p ∈ a.parts, p ≠ m) → ∀ p ∈ a'.parts, p ≠ m) : Shut m rows (accs.set i a') := by
  intro j r b hr hb
  rw [List.getElem?_set] at hb
  split at hb
  · rename_i e
    subst e
    split at hb
    · cases hb
      obtain ⟨o, x, y, vp, vl, e, h3, h4⟩ := S _ r a hr ha
      exact ⟨o, x, y, vp, vl, e, h3, h4.imp id fun h => ⟨h.1, hp h.2⟩⟩
    · cases hb
  · exact S j r b hr hb
end Go.Proofs.Ytdckleaemkcapaa.AM
