/- Parts of the proof: B47, B48, B49, B50. -/
import Derived.Test.YtdckleaemkcapaaME
set_option maxHeartbeats 0
set_option linter.unusedVariables false
set_option linter.unusedSimpArgs false
set_option linter.unusedSectionVars false
namespace Go.Proofs.Ytdckleaemkcapaa.AM
open Go Go.Proofs
def unint : List AV → Int
  | [.val (.int _ n)] => n
  | _ => 0
theorem ints_inj {l l' : List Int} (h : ints l = ints l') : l = l' := by
  have e : ∀ l : List Int, (ints l).map unint = l := by
    intro l
    rw [List.map_map]
    exact List.map_id' l
  rw [← e l, h, e]
/-- What is read out. -/
def FrV (v : AV) : Prop := SlV 1 v ∨ ∃ z l, v = .ro z (ints l) ∧ (z = true → l = [])
theorem frz_elsW {h : Heap} {w : AV} {l : List Int} (n : Nat) (hs : FrV w) (he : els h w = some (ints l)) : ∃ z : Bool, frz h (n + 2) w = some (.ro z (ints l)) ∧ (z = true → l = []) := by
  rcases hs with hs | ⟨z, l', rfl, hz⟩
  · exact frz_els n (.inl hs) he
  · have : l' = l := ints_inj (Option.some.inj he)
    subst this
    exact ⟨z, rfl, hz⟩
def MineW (rows : List (List AV)) : Prop := ∀ i r, i < 12 → rows[i]? = some r → ∃ o x y vp vl, r = rw5 o x y vp vl ∧ FrV vp ∧ FrV vl
theorem rows_frzW {h : Heap} (n : Nat) : ∀ (rows : List (List AV)) (accs : List Acc), rows.length = accs.length → (∀ (i : Nat) r a, rows[i]? = some r → accs[i]? = some a → RowIs h r a ∧ ∃ o x y vp vl, r = rw5 o x y vp vl ∧ FrV vp ∧ FrV vl) →
    ∃ accs' : List Acc, rows.mapM (fun e => e.mapM (frz h (n + 2))) = some (accs'.map Acc.cells) ∧ accs'.map Acc.nrm = accs.map Acc.nrm ∧ ∀ a ∈ accs', (a.np = true → a.parts = []) ∧ (a.nl = true → a.last = [])
  | [], [], _, _ => ⟨[], rfl, rfl, fun a h => by cases h⟩
  | [], a :: accs, h, _ => by simp at h
  | r :: rows, [], h, _ => by simp at h
  | r :: rows, a :: accs, hl, H => by
    obtain ⟨accs', h1, h2, h3⟩ := rows_frzW n rows accs (by simpa using hl) fun i r a hr ha => H (i + 1) r a (by simpa using hr) (by simpa using ha)
    obtain ⟨⟨vp, vl, e, k1, k2⟩, o, x, y, vp', vl', e', s1, s2⟩ := H 0 r a rfl rfl
    rw [e] at e'
    simp only [List.cons.injEq, and_true] at e'
    obtain ⟨_, _, _, rfl, rfl⟩ := e'
    obtain ⟨z1, f1, g1⟩ := frz_elsW n s1 k1
    obtain ⟨z2, f2, g2⟩ := frz_elsW n s2 k2
    refine ⟨{ a with np := z1, nl := z2 } :: accs', ?_, ?_, ?_⟩
    · rw [List.mapM_cons, h1, e]
      have : (rw5 a.opn a.cash a.loan vp vl).mapM (frz h (n + 2)) = some (Acc.cells { a with np := z1, nl := z2 }) := by
        unfold rw5
        rw [List.mapM_cons, List.mapM_cons, List.mapM_cons, List.mapM_cons, List.mapM_cons, f1, f2]
        rfl
      rw [this]
      rfl
    · rw [List.map_cons, List.map_cons, h2]
      rfl
    · intro b hb
      rcases List.mem_cons.1 hb with rfl | hb
      · exact ⟨g1, g2⟩
      · exact h3 b hb
theorem post_ownW {Q : Nat → Prop} {c c' : Nat} {h : Heap} {la : Nat} {v : AV} {accs : List Acc} {book : List Ent} {rows : List (List AV)} (O : Own Q c h la v accs book rows) (M : MineW rows) (r f x : Int) (hb : book.length ≤ 9223372036854775807) (hs : Small accs) :
    PostB 0 ⟨false, accs, r, f, x, false, book⟩ (some (.tup [.agg [.sl la 5 0 12, I r, I f, I x, v], E 0], h, c')) := by
  obtain ⟨accs', h1, h2, h3⟩ := rows_frzW (h := h) 7 rows accs (by rw [O.len, O.alen]) fun i r a hr ha => ⟨O.row i r a hr ha, M i r (by have := (List.getElem?_eq_some_iff.1 hr).1; rw [O.len] at this; exact this) hr⟩
  obtain ⟨z, h4, h5⟩ := frz_book 8 O.bkv O.bk
  refine ⟨⟨false, accs', r, f, x, z, book⟩, ?_, by unfold Bnk.nrm; simp only; rw [h2], ⟨fun a ha => ?_, ?_, hb, fun hn => (by cases hn), h5⟩⟩
  · have e1 : frz h 10 (.sl la 5 0 12) = some (.ro false (accs'.map Acc.cells)) := by
      show ((els h (.sl la 5 0 12)).bind fun es => (es.mapM fun (e : List AV) => e.mapM (frz h 9)).map (AV.ro false)) = _
      have : els h (.sl la 5 0 12) = some rows := by
        simp only [els, O.hla, Option.bind_some]
        rw [if_pos (by simp [O.len]), List.drop_zero, List.take_of_length_le (by simp [O.len])]
      rw [this, Option.bind_some, h1]
      rfl
    have e2 : frz h 11 (.agg [.sl la 5 0 12, I r, I f, I x, v]) = some (.agg (bc ⟨false, accs', r, f, x, z, book⟩)) := by
      show (List.mapM (frz h 10) [.sl la 5 0 12, I r, I f, I x, v]).map AV.agg = _
      rw [List.mapM_cons, List.mapM_cons, List.mapM_cons, List.mapM_cons, List.mapM_cons, e1, h4]
      rfl
    show (List.mapM (frz h 11) [.agg [.sl la 5 0 12, I r, I f, I x, v], E 0]).map AV.tup = _
    rw [List.mapM_cons, e2]
    rfl
  · have ha' : a.nrm ∈ accs.map Acc.nrm := by rw [← h2]; exact List.mem_map_of_mem ha
    obtain ⟨a0, k1, k2⟩ := List.mem_map.1 ha'
    have k3 := hs a0 k1
    have p1 : a0.parts = a.parts := by simpa [Acc.nrm] using congrArg Acc.parts k2
    have p2 : a0.last = a.last := by simpa [Acc.nrm] using congrArg Acc.last k2
    rw [p1, p2] at k3
    exact ⟨k3.1, k3.2, (h3 a ha).1, (h3 a ha).2⟩
  · have := congrArg List.length h2
    simp [O.alen] at this
    simp only
    omega
/-! ### shutting -/
def gone (m p : Int) : Int := bif p == m then -1 else p
def goneTo (m : Int) (l : List Int) (k : Nat) : List Int := (l.take k).map (gone m) ++ l.drop k
theorem goneTo_zero (m : Int) (l : List Int) : goneTo m l 0 = l := by simp [goneTo]
theorem goneTo_all (m : Int) {l : List Int} {k : Nat} (h : l.length ≤ k) : goneTo m l k = l.map (gone m) := by
  unfold goneTo
  rw [List.take_of_length_le h, List.drop_of_length_le h, List.append_nil]
theorem goneTo_len (m : Int) (l : List Int) (k : Nat) : (goneTo m l k).length = l.length := by
  unfold goneTo
  simp
  omega
theorem goneTo_get (m : Int) (l : List Int) (k i : Nat) : (goneTo m l k)[i]? = if i < k then (l[i]?).map (gone m) else l[i]? := by
  unfold goneTo
  rw [List.getElem?_append]
  simp only [List.length_map, List.length_take, List.getElem?_map, List.getElem?_take, List.getElem?_drop]
  by_cases h1 : i < k
  · simp only [if_pos h1]
    by_cases h2 : i < l.length
    · rw [if_pos (by omega)]
    · rw [if_neg (by omega), List.getElem?_eq_none (by omega), List.getElem?_eq_none (by omega)]
      rfl
  · simp only [if_neg h1]
    by_cases h2 : k ≤ l.length
    · rw [if_neg (by omega)]
      congr 1
      omega
    · have h3 : l.length ≤ i := by omega
      rw [List.getElem?_eq_none h3]
      split
      · rfl
      · exact List.getElem?_eq_none (by omega)
theorem goneTo_succ (m : Int) {l : List Int} {k : Nat} (h : k < l.length) : goneTo m l (k + 1) = (goneTo m l k).set k (gone m l[k]) := by
  apply List.ext_getElem?
  intro i
  rw [List.getElem?_set, goneTo_get, goneTo_get, goneTo_len]
  by_cases e : k = i
  · subst e
    rw [if_pos (by omega), if_pos rfl, if_pos h, List.getElem?_eq_getElem h]
    rfl
  · rw [if_neg e]
    by_cases h1 : i < k
    · rw [if_pos (by omega), if_pos h1]
    · rw [if_neg (by omega), if_neg h1]
def goneA (m : Int) (a : Acc) (k : Nat) : Acc := { a with parts := goneTo m a.parts k }
def shN (m : Int) (X : List Acc) : Nat → List Acc
  | 0 => X
  | i + 1 => match X[i]? with
    | some a => (shN m X i).set i (goneA m a 4)
    | none => shN m X i
theorem shN_len (m : Int) (X : List Acc) : ∀ i, (shN m X i).length = X.length
  | 0 => rfl
  | i + 1 => by
    show (match X[i]? with | some a => (shN m X i).set i (goneA m a 4) | none => shN m X i).length = _
    cases X[i]? with
    | none => exact shN_len m X i
    | some a => simp [shN_len m X i]
theorem shN_get (m : Int) (X : List Acc) : ∀ i j, i ≤ j → (shN m X i)[j]? = X[j]?
  | 0, _, _ => rfl
  | i + 1, j, h => by
    show (match X[i]? with | some a => (shN m X i).set i (goneA m a 4) | none => shN m X i)[j]? = _
    have ih := shN_get m X i j (by omega)
    cases X[i]? with
    | none => exact ih
    | some a => simp only; rw [List.getElem?_set, if_neg (by omega)]; exact ih
theorem shN_succ (m : Int) {X : List Acc} {i : Nat} {a : Acc} (h : X[i]? = some a) : shN m X (i + 1) = (shN m X i).set i (goneA m a 4) := by
  show (match X[i]? with | some a => (shN m X i).set i (goneA m a 4) | none => shN m X i) = _
  rw [h]
theorem shN_small (m : Int) {X : List Acc} (h : Small X) : ∀ i, Small (shN m X i)
  | 0 => h
  | i + 1 => by
    cases e : X[i]? with
    | none =>
      have : shN m X (i + 1) = shN m X i := by
        show (match X[i]? with | some a => (shN m X i).set i (goneA m a 4) | none => shN m X i) = _
        rw [e]
      rw [this]; exact shN_small m h i
    | some a =>
      rw [shN_succ m e]
      have k := h a (List.mem_of_getElem? e)
      exact small_set (shN_small m h i) (by show (goneTo m a.parts 4).length ≤ _; rw [goneTo_len]; exact k.1) k.2
/-- What a bank's accounts come to when one is shut. -/
def shutL (m : Nat) (X : List Acc) : List Acc := shN m (X.set m shutA) 12
/-- The rows while an account is shut: what is not the call's own is nobody's. -/
def Shut (m : Int) (rows : List (List AV)) (accs : List Acc) : Prop := ∀ (j : Nat) r a, rows[j]? = some r → accs[j]? = some a → ∃ o x y vp vl, r = rw5 o x y vp vl ∧ FrV vl ∧ (SlV 1 vp ∨ ((∃ z l, vp = .ro z (ints l) ∧ (z = true → l = [])) ∧ ∀ p ∈ a.parts, p ≠ m))
theorem Shut.mineW {m : Int} {rows : List (List AV)} {accs : List Acc} (S : Shut m rows accs) (hl : rows.length = 12) (hl2 : accs.length = 12) : MineW rows := by
  intro i r hi hr
  have h2 : i < accs.length := by omega
  obtain ⟨o, x, y, vp, vl, e, h3, h4⟩ := S i r _ hr (List.getElem?_eq_getElem h2)
  exact ⟨o, x, y, vp, vl, e, h4.imp id fun h => h.1, h3⟩
theorem Shut.set {m : Int} {rows : List (List AV)} {accs : List Acc} (S : Shut m rows accs) {i : Nat} {a a' : Acc} (ha : accs[i]? = some a) (hp : (∀ p ∈ a.parts, p ≠ m) → ∀ p ∈ a'.parts, p ≠ m) : Shut m rows (accs.set i a') := by
  intro j r b hr hb
  rw [List.getElem?_set] at hb
  split at hb
  · rename_i e
    subst e
    split at hb
    · cases hb
      obtain ⟨o, x, y, vp, vl, e, h3, h4⟩ := S _ r a hr ha
      exact ⟨o, x, y, vp, vl, e, h3, h4.imp id fun h => ⟨h.1, hp h.2⟩⟩
    · cases hb
  · exact S j r b hr hb
end Go.Proofs.Ytdckleaemkcapaa.AM
namespace Go.Proofs.Ytdckleaemkcapaa.AM
open Go Go.Proofs
attribute [local simp] AV.cells okc AV.isBad fieldAddrA ld setCells stA skipV appendA hd makeA bnd sliceA kindA freshA killOk loadsAt newT empT lay_get allocA buildA buildRow builtinA lenA els indexAddrA isNil opA evA lit yldA binA binI unA pickA boolV intV fieldA mk flat lf lf.lfs frz
theorem goneA_step {m : Int} {a : Acc} {k : Nat} (hk : k < a.parts.length) : goneA m a (k + 1) = { goneA m a k with parts := (goneA m a k).parts.set k (gone m a.parts[k]) } := by
  unfold goneA
  rw [goneTo_succ m hk]
theorem goneA_same {m : Int} {a : Acc} {k : Nat} (hk : k < a.parts.length) (h : (a.parts[k] == m) = false) : goneA m a (k + 1) = goneA m a k := by
  rw [goneA_step hk]
  have e : gone m a.parts[k] = a.parts[k] := by unfold gone; rw [h]; rfl
  rw [e]
  have hl : k < (goneA m a k).parts.length := by show k < (goneTo m a.parts k).length; rw [goneTo_len]; exact hk
  have e2 : (goneA m a k).parts[k] = a.parts[k] := by
    have hl' : k < (goneTo m a.parts k).length := hl
    have := goneTo_get m a.parts k k
    rw [if_neg (by omega), List.getElem?_eq_getElem hk, List.getElem?_eq_getElem hl'] at this
    exact Option.some.inj this
  rw [← e2, List.set_getElem_self]
theorem goneA_hit {m : Int} {a : Acc} {k : Nat} (hk : k < a.parts.length) (h : (a.parts[k] == m) = true) : goneA m a (k + 1) = { goneA m a k with parts := (goneA m a k).parts.set k (-1) } := by
  rw [goneA_step hk]
  have e : gone m a.parts[k] = -1 := by unfold gone; rw [h]; rfl
  rw [e]
theorem goneTo_ne {m : Int} (hm : m ≠ -1) {l : List Int} (h : ∀ p ∈ l, p ≠ m) (k : Nat) : ∀ p ∈ goneTo m l k, p ≠ m := by
  intro p hp
  obtain ⟨i, hi⟩ := List.getElem?_of_mem hp
  rw [goneTo_get] at hi
  have key : ∀ q, l[i]? = some q → q ≠ m := fun q hq => h q (List.mem_of_getElem? hq)
  split at hi
  · obtain ⟨q, hq, rfl⟩ := Option.map_eq_some_iff.mp hi
    unfold gone
    cases q == m
    · exact key q hq
    · exact fun e => hm e.symm
  · exact key p hi
/-- The start: the account is shut, parts are not gone yet. -/
theorem shut_start {Q : Nat → Prop} {c : Nat} {h h' : Heap} {la : Nat} {v : AV} {accs : List Acc} {book : List Ent} {rows : List (List AV)} (O : Own Q c h la v accs book rows) (M : Mine rows 12) {m : Nat} (hm : m < 12) (hla : h' la = some ⟨5, rows.set m shutC⟩) (hh : ∀ l, l ≠ la → Q l → h' l = h l) :
    Own Q c h' la v (accs.set m shutA) book (rows.set m shutC) ∧ Shut m (rows.set m shutC) (accs.set m shutA) := by
  obtain ⟨a, vp, vl, ha, hrw, hvp, hvl⟩ := O.get hm
  refine ⟨O.upd (a' := shutA) (vp' := .ro false (ints [-1, -1, -1, -1])) (vl' := .ro true []) hm hrw (Nat.le_refl _) hla (fun l hl hin => ?_) rfl rfl (fun l hl => by simp at hl) (fun l hl => by simp at hl) (fun l hl => by simp at hl), ?_⟩
  · rcases hin with hin | ⟨i, f, _, hin⟩
    · exact hh l hl (O.sep3 l hin).2.1
    · exact hh l hl (O.sep2 i f l hin).2.2.1
  · intro j r b hr hb
    rw [List.getElem?_set] at hr hb
    split at hr
    · rename_i e
      subst e
      rw [if_pos rfl] at hb
      split at hr
      · cases hr
        split at hb
        · cases hb
          refine ⟨false, 0, 0, .ro false (ints [-1, -1, -1, -1]), .ro true [], rfl, .inr ⟨true, [], rfl, fun _ => rfl⟩, .inr ⟨⟨false, _, rfl, fun h => by cases h⟩, fun p hp => ?_⟩⟩
          simp [shutA] at hp
          omega
        · cases hb
      · cases hr
    · have hj : j < 12 := by have := (List.getElem?_eq_some_iff.1 hr).1; rw [O.len] at this; exact this
      obtain ⟨o, x, y, vp, vl, e, s1, s2⟩ := M j r hj hr
      exact ⟨o, x, y, vp, vl, e, .inl s2, .inl s1⟩
theorem row_elem {es : List (List AV)} {off n k : Nat} {T : List Int} (h1 : off + n ≤ es.length) (h2 : (es.drop off).take n = ints T) (hk : k < n) {p : Int} (hp : T[k]? = some p) : ∃ hlt : off + k < es.length, es[off + k] = [I p] := by
  have hlt : off + k < es.length := by omega
  refine ⟨hlt, ?_⟩
  have t := congrArg (fun l => l[k]?) h2
  simp only [List.getElem?_take, List.getElem?_drop, List.getElem?_map, if_pos hk, hp, Option.map_some] at t
  rw [List.getElem?_eq_getElem hlt] at t
  exact Option.some.inj t
theorem rshut_to {α : Type} {R : Option α → Prop} (h : Heap) (c : Nat) (K : AV × Heap × Nat → Option α) {Q : Nat → Prop} {p la : Nat} {v : AV} {accs : List Acc} {book : List Ent} {rows : List (List AV)} {m : Nat} {r f x : Int}
    (hp : h p = some ⟨5, [[.sl la 5 0 12, I r, I f, I x, v]]⟩) (nq : ¬ Q p) (O : Own Q c h la v accs book rows) (M : Mine rows 12) (hm : m < 12) (hl4 : ∀ a ∈ accs, a.parts.length = 4)
    (kR : ∀ h' c' rows', (∀ l, ¬ Q l → h' l = h l) → c ≤ c' → Own Q c' h' la v (shutL m accs) book rows' → MineW rows' → R (K (.tup [], h', c'))) :
    R ((callA (mdT tblB) (run Try.prog (mdT tblB)) 79 [.ptr p 0 0, I m] h c).bind K) := by
  rw [call_heap rfl, run_eq, show mdT tblB 79 = some .heap from rfl, Option.bind_some, Try.func79]
  have hla := O.hla
  have hlt : m < rows.length := by rw [O.len]; exact hm
  have hmi : (m : Int) < 12 := by omega
  have hcl := rclosed_c
  obtain ⟨a0, vp0, vl0, ha0, hrw0, _, _⟩ := O.get hm
  have hr0 : rows[m] = [B a0.opn, I a0.cash, I a0.loan, vp0, vl0] := by rw [List.getElem?_eq_getElem hlt] at hrw0; exact Option.some.inj hrw0
  have q1 : ¬ (p = la) := fun e => nq (e ▸ O.sep4.1)
  have q2 : ¬ (la = p) := fun e => q1 e.symm
  simp -implicitDefEqProofs [Try.f79, hp, hla, hlt, hr0, hm, hmi, hcl, q1, q2, obm, Option.bind_assoc]
  obtain ⟨O1, S1⟩ := shut_start (h' := h.put la (some ⟨5, rows.set m shutC⟩)) O M hm (by simp) (fun l hl _ => by simp [hl])
  have X4 : ∀ a ∈ accs.set m shutA, a.parts.length = 4 := by
    intro a ha
    rcases List.mem_or_eq_of_mem_set ha with ha | rfl
    · exact hl4 a ha
    · rfl
  have hshut : shutL m accs = shN m (accs.set m shutA) 12 := rfl
  have hXl : (accs.set m shutA).length = 12 := by rw [List.length_set]; exact O.alen
  have hrl : (rows.set m shutC).length = 12 := by rw [List.length_set]; exact O.len
  revert O1 S1 X4 hshut hXl hrl
  generalize accs.set m shutA = X
  generalize rows.set m shutC = rs
  intro O1 S1 X4 hshut hXl hrl
  refine count_to (R := R) 12 (fun i s => s.t 0 = .ptr p 0 0 ∧ s.t 1 = I m ∧ s.t 4 = I i ∧ s.c = c ∧ s.h p = some ⟨5, [[.sl la 5 0 12, I r, I f, I x, v]]⟩ ∧ (∀ l, ¬ Q l → s.h l = h l) ∧ Own Q c s.h la v (shN m X i) book rs ∧ Shut m rs (shN m X i)) _ ?_ ?_ ?_
  · simp -implicitDefEqProofs [hp, q1]
    exact ⟨fun l hl => by simp [show ¬ (l = la) from fun e => hl (e ▸ O.sep4.1)], O1, S1⟩
  · rintro i ⟨t, h2, c2⟩ ⟨t0, t1, t4, hc, hp2, hfr, O2, S2⟩ hi
    simp only at t0 t1 t4 hc hp2 hfr O2
    subst hc
    have hla2 := O2.hla
    have hii : (i : Int) < 12 := by omega
    have ki : decide ((i : Int) < 12) = true := decide_eq_true hii
    have hiX : i < X.length := by omega
    have hXi : X[i]? = some X[i] := List.getElem?_eq_getElem hiX
    have hSi : (shN m X i)[i]? = some X[i] := by rw [shN_get _ _ i i (Nat.le_refl _)]; exact hXi
    have hl4i := X4 _ (List.getElem_mem hiX)
    have wi : IntKind.i64.wrap ((i : Int) + 1) = ((i + 1 : Nat) : Int) := wrap_succ (by omega)
    have hirs : i < rs.length := by omega
    simp -implicitDefEqProofs [t0, t1, t4, hp2, hla2, ki, obm, Option.bind_assoc, -decide_eq_true_eq]
    refine count_to (R := GoesOn _) 4 (fun k s => s.t 0 = .ptr p 0 0 ∧ s.t 1 = I m ∧ s.t 4 = I i ∧ s.t 5 = I k ∧ s.c = c2 ∧ s.h p = some ⟨5, [[.sl la 5 0 12, I r, I f, I x, v]]⟩ ∧ (∀ l, ¬ Q l → s.h l = h l) ∧ Own Q c2 s.h la v ((shN m X i).set i (goneA m X[i] k)) book rs ∧ Shut m rs ((shN m X i).set i (goneA m X[i] k))) _ ?_ ?_ ?_
    · have e0 : (shN m X i).set i (goneA m X[i] 0) = shN m X i := by
        have : goneA m X[i] 0 = X[i] := by unfold goneA; rw [goneTo_zero]
        rw [this]
        have hl : i < (shN m X i).length := by rw [shN_len]; exact hiX
        rw [List.getElem?_eq_getElem hl] at hSi
        rw [← Option.some.inj hSi, List.set_getElem_self]
      simp -implicitDefEqProofs [t0, t1, t4, hp2, e0]
      exact ⟨hfr, O2, S2⟩
    · rintro k ⟨t, h3, c3⟩ ⟨t0, t1, t4, t5, hc, hp3, hfr3, O3, S3⟩ hk
      simp only at t0 t1 t4 t5 hc hp3 hfr3 O3
      subst hc
      have hla3 := O3.hla
      have hki : (k : Int) < 4 := by omega
      have kk : decide ((k : Int) < 4) = true := decide_eq_true hki
      have wk : IntKind.i64.wrap ((k : Int) + 1) = ((k + 1 : Nat) : Int) := wrap_succ (by omega)
      have hlS : i < (shN m X i).length := by rw [shN_len]; exact hiX
      have hYi : ((shN m X i).set i (goneA m X[i] k))[i]? = some (goneA m X[i] k) := by rw [List.getElem?_set, if_pos rfl, if_pos hlS]
      obtain ⟨a, vp, vl, ha, hrw, hvp, hvl⟩ := O3.get hi
      rw [hYi] at ha
      cases ha
      have hr' : rs[i] = [B X[i].opn, I X[i].cash, I X[i].loan, vp, vl] := by rw [List.getElem?_eq_getElem hirs] at hrw; exact Option.some.inj hrw
      have hkp : k < X[i].parts.length := by omega
      have hgk : (goneA m X[i] k).parts[k]? = some X[i].parts[k] := by
        show (goneTo m X[i].parts k)[k]? = _
        rw [goneTo_get, if_neg (by omega)]
        exact List.getElem?_eq_getElem hkp
      have hg4 : (goneA m X[i] k).parts.length = 4 := by show (goneTo m X[i].parts k).length = 4; rw [goneTo_len]; exact hl4i
      obtain ⟨o', x', y', vp', vl', e', f1, f2⟩ := S3 i _ _ hrw hYi
      simp only [List.cons.injEq, and_true] at e'
      obtain ⟨_, _, _, rfl, rfl⟩ := e'
      rcases f2 with f2 | ⟨⟨z, l, rfl, hz⟩, hne⟩
      · obtain ⟨lq, off, n, rfl⟩ : ∃ l off n, vp = .sl l 1 off n := by
          rcases f2 with h | rfl | rfl
          · exact h
          · have := congrArg List.length (Option.some.inj hvp); simp [hg4] at this
          · have := congrArg List.length (Option.some.inj hvp); simp [hg4] at this
        obtain ⟨BB, b1, b2, b3, b4⟩ := els_sl hvp
        have b5 : n = 4 := by simpa [hg4] using b4.symm
        subst b5
        obtain ⟨hlt3, hcell⟩ := row_elem b2 b3 hk hgk
        have at3 := O3.sep2 i 3 lq ⟨_, _, hrw, rfl, by simp⟩
        have p1 : ¬ (lq = la) := at3.1
        have p2 : ¬ (la = lq) := fun h => p1 h.symm
        have p3 : ¬ (p = lq) := fun e => nq (e ▸ at3.2.2.1)
        have p4 : ¬ (lq = p) := fun e => p3 e.symm
        cases hit : (X[i].parts[k] == (m : Int))
        · simp -implicitDefEqProofs [t0, t1, t4, t5, hp3, hla3, hirs, hr', hi, hii, hki, hk, kk, wk, b1, hlt3, hcell, hit, p1, p2, p3, p4, -decide_eq_true_eq]
          rw [goneA_same hkp hit]
          exact ⟨hfr3, O3, S3⟩
        · simp -implicitDefEqProofs [t0, t1, t4, t5, hp3, hla3, hirs, hr', hi, hii, hki, hk, kk, wk, b1, hlt3, hcell, hit, p1, p2, p3, p4, -decide_eq_true_eq]
          rw [goneA_hit hkp hit]
          have O4 := O3.part (x := -1) (k := k) (h' := h3.put lq (some ⟨BB.sz, BB.es.set (off + k) [I (-1)]⟩)) hi hYi hrw b1 b2 b3 hvl hk (by simp) (fun y hy _ _ => by simp [hy])
          rw [List.set_set] at O4
          have S4 := S3.set (a' := { goneA m X[i] k with parts := (goneA m X[i] k).parts.set k (-1) }) hYi (fun h q hq => by
            rcases List.mem_or_eq_of_mem_set hq with hq | rfl
            · exact h q hq
            · omega)
          rw [List.set_set] at S4
          exact ⟨fun l hl => by simp [show ¬ (l = lq) from fun e => hl (e ▸ at3.2.2.1), hfr3 l hl], O4, S4⟩
      · have hl : l = (goneA m X[i] k).parts := ints_inj (Option.some.inj hvp)
        subst hl
        have hit : (X[i].parts[k] == (m : Int)) = false := by
          have := hne _ (List.mem_of_getElem? hgk)
          simpa using this
        have hkg : k < (goneA m X[i] k).parts.length := by omega
        have hge : (goneA m X[i] k).parts[k] = X[i].parts[k] := by rw [List.getElem?_eq_getElem hkg] at hgk; exact Option.some.inj hgk
        simp -implicitDefEqProofs [t0, t1, t4, t5, hp3, hla3, hirs, hr', hi, hii, hki, hk, kk, wk, hkg, hge, hit, -decide_eq_true_eq]
        rw [goneA_same hkp hit]
        exact ⟨hfr3, O3, S3⟩
    · rintro ⟨t, h3, c3⟩ ⟨t0, t1, t4, t5, hc, hp3, hfr3, O3, S3⟩
      simp only at t0 t1 t4 t5 hc hp3 hfr3 O3
      subst hc
      rw [← shN_succ (m : Int) hXi] at O3 S3
      simp -implicitDefEqProofs [t0, t1, t4, t5, hp3, wi]
      exact ⟨hfr3, O3, S3⟩
  · rintro ⟨t, h2, c2⟩ ⟨t0, t1, t4, hc, hp2, hfr, O2, S2⟩
    simp only at t0 t1 t4 hc hp2 hfr O2
    subst hc
    have hla2 := O2.hla
    simp -implicitDefEqProofs [t0, t1, t4, hp2, hla2]
    rw [← hshut] at O2 S2
    exact kR _ _ _ hfr (Nat.le_refl _) O2 (S2.mineW hrl O2.alen)
end Go.Proofs.Ytdckleaemkcapaa.AM
namespace Go.Proofs.Ytdckleaemkcapaa.AM
open Go Go.Proofs
attribute [local simp] AV.cells okc AV.isBad fieldAddrA ld setCells stA skipV appendA hd makeA bnd sliceA kindA freshA killOk loadsAt newT empT lay_get allocA buildA buildRow builtinA lenA els indexAddrA isNil opA evA lit yldA binA binI unA pickA boolV intV fieldA mk flat lf lf.lfs frz
theorem bshut_to {α : Type} {R : Option α → Prop} (h : Heap) (c : Nat) (K : AV × Heap × Nat → Option α) {Q : Nat → Prop} {la : Nat} {v : AV} {accs : List Acc} {book : List Ent} {rows : List (List AV)} {m : Nat} {r f x : Int}
    (O : Own Q c h la v accs book rows) (M : Mine rows 12) (hm : m < 12) (hl4 : ∀ a ∈ accs, a.parts.length = 4)
    (kR : ∀ h' c' rows', (∀ l, ¬ Q l → h' l = h l) → c ≤ c' → Own Q c' h' la v (shutL m accs) book rows' → MineW rows' → R (K (.tup [], h', c'))) :
    R ((callA (mdT tblB) (run Try.prog (mdT tblB)) 83 [.agg [.sl la 5 0 12, I r, I f, I x, v], I m] h c).bind K) := by
  rw [call_heap rfl, run_eq, show mdT tblB 83 = some .heap from rfl, Option.bind_some, Try.func83]
  have hla := O.hla
  have lc := O.sep4.2
  have hlt : m < rows.length := by rw [O.len]; exact hm
  have hmi : (m : Int) < 12 := by omega
  have hcl := bclosed_c
  obtain ⟨a0, vp0, vl0, ha0, hrw0, _, _⟩ := O.get hm
  have hr0 : rows[m] = [B a0.opn, I a0.cash, I a0.loan, vp0, vl0] := by rw [List.getElem?_eq_getElem hlt] at hrw0; exact Option.some.inj hrw0
  have q1 : ¬ (c = la) := by omega
  have q2 : ¬ (la = c) := by omega
  have hv1 := slv_cells O.bkv
  have hv2 := slv_okc O.bkv
  unfold AV.cells at hv1
  unfold okc at hv2
  simp -implicitDefEqProofs [Try.f83, hla, hlt, hr0, hm, hmi, hcl, q1, q2, hv1, hv2, obm, Option.bind_assoc]
  obtain ⟨O1, S1⟩ := shut_start (h' := (h.put c (some ⟨5, [[.sl la 5 0 12, I r, I f, I x, v]]⟩)).put la (some ⟨5, rows.set m shutC⟩)) (O.frame (h' := h.put c (some ⟨5, [[.sl la 5 0 12, I r, I f, I x, v]]⟩)) (c' := c + 1) (by omega) (fun l _ hl => by simp [show ¬ (l = c) by omega])) M hm (by simp) (fun l hl _ => by simp [hl])
  have hfr1 : ∀ l, ¬ Q l → ((h.put c (some ⟨5, [[.sl la 5 0 12, I r, I f, I x, v]]⟩)).put la (some ⟨5, rows.set m shutC⟩)) l = h l := fun l hl => by simp [show ¬ (l = la) from fun e => hl (e ▸ O.sep4.1), show ¬ (l = c) from fun e => hl (e ▸ O.fr c (Nat.le_refl _))]
  have X4 : ∀ a ∈ accs.set m shutA, a.parts.length = 4 := by
    intro a ha
    rcases List.mem_or_eq_of_mem_set ha with ha | rfl
    · exact hl4 a ha
    · rfl
  have hshut : shutL m accs = shN m (accs.set m shutA) 12 := rfl
  have hXl : (accs.set m shutA).length = 12 := by rw [List.length_set]; exact O.alen
  have hrl : (rows.set m shutC).length = 12 := by rw [List.length_set]; exact O.len
  refine count_to (R := R) 12 (fun i s => s.t 1 = I m ∧ s.t 14 = .sl la 5 0 12 ∧ s.t 15 = I 12 ∧ s.t 16 = I i ∧ c ≤ s.c ∧ (∀ l, ¬ Q l → s.h l = h l) ∧ Own Q s.c s.h la v (shN m (accs.set m shutA) i) book (rows.set m shutC) ∧ Shut m (rows.set m shutC) (shN m (accs.set m shutA) i)) _ ?_ ?_ ?_
  · simp -implicitDefEqProofs
    exact ⟨hfr1, O1, S1⟩
  · revert X4 hshut hXl hrl
    generalize accs.set m shutA = X
    generalize rows.set m shutC = rs
    intro X4 hshut hXl hrl
    rintro i ⟨t, h2, d⟩ ⟨t1, t14, t15, t16, hc, hfr, O2, S2⟩ hi
    simp only at t1 t14 t15 t16 hc hfr O2
    have hla2 := O2.hla
    have hii : (i : Int) < 12 := by omega
    have ki : decide ((i : Int) < 12) = true := decide_eq_true hii
    have hiX : i < X.length := by omega
    have hXi : X[i]? = some X[i] := List.getElem?_eq_getElem hiX
    have hSi : (shN m X i)[i]? = some X[i] := by rw [shN_get _ _ i i (Nat.le_refl _)]; exact hXi
    have hl4i := X4 _ (List.getElem_mem hiX)
    have wi : IntKind.i64.wrap ((i : Int) + 1) = ((i + 1 : Nat) : Int) := wrap_succ (by omega)
    have hirs : i < rs.length := by omega
    have ld : la < d := O2.sep4.2
    have u1 : ¬ (d = la) := by omega
    have u2 : ¬ (la = d) := by omega
    have e0 : (shN m X i).set i (goneA m X[i] 0) = shN m X i := by
      have : goneA m X[i] 0 = X[i] := by unfold goneA; rw [goneTo_zero]
      rw [this]
      have hl : i < (shN m X i).length := by rw [shN_len]; exact hiX
      rw [List.getElem?_eq_getElem hl] at hSi
      rw [← Option.some.inj hSi, List.set_getElem_self]
    obtain ⟨a, vp, vl, ha, hrw, hvp, hvl⟩ := O2.get hi
    rw [hSi] at ha
    cases ha
    have hr' : rs[i] = [B X[i].opn, I X[i].cash, I X[i].loan, vp, vl] := by rw [List.getElem?_eq_getElem hirs] at hrw; exact Option.some.inj hrw
    obtain ⟨o', x', y', vp', vl', e', f1, f2⟩ := S2 i _ _ hrw hSi
    simp only [List.cons.injEq, and_true] at e'
    obtain ⟨_, _, _, rfl, rfl⟩ := e'
    have okl : okc vl = true := by
      rcases f1 with f1 | ⟨z, l, rfl, _⟩
      · exact slv_okc f1
      · rfl
    unfold okc at okl
    rcases f2 with f2 | ⟨⟨z, l, rfl, hz⟩, hne⟩
    · obtain ⟨lq, off, n, rfl⟩ : ∃ l off n, vp = .sl l 1 off n := by
        rcases f2 with h | rfl | rfl
        · exact h
        · have := congrArg List.length (Option.some.inj hvp); simp [hl4i] at this
        · have := congrArg List.length (Option.some.inj hvp); simp [hl4i] at this
      obtain ⟨_, _, _, _, b4⟩ := els_sl hvp
      have b5 : n = 4 := by simpa [hl4i] using b4.symm
      subst b5
      have at3 := O2.sep2 i 3 lq ⟨_, _, hrw, rfl, by simp⟩
      have hqq := at3.2.2.1
      have dq : ¬ (d = lq) := by have := at3.2.2.2; omega
      have dq' : ¬ (lq = d) := fun e => dq e.symm
      simp -implicitDefEqProofs [t1, t14, t15, t16, hla2, hirs, hr', hi, hii, ki, u1, u2, okl, obm, Option.bind_assoc, -decide_eq_true_eq]
      refine count_to (R := GoesOn _) 4 (fun k s => s.t 1 = I m ∧ s.t 5 = .ptr d 0 0 ∧ s.t 14 = .sl la 5 0 12 ∧ s.t 15 = I 12 ∧ s.t 16 = I i ∧ s.t 21 = .sl lq 1 off 4 ∧ s.t 22 = I 4 ∧ s.t 23 = I k ∧ s.c = d + 1 ∧ s.h d = some ⟨5, [[B X[i].opn, I X[i].cash, I X[i].loan, .sl lq 1 off 4, vl]]⟩ ∧ (∀ l, ¬ Q l → s.h l = h l) ∧ Own Q (d + 1) s.h la v ((shN m X i).set i (goneA m X[i] k)) book rs ∧ Shut m rs ((shN m X i).set i (goneA m X[i] k))) _ ?_ ?_ ?_
      · simp -implicitDefEqProofs [t1, t14, t15, t16, e0, u1, u2]
        refine ⟨fun y hy => by simp [show ¬ (y = d) from fun e => hy (e ▸ O2.fr d (Nat.le_refl _)), hfr y hy], O2.frame (by omega) (fun y hq hyc => by simp [show ¬ (y = d) by omega]), S2⟩
      · rintro k ⟨t, h3, c3⟩ ⟨t1, t5, t14, t15, t16, t21, t22, t23, hc3, hd3, hfr3, O3, S3⟩ hk
        simp only at t1 t5 t14 t15 t16 t21 t22 t23 hc3 hd3 hfr3 O3
        subst hc3
        have hki : (k : Int) < 4 := by omega
        have kk : decide ((k : Int) < 4) = true := decide_eq_true hki
        have wk : IntKind.i64.wrap ((k : Int) + 1) = ((k + 1 : Nat) : Int) := wrap_succ (by omega)
        have hlS : i < (shN m X i).length := by rw [shN_len]; exact hiX
        have hYi : ((shN m X i).set i (goneA m X[i] k))[i]? = some (goneA m X[i] k) := by rw [List.getElem?_set, if_pos rfl, if_pos hlS]
        obtain ⟨a, vp2, vl2, ha, hrw2, hvp2, hvl2⟩ := O3.get hi
        rw [hYi] at ha
        cases ha
        rw [hrw] at hrw2
        simp only [Option.some.injEq, List.cons.injEq, and_true] at hrw2
        obtain ⟨_, _, _, rfl, rfl⟩ := hrw2
        have hrw' : rs[i]? = some (rw5 (goneA m X[i] k).opn (goneA m X[i] k).cash (goneA m X[i] k).loan (.sl lq 1 off 4) vl) := hrw
        have hkp : k < X[i].parts.length := by omega
        have hgk : (goneA m X[i] k).parts[k]? = some X[i].parts[k] := by
          show (goneTo m X[i].parts k)[k]? = _
          rw [goneTo_get, if_neg (by omega)]
          exact List.getElem?_eq_getElem hkp
        have hg4 : (goneA m X[i] k).parts.length = 4 := by show (goneTo m X[i].parts k).length = 4; rw [goneTo_len]; exact hl4i
        obtain ⟨BB, b1, b2, b3, b4⟩ := els_sl hvp2
        obtain ⟨hlt3, hcell⟩ := row_elem b2 b3 hk hgk
        cases hit : (X[i].parts[k] == (m : Int))
        · simp -implicitDefEqProofs [t1, t5, t14, t15, t16, t21, t22, t23, hd3, hki, hk, kk, wk, b1, hlt3, hcell, hit, -decide_eq_true_eq]
          rw [goneA_same hkp hit]
          exact ⟨hfr3, O3, S3⟩
        · simp -implicitDefEqProofs [t1, t5, t14, t15, t16, t21, t22, t23, hd3, hki, hk, kk, wk, b1, hlt3, hcell, hit, dq, dq', -decide_eq_true_eq]
          rw [goneA_hit hkp hit]
          have O4 := O3.part (x := -1) (k := k) (h' := h3.put lq (some ⟨BB.sz, BB.es.set (off + k) [I (-1)]⟩)) hi hYi hrw' b1 b2 b3 hvl2 hk (by simp) (fun y hy _ _ => by simp [hy])
          rw [List.set_set] at O4
          have S4 := S3.set (a' := { goneA m X[i] k with parts := (goneA m X[i] k).parts.set k (-1) }) hYi (fun h q hq => by
            rcases List.mem_or_eq_of_mem_set hq with hq | rfl
            · exact h q hq
            · omega)
          rw [List.set_set] at S4
          exact ⟨fun y hy => by simp [show ¬ (y = lq) from fun e => hy (e ▸ hqq), hfr3 y hy], O4, S4⟩
      · rintro ⟨t, h3, c3⟩ ⟨t1, t5, t14, t15, t16, t21, t22, t23, hc3, hd3, hfr3, O3, S3⟩
        simp only at t1 t5 t14 t15 t16 t21 t22 t23 hc3 hd3 hfr3 O3
        subst hc3
        rw [← shN_succ (m : Int) hXi] at O3 S3
        simp -implicitDefEqProofs [t1, t14, t15, t16, t22, t23, wi]
        exact ⟨by omega, hfr3, O3, S3⟩
    · have hl0 : l.length = 4 := by have := congrArg List.length (Option.some.inj hvp); simpa [hl4i] using this
      have hns : ¬ SlV 1 (.ro z (ints l)) := by
        rintro (⟨_, _, _, h⟩ | h | h)
        · cases h
        · cases h
        · simp only [AV.ro.injEq] at h
          have := congrArg List.length h.2
          simp [hl0] at this
      simp -implicitDefEqProofs [t1, t14, t15, t16, hla2, hirs, hr', hi, hii, ki, u1, u2, okl, hl0, obm, Option.bind_assoc, -decide_eq_true_eq]
      refine count_to (R := GoesOn _) 4 (fun k s => s.t 1 = I m ∧ s.t 5 = .ptr d 0 0 ∧ s.t 14 = .sl la 5 0 12 ∧ s.t 15 = I 12 ∧ s.t 16 = I i ∧ s.t 21 = .ro z (ints l) ∧ s.t 22 = I 4 ∧ s.t 23 = I k ∧ s.c = d + 1 ∧ s.h d = some ⟨5, [[B X[i].opn, I X[i].cash, I X[i].loan, .ro z (ints l), vl]]⟩ ∧ (∀ l, ¬ Q l → s.h l = h l) ∧ Own Q (d + 1) s.h la v ((shN m X i).set i (goneA m X[i] k)) book rs ∧ Shut m rs ((shN m X i).set i (goneA m X[i] k))) _ ?_ ?_ ?_
      · simp -implicitDefEqProofs [t1, t14, t15, t16, e0, u1, u2, hl0]
        refine ⟨fun y hy => by simp [show ¬ (y = d) from fun e => hy (e ▸ O2.fr d (Nat.le_refl _)), hfr y hy], O2.frame (by omega) (fun y hq hyc => by simp [show ¬ (y = d) by omega]), S2⟩
      · rintro k ⟨t, h3, c3⟩ ⟨t1, t5, t14, t15, t16, t21, t22, t23, hc3, hd3, hfr3, O3, S3⟩ hk
        simp only at t1 t5 t14 t15 t16 t21 t22 t23 hc3 hd3 hfr3 O3
        subst hc3
        have hki : (k : Int) < 4 := by omega
        have kk : decide ((k : Int) < 4) = true := decide_eq_true hki
        have wk : IntKind.i64.wrap ((k : Int) + 1) = ((k + 1 : Nat) : Int) := wrap_succ (by omega)
        have hlS : i < (shN m X i).length := by rw [shN_len]; exact hiX
        have hYi : ((shN m X i).set i (goneA m X[i] k))[i]? = some (goneA m X[i] k) := by rw [List.getElem?_set, if_pos rfl, if_pos hlS]
        obtain ⟨a, vp2, vl2, ha, hrw2, hvp2, hvl2⟩ := O3.get hi
        rw [hYi] at ha
        cases ha
        rw [hrw] at hrw2
        simp only [Option.some.injEq, List.cons.injEq, and_true] at hrw2
        obtain ⟨_, _, _, rfl, rfl⟩ := hrw2
        have hrw' : rs[i]? = some (rw5 (goneA m X[i] k).opn (goneA m X[i] k).cash (goneA m X[i] k).loan (.ro z (ints l)) vl) := hrw
        have hkp : k < X[i].parts.length := by omega
        have hgk : (goneA m X[i] k).parts[k]? = some X[i].parts[k] := by
          show (goneTo m X[i].parts k)[k]? = _
          rw [goneTo_get, if_neg (by omega)]
          exact List.getElem?_eq_getElem hkp
        have hg4 : (goneA m X[i] k).parts.length = 4 := by show (goneTo m X[i].parts k).length = 4; rw [goneTo_len]; exact hl4i
        have hl : l = (goneA m X[i] k).parts := ints_inj (Option.some.inj hvp2)
        have hkg : k < l.length := by rw [hl]; omega
        have hge : l[k] = X[i].parts[k] := by
          have := hgk
          rw [← hl, List.getElem?_eq_getElem hkg] at this
          exact Option.some.inj this
        have hit : (X[i].parts[k] == (m : Int)) = false := by
          obtain ⟨o', x', y', vp', vl', e', f1, f2⟩ := S3 i _ _ hrw' hYi
          simp only [List.cons.injEq, and_true] at e'
          obtain ⟨_, _, _, rfl, rfl⟩ := e'
          rcases f2 with f2 | ⟨_, hne⟩
          · exact absurd f2 hns
          · have := hne _ (List.mem_of_getElem? hgk)
            simpa using this
        simp -implicitDefEqProofs [t1, t5, t14, t15, t16, t21, t22, t23, hd3, hki, hk, kk, wk, hkg, hge, hit, -decide_eq_true_eq]
        rw [goneA_same hkp hit]
        exact ⟨hfr3, O3, S3⟩
      · rintro ⟨t, h3, c3⟩ ⟨t1, t5, t14, t15, t16, t21, t22, t23, hc3, hd3, hfr3, O3, S3⟩
        simp only at t1 t5 t14 t15 t16 t21 t22 t23 hc3 hd3 hfr3 O3
        subst hc3
        rw [← shN_succ (m : Int) hXi] at O3 S3
        simp -implicitDefEqProofs [t1, t14, t15, t16, t22, t23, wi]
        exact ⟨by omega, hfr3, O3, S3⟩
  · rintro ⟨t, h2, d⟩ ⟨t1, t14, t15, t16, hc, hfr, O2, S2⟩
    simp only at t1 t14 t15 t16 hc hfr O2
    simp -implicitDefEqProofs [t1, t14, t15, t16]
    rw [← hshut] at O2 S2
    exact kR _ _ _ hfr hc O2 (S2.mineW hrl O2.alen)
end Go.Proofs.Ytdckleaemkcapaa.AM
namespace Go.Proofs.Ytdckleaemkcapaa.AM
open Go Go.Proofs
attribute [local simp] AV.cells okc AV.isBad fieldAddrA ld setCells stA skipV appendA hd makeA bnd sliceA kindA freshA killOk loadsAt newT empT lay_get allocA buildA buildRow builtinA lenA els indexAddrA isNil opA evA lit yldA binA binI unA pickA boolV intV fieldA mk flat lf lf.lfs frz
def shutB (m : Nat) (X : Bnk) : Bnk := ⟨false, shutL m X.accs, X.rate, X.infl, X.idx, false, X.book⟩
def windP (b : Bnk) (co : Int) : Int × Bnk := bif chkP b [co] == 0 then bif (bkP b co 9 (-(accAt b co).cash)).1 == 0 then (0, shutB co.toNat (bkP b co 9 (-(accAt b co).cash)).2) else (10, noB) else (chkP b [co], noB)
theorem shutL_small {m : Nat} {X : List Acc} (h : Small X) : Small (shutL m X) := shN_small m (small_set h (by simp [shutA]) (by simp [shutA])) 12
theorem rwind_x (b : Bnk) (w : b.Wfb) (co : Int) : PostB (windP b co).1 (windP b co).2 (run Try.prog (mdT tblB) 50 [.agg (bc b), I co] Heap.none 0) := by
  have hk := fun v h c hv => rchk_c b w [co] (by simp) v h c hv
  generalize hr : windP b co = r
  unfold windP at hr
  rw [run_eq, show mdT tblB 50 = some .pure from rfl, Option.bind_some, Try.func50]
  by_cases g0 : chkP b [co] = 0
  case neg =>
    have g1 : (chkP b [co] == 0) = false := by simpa using g0
    have g2 : (chkP b [co] != 0) = true := by simp [bne, g1]
    rw [g1] at hr
    simp only [cond_false] at hr
    subst hr
    simp -implicitDefEqProofs [depth, Try.f50, hk, g2]
    exact post_err _ _ _
  rw [g0] at hk
  obtain ⟨vb, gg⟩ := chk_zero g0
  obtain ⟨n0, n1, hml, hop⟩ := gg co (by simp)
  rw [g0] at hr
  simp only [BEq.rfl, cond_true] at hr
  obtain ⟨m, rfl⟩ : ∃ m : Nat, co = m := ⟨co.toNat, by omega⟩
  simp only [Int.toNat_natCast] at hml hr
  have hm : m < 12 := by have := vb.len; omega
  have hmi : (m : Int) < 12 := by omega
  have haa : accAt b m = b.accs[m] := by unfold accAt; simp [hml]
  have aok := vb.accs _ (List.getElem_mem hml)
  have acash := aok.cash
  have l4 : ∀ a ∈ b.accs, a.parts.length = 4 := fun a ha => (vb.accs a ha).lp
  have wn : IntKind.i64.wrap (-b.accs[m].cash) = -b.accs[m].cash := wrap_id (by omega) (by omega)
  unfold bkP at hr
  rw [haa] at hr
  simp -implicitDefEqProofs [depth, Try.f50, hk, obm, Option.bind_assoc]
  refine copy_to (.inl rfl) b vb w _ _ _ ?_
  intro h1 c1 la v rows hc hlow O M
  have h0 : h1 0 = some ⟨5, [bc b]⟩ := by rw [hlow 0 (by omega)]; simp
  have h1' : h1 1 = some ⟨5, [noC]⟩ := by rw [hlow 1 (by omega)]; simp
  have hla := O.hla
  have hlt : m < rows.length := by rw [O.len]; exact hm
  obtain ⟨a, vp, vl, ha, hrw, hvp, hvl⟩ := O.get hm
  rw [List.getElem?_eq_getElem hml] at ha
  cases ha
  have hr' : rows[m] = [B b.accs[m].opn, I b.accs[m].cash, I b.accs[m].loan, vp, vl] := by rw [List.getElem?_eq_getElem hlt] at hrw; exact Option.some.inj hrw
  have lge := O.sep4.1
  have lc1 := O.sep4.2
  have q1 : ¬ (la = 0) := by omega
  have q2 : ¬ (0 = la) := by omega
  have q3 : ¬ (la = 1) := by omega
  have q4 : ¬ (1 = la) := by omega
  have hv1 := slv_cells O.bkv
  have hv2 := slv_okc O.bkv
  unfold AV.cells at hv1
  unfold okc at hv2
  simp -implicitDefEqProofs [-frz, h0, h1', hla, hlt, hr', hm, hmi, wn, q1, q2, q3, q4, hv1, hv2, obm, Option.bind_assoc]
  have hbk := vb.book
  have ham : b.accs[m]? = some b.accs[m] := List.getElem?_eq_getElem hml
  refine book_to (Q := fun l => 3 ≤ l) (p := 0) (la := la) (v := v) (r := b.rate) (f := b.infl) (x := b.idx) _ _ _ (by simp [q1, q2, q3, q4]) (by simp) (O.frame (Nat.le_refl _) (fun l hl hlc => by simp [show ¬ (l = 0) by omega, lay_get])) M hm ham acash (by omega) (by omega) ?_ ?_ ?_
  · intro e
    have e1 : ((-b.accs[m].cash : Int) == 0) = true := by simpa using e
    rw [e1] at hr
    simp only [cond_true, BEq.rfl] at hr
    subst hr
    simp -implicitDefEqProofs [-frz, q1, q2, q3, q4, hv1, hv2, obm, Option.bind_assoc]
    refine rshut_to _ _ _ (p := 0) (la := la) (r := b.rate) (f := b.infl) (x := b.idx) (by simp [q1, q2, q3, q4]) (by simp) (O.frame (Nat.le_refl _) (fun l hl hlc => by simp [show ¬ (l = 0) by omega, lay_get])) M hm l4 ?_
    intro h3 c3 rows3 hf3 hc3 O3 M3
    have h30 : h3 0 = some ⟨5, [[.sl la 5 0 12, I b.rate, I b.infl, I b.idx, v]]⟩ := by rw [hf3 0 (by simp)]; simp [q1, q2, q3, q4]
    have h31 : h3 1 = some ⟨5, [noC]⟩ := by rw [hf3 1 (by simp)]; simp [q1, q2, q3, q4, h1']
    simp -implicitDefEqProofs [-frz, h30, h31, hv1, hv2]
    have O4 := O3.frame (h' := h3.put 1 (some ⟨5, [[.sl la 5 0 12, I b.rate, I b.infl, I b.idx, v]]⟩)) (Nat.le_refl _) (fun l hl hlc => by simp [show ¬ (l = 1) by omega])
    exact post_nrm rfl (post_ownW O4 M3 _ _ _ (by have := vb.book; omega) (shutL_small (small_of vb)))
  · intro e hbad
    have e1 : ((-b.accs[m].cash : Int) == 0) = false := by simpa using e
    rw [e1, hbad] at hr
    simp only [cond_true, cond_false, show ((10 : Int) == 0) = false from rfl] at hr
    subst hr
    simp -implicitDefEqProofs [-frz, h1', q1, q2, q3, q4]
    exact post_err _ _ _
  · intro e hbad h2 c2 v2 rows2 p0 pk hc2 O2 M2
    have e1 : ((-b.accs[m].cash : Int) == 0) = false := by simpa using e
    rw [e1, hbad] at hr
    simp only [cond_false, BEq.rfl, cond_true] at hr
    subst hr
    have h21 : h2 1 = some ⟨5, [noC]⟩ := by rw [pk 1 (by simp) (by omega)]; simp [q1, q2, q3, q4, h1']
    have hw1 := slv_cells O2.bkv
    have hw2 := slv_okc O2.bkv
    unfold AV.cells at hw1
    unfold okc at hw2
    simp -implicitDefEqProofs [-frz, p0, h21, hw1, hw2, q1, q2, q3, q4, obm, Option.bind_assoc]
    refine rshut_to _ _ _ (p := 0) (la := la) (r := b.rate) (f := b.infl) (x := b.idx) p0 (by simp) O2 M2 hm (fun a ha => by rcases List.mem_or_eq_of_mem_set ha with ha | rfl; exact l4 a ha; exact aok.lp) ?_
    intro h3 c3 rows3 hf3 hc3 O3 M3
    have h30 : h3 0 = some ⟨5, [[.sl la 5 0 12, I b.rate, I b.infl, I b.idx, v2]]⟩ := by rw [hf3 0 (by simp)]; exact p0
    have h31 : h3 1 = some ⟨5, [noC]⟩ := by rw [hf3 1 (by simp)]; exact h21
    simp -implicitDefEqProofs [-frz, h30, h31, hw1, hw2]
    have O4 := O3.frame (h' := h3.put 1 (some ⟨5, [[.sl la 5 0 12, I b.rate, I b.infl, I b.idx, v2]]⟩)) (Nat.le_refl _) (fun l hl hlc => by simp [show ¬ (l = 1) by omega])
    exact post_nrm rfl (post_ownW O4 M3 _ _ _ (by have := bookBad_false hbad; simp; omega) (shutL_small (small_set (small_of vb) (by have := aok.lp; simp only; omega) (by have := vb.last _ (List.getElem_mem hml); simp only; omega))))
theorem bwind_x (b : Bnk) (w : b.Wfb) (co : Int) : PostB (windP b co).1 (windP b co).2 (run Try.prog (mdT tblB) 52 [.agg (bc b), I co] Heap.none 0) := by
  have hk := fun v h c hv => bchk_c b w [co] (by simp) v h c hv
  generalize hr : windP b co = r
  unfold windP at hr
  rw [run_eq, show mdT tblB 52 = some .pure from rfl, Option.bind_some, Try.func52]
  by_cases g0 : chkP b [co] = 0
  case neg =>
    have g1 : (chkP b [co] == 0) = false := by simpa using g0
    have g2 : (chkP b [co] != 0) = true := by simp [bne, g1]
    rw [g1] at hr
    simp only [cond_false] at hr
    subst hr
    simp -implicitDefEqProofs [depth, Try.f52, hk, g2]
    exact post_err _ _ _
  rw [g0] at hk
  obtain ⟨vb, gg⟩ := chk_zero g0
  obtain ⟨n0, n1, hml, hop⟩ := gg co (by simp)
  rw [g0] at hr
  simp only [BEq.rfl, cond_true] at hr
  obtain ⟨m, rfl⟩ : ∃ m : Nat, co = m := ⟨co.toNat, by omega⟩
  simp only [Int.toNat_natCast] at hml hr
  have hm : m < 12 := by have := vb.len; omega
  have hmi : (m : Int) < 12 := by omega
  have haa : accAt b m = b.accs[m] := by unfold accAt; simp [hml]
  have aok := vb.accs _ (List.getElem_mem hml)
  have acash := aok.cash
  have l4 : ∀ a ∈ b.accs, a.parts.length = 4 := fun a ha => (vb.accs a ha).lp
  have wn : IntKind.i64.wrap (-b.accs[m].cash) = -b.accs[m].cash := wrap_id (by omega) (by omega)
  unfold bkP at hr
  rw [haa] at hr
  simp -implicitDefEqProofs [depth, Try.f52, hk, obm, Option.bind_assoc]
  refine copy_to (.inr rfl) b vb w _ _ _ ?_
  intro h1 c1 la v rows hc hlow O M
  have h0 : h1 0 = some ⟨5, [bc b]⟩ := by rw [hlow 0 (by omega)]; simp
  have h1' : h1 1 = some ⟨5, [noC]⟩ := by rw [hlow 1 (by omega)]; simp
  have hla := O.hla
  have hlt : m < rows.length := by rw [O.len]; exact hm
  obtain ⟨a, vp, vl, ha, hrw, hvp, hvl⟩ := O.get hm
  rw [List.getElem?_eq_getElem hml] at ha
  cases ha
  have hr' : rows[m] = [B b.accs[m].opn, I b.accs[m].cash, I b.accs[m].loan, vp, vl] := by rw [List.getElem?_eq_getElem hlt] at hrw; exact Option.some.inj hrw
  have lge := O.sep4.1
  have lc1 := O.sep4.2
  have q1 : ¬ (la = 0) := by omega
  have q2 : ¬ (0 = la) := by omega
  have q3 : ¬ (la = 1) := by omega
  have q4 : ¬ (1 = la) := by omega
  have d1 : ¬ (c1 = 0) := by omega
  have d2 : ¬ (0 = c1) := by omega
  have d3 : ¬ (c1 = 1) := by omega
  have d4 : ¬ (1 = c1) := by omega
  have d5 : ¬ (c1 = la) := by omega
  have d6 : ¬ (la = c1) := by omega
  have d7 : ¬ (c1 ≤ la) := by omega
  have d8 : ¬ (c1 ≤ 0) := by omega
  have d9 : ¬ (c1 ≤ 1) := by omega
  have hv1 := slv_cells O.bkv
  have hv2 := slv_okc O.bkv
  unfold AV.cells at hv1
  unfold okc at hv2
  simp -implicitDefEqProofs [-frz, h0, h1', hla, hlt, hr', hm, hmi, wn, q1, q2, q3, q4, d1, d2, d3, d4, d5, d6, d7, d8, d9, booking_c, hv1, hv2, obm, Option.bind_assoc]
  have hbk := vb.book
  have ham : b.accs[m]? = some b.accs[m] := List.getElem?_eq_getElem hml
  refine book91_to (Q := fun l => 3 ≤ l ∧ l ≠ c1) (d := c1) (p := 0) (la := la) (v := v) (r := b.rate) (f := b.infl) (x := b.idx) _ _ _ (by simp [q1, q2, q3, q4, d1, d2, d3, d4, d5, d6, d7, d8, d9]) (by simp) ((O.excl (Nat.le_refl c1)).frame (Nat.le_refl _) (fun l hl hlc => by simp [show ¬ (l = 0) by omega, hl.2, lay_get])) M hm ham acash (by omega) (by omega) (by simp [d1, d2]) (by simp) (by omega) ?_ ?_ ?_
  · intro e
    have e1 : ((-b.accs[m].cash : Int) == 0) = true := by simpa using e
    rw [e1] at hr
    simp only [cond_true, BEq.rfl] at hr
    subst hr
    simp -implicitDefEqProofs [-frz, q1, q2, q3, q4, d1, d2, d3, d4, d5, d6, d7, d8, d9, hv1, hv2, obm, Option.bind_assoc]
    refine bshut_to _ _ _ ((O.excl (Nat.le_refl c1)).frame (Nat.le_refl _) (fun l hl hlc => by simp [show ¬ (l = 0) by omega, hl.2, lay_get])) M hm l4 ?_
    intro h3 c3 rows3 hf3 hc3 O3 M3
    have h30 : h3 0 = some ⟨5, [[.sl la 5 0 12, I b.rate, I b.infl, I b.idx, v]]⟩ := by rw [hf3 0 (by simp)]; simp [q1, q2, q3, q4, d1, d2, d3, d4, d5, d6, d7, d8, d9]
    have h31 : h3 1 = some ⟨5, [noC]⟩ := by rw [hf3 1 (by simp)]; simp [q1, q2, q3, q4, d1, d2, d3, d4, d5, d6, d7, d8, d9, h1']
    simp -implicitDefEqProofs [-frz, h30, h31, hv1, hv2]
    have O4 := O3.frame (h' := h3.put 1 (some ⟨5, [[.sl la 5 0 12, I b.rate, I b.infl, I b.idx, v]]⟩)) (Nat.le_refl _) (fun l hl hlc => by simp [show ¬ (l = 1) by omega])
    exact post_nrm rfl (post_ownW O4 M3 _ _ _ (by have := vb.book; omega) (shutL_small (small_of vb)))
  · intro e hbad
    have e1 : ((-b.accs[m].cash : Int) == 0) = false := by simpa using e
    rw [e1, hbad] at hr
    simp only [cond_true, cond_false, show ((10 : Int) == 0) = false from rfl] at hr
    subst hr
    simp -implicitDefEqProofs [-frz, h1', q1, q2, q3, q4, d1, d2, d3, d4, d5, d6, d7, d8, d9]
    exact post_err _ _ _
  · intro e hbad h2 c2 v2 rows2 p0 pk hc2 O2 M2
    have e1 : ((-b.accs[m].cash : Int) == 0) = false := by simpa using e
    rw [e1, hbad] at hr
    simp only [cond_false, BEq.rfl, cond_true] at hr
    subst hr
    have h21 : h2 1 = some ⟨5, [noC]⟩ := by rw [pk 1 (by simp) (by omega)]; simp [q1, q2, q3, q4, d1, d2, d3, d4, d5, d6, d7, d8, d9, h1']
    have hw1 := slv_cells O2.bkv
    have hw2 := slv_okc O2.bkv
    unfold AV.cells at hw1
    unfold okc at hw2
    simp -implicitDefEqProofs [-frz, p0, h21, hw1, hw2, q1, q2, q3, q4, d1, d2, d3, d4, d5, d6, d7, d8, d9, obm, Option.bind_assoc]
    refine bshut_to _ _ _ O2 M2 hm (fun a ha => by rcases List.mem_or_eq_of_mem_set ha with ha | rfl; exact l4 a ha; exact aok.lp) ?_
    intro h3 c3 rows3 hf3 hc3 O3 M3
    have h30 : h3 0 = some ⟨5, [[.sl la 5 0 12, I b.rate, I b.infl, I b.idx, v2]]⟩ := by rw [hf3 0 (by simp)]; exact p0
    have h31 : h3 1 = some ⟨5, [noC]⟩ := by rw [hf3 1 (by simp)]; exact h21
    simp -implicitDefEqProofs [-frz, h30, h31, hw1, hw2]
    have O4 := O3.frame (h' := h3.put 1 (some ⟨5, [[.sl la 5 0 12, I b.rate, I b.infl, I b.idx, v2]]⟩)) (Nat.le_refl _) (fun l hl hlc => by simp [show ¬ (l = 1) by omega])
    exact post_nrm rfl (post_ownW O4 M3 _ _ _ (by have := bookBad_false hbad; simp; omega) (shutL_small (small_set (small_of vb) (by have := aok.lp; simp only; omega) (by have := vb.last _ (List.getElem_mem hml); simp only; omega))))
end Go.Proofs.Ytdckleaemkcapaa.AM
