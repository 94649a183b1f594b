/- Texts of the proof: part Z25. -/
import Derived.Test.YtmpcjfkfgjpebaaGreatDoorZ24
set_option maxHeartbeats 0
set_option maxRecDepth 8000
set_option linter.unusedSimpArgs false
set_option linter.unusedVariables false
set_option linter.unusedSectionVars false
namespace Go.Proofs.YtmpcjfkfgjpebaaGreatDoor.AM
open Go Go.Proofs
attribute [local simp] fieldAddrA ld setCells stA skipV appendA hd makeA bnd kindA freshA killOk loadsAt edgesOn Region.binds newT empT lay_get allocA buildA buildRow lenA els indexAddrA isNil opA evA lit_int lit_bool lit_nil lit_nilf yldA binI unA pickA boolV intV fieldA mk eqs nilC mayP
theorem bytes_of_beq {a b : Str} : ((⟨a.toArray⟩ : ByteArray) == ⟨b.toArray⟩) = (a == b) := by
  cases h : (a == b)
  · cases h2 : ((⟨a.toArray⟩ : ByteArray) == ⟨b.toArray⟩)
    · rfl
    · exfalso
      have e := (MapKept.bytes_beq _ _).1 h2
      have : a = b := by
        have e2 := congrArg (fun x : ByteArray => x.data.toList) e
        simpa using e2
      rw [this] at h
      simp at h
  · have : a = b := by simpa using h
    rw [this]
    exact (MapKept.bytes_beq _ _).2 rfl
/-- What the map of names holds. -/
theorem names_get (x : Str) : ∀ (names : List Str) (i : Nat), ∃ r, mpGet ⟨x.toArray⟩ ((names.zipIdx i).map fun p => [S p.1, I (p.2 : Nat)]) = some r ∧ ((r = none ∧ x ∉ names) ∨ ∃ k, r = some (I ((k + i : Nat) : Int)) ∧ names[k]? = some x)
  | [], i => ⟨none, rfl, .inl ⟨rfl, by simp⟩⟩
  | y :: names, i => by
    simp only [List.zipIdx_cons, List.map_cons]
    have hS : S y = .val (.string ⟨y.toArray⟩) := rfl
    rw [hS]
    simp only [mpGet, bytes_of_beq]
    cases g : (y == x)
    · simp only [Bool.false_eq_true, if_false]
      obtain ⟨r, h1, h2⟩ := names_get x names (i + 1)
      refine ⟨r, h1, ?_⟩
      rcases h2 with ⟨h2, h3⟩ | ⟨k, h2, h3⟩
      · left
        refine ⟨h2, ?_⟩
        intro hm
        rcases List.mem_cons.1 hm with rfl | hm
        · simp at g
        · exact h3 hm
      · right
        exact ⟨k + 1, by rw [h2, show k + (i + 1) = k + 1 + i by omega], by simpa using h3⟩
    · simp only [if_true]
      have : y = x := by simpa using g
      exact ⟨_, rfl, .inr ⟨0, by simp, by simp [this]⟩⟩
/-- Where a name stands; 0 if nowhere. -/
theorem names_at (x : Str) (names : List Str) (h0 : 0 < names.length) : ∃ (r : Option AV) (k : Nat), mpGet ⟨x.toArray⟩ (rowsN names) = some r ∧ r.getD (I 0) = I (k : Nat) ∧ k < names.length ∧ (x ∈ names → names[k]? = some x) := by
  obtain ⟨r, h1, h2⟩ := names_get x names 0
  rcases h2 with ⟨rfl, h3⟩ | ⟨k, rfl, h3⟩
  · exact ⟨none, 0, h1, rfl, h0, fun h => absurd h h3⟩
  · exact ⟨_, k, h1, rfl, (List.getElem?_eq_some_iff.1 h3).1, fun _ => h3⟩
section
variable {nc ml : Nat} {h : Heap} {c : Nat} {names : List Str} {code : List Ln} {stk : List Bk} {nv cv bv : AV}
theorem place_ev (C : Cm nc ml h c names code stk nv cv bv) (h0 : 0 < names.length) (s : Str) (hl : s.length ≤ 100000) :
    ∃ k : Nat, callA mZ (run Tryz.prog mZ) 88 [.ptr nc 0 0, S s] h c = some (.tup [I k, S (cutP s).2.1, B ((cutP s).2.2 && nameP (cutP s).1)], h, c) ∧ k < names.length ∧ ((cutP s).1 ∈ names → names[k]? = some (cutP s).1) := by
  rw [call_heap rfl, run_eq (show mZ 88 = some .heap from rfl) rfl, Tryz.func88]
  have hb := C.blk
  have hm := C.mp
  have l1 := cutP_len s
  have e1 := fun h c => cut_c s (by omega) h c
  have e2 := fun h c => name_c (cutP s).1 (by omega) h c
  obtain ⟨r, k, h1, h2, h3, h4⟩ := names_at (cutP s).1 names h0
  refine ⟨k, ?_, h3, h4⟩
  generalize (cutP s).1 = x at *
  have hS : S x = .val (.string ⟨x.toArray⟩) := rfl
  generalize nameP x = nb at *
  cases g : (cutP s).2.2
  · rw [g] at e1
    rw [hS] at e1 e2
    simp -implicitDefEqProofs [Tryz.f88, hb, hm, e1, h1, h2, mpOf_blk, -decide_eq_true_eq, -decide_eq_false_iff_not, -List.any_eq_true, -List.any_eq_false, -bne_iff_ne, -beq_iff_eq, -beq_eq_false_iff_ne, -bne_eq_false_iff_eq]
  · rw [g] at e1
    rw [hS] at e1 e2
    simp -implicitDefEqProofs [Tryz.f88, hb, hm, e1, e2, h1, h2, mpOf_blk, -decide_eq_true_eq, -decide_eq_false_iff_not, -List.any_eq_true, -List.any_eq_false, -bne_iff_ne, -beq_iff_eq, -beq_eq_false_iff_ne, -bne_eq_false_iff_eq]
/-- An element is right. -/
def LnP (nn len : Nat) (l : Ln) : Prop := 0 ≤ l.kind ∧ l.kind ≤ 6 ∧
  ((l.kind = 0 ∨ l.kind = 4) → 0 ≤ l.nm ∧ l.nm < nn) ∧ (¬ (l.kind = 0 ∨ l.kind = 4) → l.nm = -1) ∧
  ((l.kind = 1 ∨ l.kind = 2) → 0 ≤ l.to ∧ l.to ≤ len) ∧ (¬ (l.kind = 1 ∨ l.kind = 2) → l.to = 0) ∧
  ((l.kind = 3 ∨ l.kind = 4) → 0 ≤ l.wd ∧ l.wd ≤ 99 ∧ l.bodies.length ≤ 6) ∧ (¬ (l.kind = 3 ∨ l.kind = 4) → l.wd = 0) ∧
  ((l.kind = 1 ∨ l.kind = 6) → l.bodies = []) ∧ ((l.kind = 0 ∨ l.kind = 2 ∨ l.kind = 5) → l.bodies.length = 1) ∧ BodOk (min nn 16) l.bodies
theorem LnP.more {nn len len' : Nat} {l : Ln} (h : LnP nn len l) (hl : len ≤ len') : LnP nn len' l := by
  obtain ⟨a1, a2, a3, a4, a5, a6, a7, a8, a9, a10, a11⟩ := h
  exact ⟨a1, a2, a3, a4, fun h => ⟨(a5 h).1, by have := (a5 h).2; omega⟩, a6, a7, a8, a9, a10, a11⟩
/-- Code and blocks are right. -/
def Good2 (nn : Nat) (code : List Ln) (stk : List Bk) : Prop := (∀ l ∈ code, LnP nn code.length l) ∧ StkOk code stk
theorem StkOk.app {code : List Ln} {stk : List Bk} (K : StkOk code stk) (l : Ln) : StkOk (code ++ [l]) stk := by
  intro b hb
  obtain ⟨⟨k, l1, h1, h2, h3⟩, h4⟩ := K b hb
  have hk := (List.getElem?_eq_some_iff.1 h2).1
  refine ⟨⟨k, l1, h1, by rw [List.getElem?_append_left hk]; exact h2, h3⟩, ?_⟩
  rcases h4 with h4 | ⟨k2, l2, h4, h5, h6⟩
  · exact .inl h4
  · have hk2 := (List.getElem?_eq_some_iff.1 h5).1
    exact .inr ⟨k2, l2, h4, by rw [List.getElem?_append_left hk2]; exact h5, h6⟩
theorem StkOk.set {code : List Ln} {stk : List Bk} (K : StkOk code stk) {k : Nat} {l : Ln} (hk : code[k]? = some l) (x : Int) : StkOk (code.set k { l with to := x }) stk := by
  have key : ∀ (j : Nat) (l1 : Ln), code[j]? = some l1 → ∃ l2, (code.set k { l with to := x })[j]? = some l2 ∧ l2.kind = l1.kind := by
    intro j l1 hj
    rw [List.getElem?_set]
    by_cases e : k = j
    · subst e
      rw [hk] at hj
      cases hj
      rw [if_pos rfl, if_pos (List.getElem?_eq_some_iff.1 hk).1]
      exact ⟨_, rfl, rfl⟩
    · rw [if_neg e]
      exact ⟨l1, hj, rfl⟩
  intro b hb
  obtain ⟨⟨j, l1, h1, h2, h3⟩, h4⟩ := K b hb
  obtain ⟨l2, h5, h6⟩ := key j l1 h2
  refine ⟨⟨j, l2, h1, h5, by rw [h6, h3]⟩, ?_⟩
  rcases h4 with h4 | ⟨k2, l3, h4, h7, h8⟩
  · exact .inl h4
  · obtain ⟨l4, h9, h10⟩ := key k2 l3 h7
    exact .inr ⟨k2, l4, h4, h9, by rw [h10, h8]⟩
theorem Good2.app {nn : Nat} {code : List Ln} {stk : List Bk} (K : Good2 nn code stk) (l : Ln) (hl : LnP nn (code.length + 1) l) : Good2 nn (code ++ [l]) stk := by
  refine ⟨fun x hx => ?_, K.2.app l⟩
  have e : (code ++ [l]).length = code.length + 1 := by simp
  rw [e]
  rcases List.mem_append.1 hx with hx | hx
  · exact (K.1 x hx).more (by omega)
  · simp at hx
    subst hx
    exact hl
theorem Good2.set {nn : Nat} {code : List Ln} {stk : List Bk} (K : Good2 nn code stk) {k : Nat} {l : Ln} (hk : code[k]? = some l) (hkind : l.kind = 1 ∨ l.kind = 2) (x : Nat) (hx : x ≤ code.length) : Good2 nn (code.set k { l with to := (x : Int) }) stk := by
  refine ⟨fun y hy => ?_, K.2.set hk x⟩
  rw [List.length_set]
  rcases List.mem_or_eq_of_mem_set hy with hy | rfl
  · exact K.1 y hy
  · obtain ⟨a1, a2, a3, a4, a5, a6, a7, a8, a9, a10, a11⟩ := K.1 l (List.mem_of_getElem? hk)
    exact ⟨a1, a2, a3, a4, fun _ => ⟨by simp, by simpa using hx⟩, fun h => absurd hkind h, a7, a8, a9, a10, a11⟩
theorem BodOk.one {na : Nat} {ops : List (Int × Int)} (h1 : Bal na ops) (h2 : ops.length ≤ 60) : BodOk na [ops] := fun b hb => by
  simp at hb
  subst hb
  exact ⟨h1, h2⟩
theorem BodOk.nil {na : Nat} : BodOk na [] := fun b hb => by cases hb
/-- What comes of a line. -/
def LOut (nc ml : Nat) (h : Heap) (c : Nat) (names : List Str) (nv : AV) (len slen : Nat) (Q : Prop) (o : Option (AV × Heap × Nat)) : Prop := ∃ (e : Int) (h' : Heap) (c' : Nat), o = some (E e, h', c') ∧ c ≤ c' ∧ Keep h c h' ∧
  (e = 0 → ∃ (code' : List Ln) (stk' : List Bk) (cv' bv' : AV), Cm nc ml h' c' names code' stk' nv cv' bv' ∧ Good2 names.length code' stk' ∧ code'.length ≤ len + 1 ∧ stk'.length ≤ slen + 1 ∧ Q)
theorem cutPre_c (orc : Orc) (s : Str) (h : Heap) (c : Nat) : callA mZ orc 89 [S s, S [61, 32]] h c = some (.tup [S (Lib.trimPrefix s [61, 32]), B (Lib.hasPrefix s [61, 32])], h, c) := extA (g := gCutP) rfl (fun _ => rfl) rfl rfl h c
theorem trimP_len (s p : Str) : (Lib.trimPrefix s p).length ≤ s.length := by
  unfold Lib.trimPrefix
  split
  · simp
  · exact Nat.le_refl _
/-- A LINE WITH A NAME. -/
theorem named_ev' (C : Cm nc ml h c names code stk nv cv bv) (K : Good2 names.length code stk) (h0 : 0 < names.length) (hn : names.length ≤ 100000) (hs : ∀ s ∈ names, s.length ≤ 1000000) (first s : Str) (hl : s.length ≤ 100000) (hcl : code.length ≤ 100000) :
    LOut nc ml h c names nv code.length stk.length ((cutP s).1 ∈ names → ∃ k, k < 16 ∧ names[k]? = some (cutP s).1) (callA mZ (run Tryz.prog mZ) 56 [.ptr nc 0 0, S first, S s] h c) := by
  rw [call_heap rfl, run_eq (show mZ 56 = some .heap from rfl) rfl, Tryz.func56]
  have l1 := cutP_len s
  obtain ⟨k, e1, hk, hkn⟩ := place_ev C h0 s hl
  cases g1 : ((cutP s).2.2 && nameP (cutP s).1)
  · rw [g1] at e1
    refine ⟨14, h, c, ?_, Nat.le_refl _, Keep.refl _ _, fun e => by cases e⟩
    simp -implicitDefEqProofs [Tryz.f56, e1, -decide_eq_true_eq, -decide_eq_false_iff_not, -List.any_eq_true, -List.any_eq_false, -bne_iff_ne, -beq_iff_eq, -beq_eq_false_iff_ne, -bne_eq_false_iff_eq]
  · rw [g1] at e1
    generalize hx : (cutP s).1 = x at *
    generalize hr : (cutP s).2.1 = r at *
    cases g2 : (first == wAsk)
    · have e2 := fun h c => cutPre_c (run Tryz.prog mZ) r h c
      cases g3 : Lib.hasPrefix r [61, 32]
      · rw [g3] at e2
        refine ⟨14, h, c, ?_, Nat.le_refl _, Keep.refl _ _, fun e => by cases e⟩
        simp -implicitDefEqProofs [Tryz.f56, e1, g2, e2, -decide_eq_true_eq, -decide_eq_false_iff_not, -List.any_eq_true, -List.any_eq_false, -bne_iff_ne, -beq_iff_eq, -beq_eq_false_iff_ne, -bne_eq_false_iff_eq]
      · rw [g3] at e2
        have hlt := trimP_len r [61, 32]
        generalize Lib.trimPrefix r [61, 32] = val at e2 hlt
        obtain ⟨e, h1, c1, e3, hc1, hk1, H⟩ := one_ev C h0 hn hs val (by omega) hcl 0 k
        cases g4 : (e == 0)
        · refine ⟨e, h1, c1, ?_, hc1, hk1, fun e0 => by rw [e0] at g4; cases g4⟩
          simp -implicitDefEqProofs [Tryz.f56, e1, g2, e2, e3, g4, -decide_eq_true_eq, -decide_eq_false_iff_not, -List.any_eq_true, -List.any_eq_false, -bne_iff_ne, -beq_iff_eq, -beq_eq_false_iff_ne, -bne_eq_false_iff_eq]
        · have ge : e = 0 := by simpa using g4
          subst ge
          cases g5 : decide ((16 : Int) ≤ (k : Int))
          · refine ⟨0, h1, c1, ?_, hc1, hk1, fun _ => ?_⟩
            · simp -implicitDefEqProofs [Tryz.f56, e1, g2, e2, e3, g5, -decide_eq_true_eq, -decide_eq_false_iff_not, -List.any_eq_true, -List.any_eq_false, -bne_iff_ne, -beq_iff_eq, -beq_eq_false_iff_ne, -bne_eq_false_iff_eq]
            · obtain ⟨ops, pv, cv', C1, Bo, q⟩ := H rfl
              refine ⟨_, _, _, _, C1, K.app _ ?_, by simp, by omega, fun hm => ⟨k, by rw [decide_eq_false_iff_not] at g5; omega, hkn hm⟩⟩
              exact ⟨by simp, by simp, fun _ => ⟨by simp, by simpa using hk⟩, fun h => absurd (.inl rfl) h, by simp, by simp, by simp, by simp, by simp, by simp, BodOk.one Bo q⟩
          · refine ⟨4, h1, c1, ?_, hc1, hk1, fun e => by cases e⟩
            simp -implicitDefEqProofs [Tryz.f56, e1, g2, e2, e3, g5, -decide_eq_true_eq, -decide_eq_false_iff_not, -List.any_eq_true, -List.any_eq_false, -bne_iff_ne, -beq_iff_eq, -beq_eq_false_iff_ne, -bne_eq_false_iff_eq]
    · obtain ⟨e, h1, c1, e3, hc1, hk1, H⟩ := asks_ev C h0 hn hs r (by omega) hcl 4 k
      cases g4 : (e == 0)
      · refine ⟨e, h1, c1, ?_, hc1, hk1, fun e0 => by rw [e0] at g4; cases g4⟩
        simp -implicitDefEqProofs [Tryz.f56, e1, g2, e3, g4, -decide_eq_true_eq, -decide_eq_false_iff_not, -List.any_eq_true, -List.any_eq_false, -bne_iff_ne, -beq_iff_eq, -beq_eq_false_iff_ne, -bne_eq_false_iff_eq]
      · have ge : e = 0 := by simpa using g4
        subst ge
        cases g5 : decide ((16 : Int) ≤ (k : Int))
        · refine ⟨0, h1, c1, ?_, hc1, hk1, fun _ => ?_⟩
          · simp -implicitDefEqProofs [Tryz.f56, e1, g2, e3, g5, -decide_eq_true_eq, -decide_eq_false_iff_not, -List.any_eq_true, -List.any_eq_false, -bne_iff_ne, -beq_iff_eq, -beq_eq_false_iff_ne, -bne_eq_false_iff_eq]
          · obtain ⟨pv, bodies, cv', C1, hb6, Bo, hw⟩ := H rfl
            refine ⟨_, _, _, _, C1, K.app _ ?_, by simp, by omega, fun hm => ⟨k, by rw [decide_eq_false_iff_not] at g5; omega, hkn hm⟩⟩
            have hw2 := numP_of hw
            exact ⟨by simp, by simp, fun _ => ⟨by simp, by simpa using hk⟩, fun h => absurd (.inr rfl) h, by simp, by simp, fun _ => ⟨hw2.1, hw2.2, hb6⟩, fun h => absurd (.inr rfl) h, by simp, by simp, Bo⟩
        · refine ⟨4, h1, c1, ?_, hc1, hk1, fun e => by cases e⟩
          simp -implicitDefEqProofs [Tryz.f56, e1, g2, e3, g5, -decide_eq_true_eq, -decide_eq_false_iff_not, -List.any_eq_true, -List.any_eq_false, -bne_iff_ne, -beq_iff_eq, -beq_eq_false_iff_ne, -bne_eq_false_iff_eq]
end
end Go.Proofs.YtmpcjfkfgjpebaaGreatDoor.AM
