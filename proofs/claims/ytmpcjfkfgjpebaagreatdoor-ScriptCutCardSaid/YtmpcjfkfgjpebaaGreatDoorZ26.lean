/- Texts of the proof: part Z26. -/
import Derived.Test.YtmpcjfkfgjpebaaGreatDoorZ25
set_option maxHeartbeats 0
set_option maxRecDepth 8000
set_option linter.unusedSimpArgs false
set_option linter.unusedVariables false
set_option linter.unusedSectionVars false
namespace Go.Proofs.YtmpcjfkfgjpebaaGreatDoor.AM
open Go Go.Proofs
attribute [local simp] fieldAddrA ld setCells stA skipV appendA hd makeA bnd kindA freshA killOk loadsAt edgesOn Region.binds newT empT lay_get allocA buildA buildRow lenA els indexAddrA isNil opA evA lit_int lit_bool lit_nil lit_nilf yldA binI unA pickA boolV intV fieldA mk eqs nilC mayP
theorem tel_else : telB ([101, 108, 115, 101] : Str) = false := by kernel_rfl
theorem tel_end : telB ([101, 110, 100] : Str) = false := by kernel_rfl
theorem tel_stop : telB ([115, 116, 111, 112] : Str) = false := by kernel_rfl
theorem tel_no {s : Str} (h1 : ((cutP s).1 == wLet) = false) (h2 : ((cutP s).1 == wAsk) = false) : telB s = false := by
  unfold telB
  rw [h1, h2]
  simp
theorem StkOk.init {code : List Ln} {stk : List Bk} {b : Bk} (K : StkOk code (stk ++ [b])) : StkOk code stk := fun x hx => K x (by simp [hx])
theorem else_good {nn : Nat} {code : List Ln} {stk0 : List Bk} {b : Bk} (K : Good2 nn code (stk0 ++ [b])) {k : Nat} {l : Ln} (hl : code[k]? = some l) (hk : l.kind = 2) :
    Good2 nn ((code ++ [(⟨1, -1, 0, 0, .ro true [], []⟩ : Ln)]).set k { l with to := ((code.length + 1 : Nat) : Int) }) (stk0 ++ [{ b with ot := code.length }]) := by
  have hkl := (List.getElem?_eq_some_iff.1 hl).1
  have hl2 : (code ++ [(⟨1, -1, 0, 0, .ro true [], []⟩ : Ln)])[k]? = some l := by rw [List.getElem?_append_left hkl]; exact hl
  have K1 : Good2 nn (code ++ [(⟨1, -1, 0, 0, .ro true [], []⟩ : Ln)]) (stk0 ++ [b]) := K.app _ ⟨by simp, by simp, by simp, by simp, fun _ => ⟨by simp <;> omega, by simp <;> omega⟩, by simp, by simp, by simp, by simp, by simp, BodOk.nil⟩
  have K2 : Good2 nn (code ++ [(⟨1, -1, 0, 0, .ro true [], []⟩ : Ln)]) (stk0 ++ [{ b with ot := code.length }]) := by
    refine ⟨K1.1, fun x hx => ?_⟩
    rcases List.mem_append.1 hx with hx | hx
    · exact K1.2 x (by simp [hx])
    · simp at hx
      subst hx
      exact ⟨(K1.2 b (by simp)).1, .inr ⟨code.length, ⟨1, -1, 0, 0, .ro true [], []⟩, rfl, by simp, rfl⟩⟩
  exact K2.set hl2 (.inr hk) (code.length + 1) (by simp)
theorem end_good {nn : Nat} {code code' : List Ln} {stk0 : List Bk} {b : Bk} (K : Good2 nn code (stk0 ++ [b])) (E : EndP code b code') : Good2 nn code' stk0 ∧ code'.length ≤ code.length + 1 := by
  have K0 : Good2 nn code stk0 := ⟨K.1, K.2.init⟩
  rcases E with ⟨_, k, l, hl, hk, rfl⟩ | ⟨k, l, hl, hk, rfl⟩
  · have hkl := (List.getElem?_eq_some_iff.1 hl).1
    have hl2 : (code ++ [(⟨1, -1, (k : Int), 0, .ro true [], []⟩ : Ln)])[k]? = some l := by rw [List.getElem?_append_left hkl]; exact hl
    have K1 : Good2 nn (code ++ [(⟨1, -1, (k : Int), 0, .ro true [], []⟩ : Ln)]) stk0 := K0.app _ ⟨by simp, by simp, by simp, by simp, fun _ => ⟨by simp, by simp; omega⟩, by simp, by simp, by simp, by simp, by simp, BodOk.nil⟩
    exact ⟨K1.set hl2 (.inr hk) (code.length + 1) (by simp), by simp⟩
  · exact ⟨K0.set hl hk code.length (Nat.le_refl _), by simp⟩
section
variable {nc ml : Nat} {h : Heap} {c : Nat} {names : List Str} {code : List Ln} {stk : List Bk} {nv cv bv : AV}
def LineQ (names : List Str) (s : Str) : Prop := telB s = true → telN s ∈ names → ∃ k, k < 16 ∧ names[k]? = some (telN s)
/-- A LINE. -/
theorem line_ev (C : Cm nc ml h c names code stk nv cv bv) (K : Good2 names.length code stk) (h0 : 0 < names.length) (hn : names.length ≤ 100000) (hs : ∀ s ∈ names, s.length ≤ 1000000) (s : Str) (hl : s.length ≤ 100000) (hcl : code.length ≤ 100000) (hsl : stk.length ≤ 100000) :
    LOut nc ml h c names nv code.length stk.length (LineQ names s) (callA mZ (run Tryz.prog mZ) 24 [.ptr nc 0 0, S s] h c) := by
  rw [call_heap rfl, run_eq (show mZ 24 = some .heap from rfl) rfl, Tryz.func24]
  cases g1 : (s == ([101, 108, 115, 101] : Str))
  rotate_left
  · have hse : s = ([101, 108, 115, 101] : Str) := by simpa using g1
    obtain ⟨e, h1, c1, e1, hc1, hk1, H⟩ := else_ev C K.2 hcl hsl
    refine ⟨e, h1, c1, ?_, hc1, hk1, fun e0 => ?_⟩
    · simp -implicitDefEqProofs [Tryz.f24, g1, e1, -decide_eq_true_eq, -decide_eq_false_iff_not, -List.any_eq_true, -List.any_eq_false, -bne_iff_ne, -beq_iff_eq, -beq_eq_false_iff_ne, -bne_eq_false_iff_eq]
    · obtain ⟨stk0, b, k, l, cv', rfl, hot, hat, hl, hk, C1⟩ := H e0
      exact ⟨_, _, _, _, C1, else_good K hl hk, by simp, by simp, fun ht => by rw [hse, tel_else] at ht; cases ht⟩
  cases g2 : (s == ([101, 110, 100] : Str))
  rotate_left
  · have hse : s = ([101, 110, 100] : Str) := by simpa using g2
    obtain ⟨e, h1, c1, e1, hc1, hk1, H⟩ := end_ev C K.2 hcl hsl
    refine ⟨e, h1, c1, ?_, hc1, hk1, fun e0 => ?_⟩
    · simp -implicitDefEqProofs [Tryz.f24, g1, g2, e1, -decide_eq_true_eq, -decide_eq_false_iff_not, -List.any_eq_true, -List.any_eq_false, -bne_iff_ne, -beq_iff_eq, -beq_eq_false_iff_ne, -bne_eq_false_iff_eq]
    · obtain ⟨stk0, b, code', cv', bv', rfl, C1, E⟩ := H e0
      obtain ⟨G1, G2⟩ := end_good K E
      exact ⟨_, _, _, _, C1, G1, G2, by simp <;> omega, fun ht => by rw [hse, tel_end] at ht; cases ht⟩
  cases g3 : (s == ([115, 116, 111, 112] : Str))
  rotate_left
  · have hse : s = ([115, 116, 111, 112] : Str) := by simpa using g3
    obtain ⟨h1, c1, cv', e1, C1, hc1, hkp⟩ := add_ev C ⟨6, -1, 0, 0, .ro true [], []⟩ (.inl ⟨rfl, rfl⟩) hcl
    simp only [Ln.row] at e1
    refine ⟨0, h1, c1, ?_, hc1, Keep.add hkp, fun _ => ⟨_, _, _, _, C1, K.app _ ⟨by simp, by simp, by simp, by simp, by simp, by simp, by simp, by simp, by simp, by simp, BodOk.nil⟩, by simp, by omega, fun ht => by rw [hse, tel_stop] at ht; cases ht⟩⟩
    simp -implicitDefEqProofs [Tryz.f24, g1, g2, g3, e1, -decide_eq_true_eq, -decide_eq_false_iff_not, -List.any_eq_true, -List.any_eq_false, -bne_iff_ne, -beq_iff_eq, -beq_eq_false_iff_ne, -bne_eq_false_iff_eq]
  have l1 := cutP_len s
  have e1 := fun h c => cut_c s (by omega) h c
  cases g4 : (cutP s).2.2
  · rw [g4] at e1
    refine ⟨14, h, c, ?_, Nat.le_refl _, Keep.refl _ _, fun e => by cases e⟩
    simp -implicitDefEqProofs [Tryz.f24, g1, g2, g3, e1, -decide_eq_true_eq, -decide_eq_false_iff_not, -List.any_eq_true, -List.any_eq_false, -bne_iff_ne, -beq_iff_eq, -beq_eq_false_iff_ne, -bne_eq_false_iff_eq]
  rw [g4] at e1
  have hno := @tel_no s
  have hQ : ∀ (P : Prop), (telB s = false → P) → ((cutP s).1 == wLet) = false → ((cutP s).1 == wAsk) = false → P := fun P h h1 h2 => h (hno h1 h2)
  have hLQ : telB s = false → LineQ names s := fun h ht => by rw [h] at ht; cases ht
  have hnm : LineQ names s = (telB s = true → (cutP (cutP s).2.1).1 ∈ names → ∃ k, k < 16 ∧ names[k]? = some (cutP (cutP s).2.1).1) := rfl
  have hlr : (cutP s).2.1.length ≤ s.length := l1.2
  generalize LineQ names s = Q at *
  generalize telB s = tb at *
  generalize (cutP s).1 = first at *
  generalize (cutP s).2.1 = rest at *
  cases g5 : (first == ([105, 102] : Str))
  rotate_left
  · have hf : first = ([105, 102] : Str) := by simpa using g5
    obtain ⟨e, h1, c1, e2, hc1, hk1, H⟩ := open'_ev C h0 hn hs rest (by omega) hcl hsl false
    have gw : (first == ([119, 104, 105, 108, 101] : Str)) = false := by rw [hf]; decide
    refine ⟨e, h1, c1, ?_, hc1, hk1, fun e0 => ?_⟩
    · simp -implicitDefEqProofs [Tryz.f24, g1, g2, g3, e1, g5, gw, e2, -decide_eq_true_eq, -decide_eq_false_iff_not, -List.any_eq_true, -List.any_eq_false, -bne_iff_ne, -beq_iff_eq, -beq_eq_false_iff_ne, -bne_eq_false_iff_eq]
    · obtain ⟨ops, pv, cv', bv', b, C1, Bo, q⟩ := H e0
      have K1 := K.app (⟨2, -1, 0, 0, pv, [ops]⟩ : Ln) ⟨by simp, by simp, by simp, by simp, fun _ => ⟨by simp <;> omega, by simp <;> omega⟩, by simp, by simp, by simp, by simp, by simp, BodOk.one Bo q⟩
      refine ⟨_, _, _, _, C1, ⟨K1.1, fun x hx => ?_⟩, by simp, by simp, hQ Q hLQ (by rw [hf]; decide) (by rw [hf]; decide)⟩
      rcases List.mem_append.1 hx with hx | hx
      · exact K1.2 x hx
      · simp at hx
        subst hx
        exact ⟨⟨code.length, ⟨2, -1, 0, 0, pv, [ops]⟩, rfl, by simp, rfl⟩, .inl rfl⟩
  cases g6 : (first == ([119, 104, 105, 108, 101] : Str))
  rotate_left
  · have hf : first = ([119, 104, 105, 108, 101] : Str) := by simpa using g6
    obtain ⟨e, h1, c1, e2, hc1, hk1, H⟩ := open'_ev C h0 hn hs rest (by omega) hcl hsl true
    have gw : (first == ([119, 104, 105, 108, 101] : Str)) = true := by rw [hf]; decide
    refine ⟨e, h1, c1, ?_, hc1, hk1, fun e0 => ?_⟩
    · simp -implicitDefEqProofs [Tryz.f24, g1, g2, g3, e1, g5, g6, gw, e2, -decide_eq_true_eq, -decide_eq_false_iff_not, -List.any_eq_true, -List.any_eq_false, -bne_iff_ne, -beq_iff_eq, -beq_eq_false_iff_ne, -bne_eq_false_iff_eq]
    · obtain ⟨ops, pv, cv', bv', b, C1, Bo, q⟩ := H e0
      have K1 := K.app (⟨2, -1, 0, 0, pv, [ops]⟩ : Ln) ⟨by simp, by simp, by simp, by simp, fun _ => ⟨by simp <;> omega, by simp <;> omega⟩, by simp, by simp, by simp, by simp, by simp, BodOk.one Bo q⟩
      refine ⟨_, _, _, _, C1, ⟨K1.1, fun x hx => ?_⟩, by simp, by simp, hQ Q hLQ (by rw [hf]; decide) (by rw [hf]; decide)⟩
      rcases List.mem_append.1 hx with hx | hx
      · exact K1.2 x hx
      · simp at hx
        subst hx
        exact ⟨⟨code.length, ⟨2, -1, 0, 0, pv, [ops]⟩, rfl, by simp, rfl⟩, .inl rfl⟩
  cases g7 : (first == ([119, 97, 105, 116] : Str))
  rotate_left
  · have hf : first = ([119, 97, 105, 116] : Str) := by simpa using g7
    obtain ⟨e, h1, c1, e2, hc1, hk1, H⟩ := one_ev C h0 hn hs rest (by omega) hcl 5 (-1)
    refine ⟨e, h1, c1, ?_, hc1, hk1, fun e0 => ?_⟩
    · simp -implicitDefEqProofs [Tryz.f24, g1, g2, g3, e1, g5, g6, g7, e2, -decide_eq_true_eq, -decide_eq_false_iff_not, -List.any_eq_true, -List.any_eq_false, -bne_iff_ne, -beq_iff_eq, -beq_eq_false_iff_ne, -bne_eq_false_iff_eq]
    · obtain ⟨ops, pv, cv', C1, Bo, q⟩ := H e0
      exact ⟨_, _, _, _, C1, K.app _ ⟨by simp, by simp, by simp, by simp, by simp, by simp, by simp, by simp, by simp, by simp, BodOk.one Bo q⟩, by simp, by omega, hQ Q hLQ (by rw [hf]; decide) (by rw [hf]; decide)⟩
  cases g8 : (first == ([100, 111] : Str))
  rotate_left
  · have hf : first = ([100, 111] : Str) := by simpa using g8
    obtain ⟨e, h1, c1, e2, hc1, hk1, H⟩ := asks_ev C h0 hn hs rest (by omega) hcl 3 (-1)
    refine ⟨e, h1, c1, ?_, hc1, hk1, fun e0 => ?_⟩
    · simp -implicitDefEqProofs [Tryz.f24, g1, g2, g3, e1, g5, g6, g7, g8, e2, -decide_eq_true_eq, -decide_eq_false_iff_not, -List.any_eq_true, -List.any_eq_false, -bne_iff_ne, -beq_iff_eq, -beq_eq_false_iff_ne, -bne_eq_false_iff_eq]
    · obtain ⟨pv, bodies, cv', C1, hb6, Bo, hw⟩ := H e0
      have hw2 := numP_of hw
      exact ⟨_, _, _, _, C1, K.app _ ⟨by simp, by simp, by simp, by simp, by simp, by simp, fun _ => ⟨hw2.1, hw2.2, hb6⟩, by simp, by simp, by simp, Bo⟩, by simp, by omega, hQ Q hLQ (by rw [hf]; decide) (by rw [hf]; decide)⟩
  cases g9 : (first == ([108, 101, 116] : Str))
  rotate_left
  · obtain ⟨e, h1, c1, e2, hc1, hk1, H⟩ := named_ev' C K h0 hn hs first rest (by omega) hcl
    refine ⟨e, h1, c1, ?_, hc1, hk1, fun e0 => ?_⟩
    · simp -implicitDefEqProofs [Tryz.f24, g1, g2, g3, e1, g5, g6, g7, g8, g9, e2, -decide_eq_true_eq, -decide_eq_false_iff_not, -List.any_eq_true, -List.any_eq_false, -bne_iff_ne, -beq_iff_eq, -beq_eq_false_iff_ne, -bne_eq_false_iff_eq]
    · obtain ⟨code', stk', cv', bv', C1, G1, G2, G3, Q1⟩ := H e0
      exact ⟨_, _, _, _, C1, G1, G2, G3, by rw [hnm]; exact fun _ => Q1⟩
  cases g10 : (first == ([97, 115, 107] : Str))
  rotate_left
  · obtain ⟨e, h1, c1, e2, hc1, hk1, H⟩ := named_ev' C K h0 hn hs first rest (by omega) hcl
    refine ⟨e, h1, c1, ?_, hc1, hk1, fun e0 => ?_⟩
    · simp -implicitDefEqProofs [Tryz.f24, g1, g2, g3, e1, g5, g6, g7, g8, g9, g10, e2, -decide_eq_true_eq, -decide_eq_false_iff_not, -List.any_eq_true, -List.any_eq_false, -bne_iff_ne, -beq_iff_eq, -beq_eq_false_iff_ne, -bne_eq_false_iff_eq]
    · obtain ⟨code', stk', cv', bv', C1, G1, G2, G3, Q1⟩ := H e0
      exact ⟨_, _, _, _, C1, G1, G2, G3, by rw [hnm]; exact fun _ => Q1⟩
  refine ⟨14, h, c, ?_, Nat.le_refl _, Keep.refl _ _, fun e => by cases e⟩
  simp -implicitDefEqProofs [Tryz.f24, g1, g2, g3, e1, g5, g6, g7, g8, g9, g10, -decide_eq_true_eq, -decide_eq_false_iff_not, -List.any_eq_true, -List.any_eq_false, -bne_iff_ne, -beq_iff_eq, -beq_eq_false_iff_ne, -bne_eq_false_iff_eq]
end
end Go.Proofs.YtmpcjfkfgjpebaaGreatDoor.AM
