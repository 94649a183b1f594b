/- Texts of the proof: part Z22. -/
import Derived.Test.YtmpcjfkfgjpebaaGreatDoorZ21
set_option maxHeartbeats 0
set_option maxRecDepth 8000
set_option linter.unusedSimpArgs false
set_option linter.unusedVariables false
set_option linter.unusedSectionVars false
namespace Go.Proofs.YtmpcjfkfgjpebaaGreatDoor.AM
open Go Go.Proofs
attribute [local simp] fieldAddrA ld setCells stA skipV appendA hd makeA bnd kindA freshA killOk loadsAt edgesOn Region.binds newT empT lay_get allocA buildA buildRow lenA els indexAddrA isNil opA evA lit_int lit_bool lit_nil lit_nilf yldA binI unA pickA boolV intV fieldA mk eqs nilC mayP
/-- What an end makes of the code. -/
def EndP (code : List Ln) (b : Bk) (code' : List Ln) : Prop :=
  (b.lp = true ∧ ∃ (k : Nat) (l : Ln), code[k]? = some l ∧ l.kind = 2 ∧ code' = (code ++ [(⟨1, -1, (k : Int), 0, .ro true [], []⟩ : Ln)]).set k { l with to := ((code.length + 1 : Nat) : Int) }) ∨
  (∃ (k : Nat) (l : Ln), code[k]? = some l ∧ (l.kind = 1 ∨ l.kind = 2) ∧ code' = code.set k { l with to := ((code.length : Nat) : Int) })
/-- AN END. -/
theorem end_ev {nc ml : Nat} {h : Heap} {c : Nat} {names : List Str} {code : List Ln} {stk : List Bk} {nv cv bv : AV} (C : Cm nc ml h c names code stk nv cv bv) (K : StkOk code stk) (hcl : code.length ≤ 100000) (hsl : stk.length ≤ 100000) :
    ∃ (e : Int) (h' : Heap) (c' : Nat), callA mZ (run Tryz.prog mZ) 50 [.ptr nc 0 0] h c = some (E e, h', c') ∧ c ≤ c' ∧ Keep h c h' ∧
      (e = 0 → ∃ (stk0 : List Bk) (b : Bk) (code' : List Ln) (cv' bv' : AV), stk = stk0 ++ [b] ∧ Cm nc ml h' c' names code' stk0 nv cv' bv' ∧ EndP code b code') := by
  rw [call_heap rfl, run_eq (show mZ 50 = some .heap from rfl) rfl, Tryz.func50]
  have hb := C.blk
  have hnb := C.nbc
  rcases List.eq_nil_or_concat stk with rfl | ⟨stk0, b, hstk⟩
  · refine ⟨14, h, c, ?_, Nat.le_refl _, Keep.refl _ _, fun e => by cases e⟩
    rcases C.ob with ⟨rfl, _⟩ | ⟨n, rest, rfl, _⟩
    · simp -implicitDefEqProofs [Tryz.f50, hb, -decide_eq_true_eq, -decide_eq_false_iff_not, -List.any_eq_true, -List.any_eq_false, -bne_iff_ne, -beq_iff_eq, -beq_eq_false_iff_ne, -bne_eq_false_iff_eq]
    · simp -implicitDefEqProofs [Tryz.f50, hb, -decide_eq_true_eq, -decide_eq_false_iff_not, -List.any_eq_true, -List.any_eq_false, -bne_iff_ne, -beq_iff_eq, -beq_eq_false_iff_ne, -bne_eq_false_iff_eq]
  · rw [List.concat_eq_append] at hstk
    subst hstk
    obtain ⟨n, rest, hbv, hn, hh⟩ := C.top
    have hbb := (C.blks b (by simp)).2
    obtain ⟨⟨k, l, hat, hl, hlk⟩, hot⟩ := K b (by simp)
    have hB : b.blk = ⟨3, [[I b.at_, I b.ot, B b.lp]], some 134⟩ := rfl
    rw [hB, hat] at hbb
    have kw : IntKind.i64.wrap (((stk0.length + 1 : Nat) : Int) - 1) = (stk0.length : Int) := by rw [wrap_id (by simp at hsl; omega) (by simp at hsl; omega)]; omega
    have kw2 : (((stk0.length + 1 : Nat) : Int) == 0) = false := by simp; omega
    have hx : (ptrs stk0 ++ ([.ptr b.n 0 0] :: rest))[stk0.length]? = some [.ptr b.n 0 0] := at_top _ _ _
    have hx0 : stk0.length < stk0.length + 1 := by omega
    have C1 := C.pop hbv
    generalize ptrs stk0 ++ ([.ptr b.n 0 0] :: rest) = rows at hh hx
    obtain ⟨p, hp⟩ : ∃ p, p = stk0.length + 1 := ⟨_, rfl⟩
    rw [← hp] at kw kw2 hbv hx0
    subst hbv
    have hx1 : (stk0.length : Int) < (p : Int) := by omega
    have hx2 : (stk0.length : Int) ≤ (p : Int) := by omega
    have hx3 : stk0.length ≤ p := by omega
    have hx4 : (0 : Nat) < stk0.length ∨ True := .inr trivial
    have hnn : n ≠ nc := ne_ty hh hb (by simp)
    have hbn : b.n ≠ nc := ne_ty hbb hb (by simp)
    have hcne : code ≠ [] := fun e => by rw [e] at hl; simp at hl
    have hb1 := C1.blk
    obtain ⟨h1, hh1⟩ : ∃ h1, h1 = h.put nc (some ⟨4, [[nv, .mp ml, cv, .sl n 1 0 stk0.length]], some 58⟩) := ⟨_, rfl⟩
    have hk1 : Keep h c h1 := by rw [hh1]; exact Keep.put hb (by simp) (by simp) _
    rw [← hh1] at C1 hb1
    have hbb1 : h1 b.n = some ⟨3, [[I (k : Nat), I b.ot, B b.lp]], some 134⟩ := by rw [hh1, put_get, if_neg hbn, hbb]
    obtain ⟨m, hcv, hm, hmm⟩ := C1.codeAt hcne
    have hkl := (List.getElem?_eq_some_iff.1 hl).1
    cases g1 : b.lp
    rotate_left
    · rw [g1] at hbb hbb1
      obtain ⟨h2, c2, cv2, e2, C2, hc2, hkeep⟩ := add_ev C1 ⟨1, -1, k, 0, .ro true [], []⟩ (.inl ⟨rfl, rfl⟩) hcl
      have hb2 := C2.blk
      have hbn1 : ∀ m, m < c → nm cv ≠ some m → m ≠ nc → True := fun _ _ _ _ => trivial
      obtain ⟨m2, hcv2, hm2, hmm2⟩ := C2.codeAt (by simp)
      have hl2 : (code ++ [(⟨1, -1, (k : Int), 0, .ro true [], []⟩ : Ln)])[k]? = some l := by rw [List.getElem?_append_left hkl]; exact hl
      have C3 := C2.patch hcv2 hl2 ((code.length + 1 : Nat) : Int)
      refine ⟨0, _, c2, ?_, hc2, (hk1.trans (Nat.le_refl _) (Keep.add hkeep)).trans hc2 (Keep.put hmm2 (by simp) (by simp) _), fun _ => ⟨stk0, b, _, _, _, rfl, C3, .inl ⟨g1, k, l, hl, hlk, rfl⟩⟩⟩
      simp only [Ln.row] at e2
      subst hcv2
      have hrow : ((code ++ [(⟨1, -1, (k : Int), 0, .ro true [], []⟩ : Ln)]).map Ln.row)[k]? = some [I l.kind, I l.nm, I l.to, I l.wd, l.pv] := by rw [List.getElem?_map, hl2]; rfl
      have hlen2 : (code ++ [(⟨1, -1, (k : Int), 0, .ro true [], []⟩ : Ln)]).length = code.length + 1 := by simp
      rw [hlen2] at hb2
      have hbb2 : h2 b.n = some ⟨3, [[I (k : Nat), I b.ot, B true]], some 134⟩ := by rw [hkeep b.n _ (C.blks b (by simp)).1 hbb1 (by simp) (by simp), hbb1]
      generalize ((code ++ [(⟨1, -1, (k : Int), 0, .ro true [], []⟩ : Ln)]).map Ln.row) = rows2 at hrow hmm2
      obtain ⟨q, hq⟩ : ∃ q, q = code.length + 1 := ⟨_, rfl⟩
      rw [← hq] at hb2 ⊢
      have hkq : k < q := by omega
      have hkq1 : (k : Int) < (q : Int) := by omega
      rw [hh1] at e2
      simp -implicitDefEqProofs [Tryz.f50, hb, kw, kw2, hh, hx, hx0, hx1, hx2, hx3, hbb, hbn, hnn, sliceA, e2, hb2, hbb2, hmm2, hrow, hkq, hkq1, -decide_eq_true_eq, -decide_eq_false_iff_not, -List.any_eq_true, -List.any_eq_false, -bne_iff_ne, -beq_iff_eq, -beq_eq_false_iff_ne, -bne_eq_false_iff_eq]
    · rw [g1] at hbb hbb1
      have hrow : (code.map Ln.row)[k]? = some [I l.kind, I l.nm, I l.to, I l.wd, l.pv] := by rw [List.getElem?_map, hl]; rfl
      have hmn : m ≠ nc := ne_ty hmm hb1 (by simp)
      have hmm0 : h m = some ⟨5, code.map Ln.row, some 52⟩ := by rw [hh1, put_get, if_neg hmn] at hmm; exact hmm
      have hkq1 : (k : Int) < (code.length : Int) := by omega
      cases g2 : decide (0 ≤ b.ot)
      · have C3 := C1.patch hcv hl ((code.length : Nat) : Int)
        refine ⟨0, _, c, ?_, Nat.le_refl _, hk1.trans (Nat.le_refl _) (Keep.put hmm (by simp) (by simp) _), fun _ => ⟨stk0, b, _, _, _, rfl, C3, .inr ⟨k, l, hl, .inr hlk, rfl⟩⟩⟩
        generalize code.map Ln.row = rows2 at hrow hmm hmm0
        rw [hh1]
        simp -implicitDefEqProofs [Tryz.f50, hb, kw, kw2, hh, hx, hx0, hx1, hx2, hx3, hbb, hbn, hnn, sliceA, g2, hcv, hmn, hmm0, hrow, hkl, hkq1, -decide_eq_true_eq, -decide_eq_false_iff_not, -List.any_eq_true, -List.any_eq_false, -bne_iff_ne, -beq_iff_eq, -beq_eq_false_iff_ne, -bne_eq_false_iff_eq]
      · rcases hot with hot | ⟨k2, l2, hot, hl2, hlk2⟩
        · rw [hot] at g2
          cases g2
        · have hkl2 := (List.getElem?_eq_some_iff.1 hl2).1
          have hrow2 : (code.map Ln.row)[k2]? = some [I l2.kind, I l2.nm, I l2.to, I l2.wd, l2.pv] := by rw [List.getElem?_map, hl2]; rfl
          have hkq2 : (k2 : Int) < (code.length : Int) := by omega
          have C3 := C1.patch hcv hl2 ((code.length : Nat) : Int)
          refine ⟨0, _, c, ?_, Nat.le_refl _, hk1.trans (Nat.le_refl _) (Keep.put hmm (by simp) (by simp) _), fun _ => ⟨stk0, b, _, _, _, rfl, C3, .inr ⟨k2, l2, hl2, .inl hlk2, rfl⟩⟩⟩
          generalize code.map Ln.row = rows2 at hrow hrow2 hmm hmm0
          rw [hh1]
          rw [hot] at hbb
          have g3 : decide ((0 : Int) ≤ (k2 : Int)) = true := by simp
          simp -implicitDefEqProofs [Tryz.f50, hb, kw, kw2, hh, hx, hx0, hx1, hx2, hx3, hbb, hbn, hnn, sliceA, hcv, hmn, hmm0, hrow2, hkl2, hkq2, -decide_eq_true_eq, -decide_eq_false_iff_not, -List.any_eq_true, -List.any_eq_false, -bne_iff_ne, -beq_iff_eq, -beq_eq_false_iff_ne, -bne_eq_false_iff_eq]
end Go.Proofs.YtmpcjfkfgjpebaaGreatDoor.AM
