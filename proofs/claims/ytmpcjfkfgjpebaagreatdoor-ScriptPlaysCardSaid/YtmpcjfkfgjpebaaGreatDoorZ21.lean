/- Texts of the proof: part Z21. -/
import Derived.Test.YtmpcjfkfgjpebaaGreatDoorZ20
set_option maxHeartbeats 0
set_option maxRecDepth 8000
set_option linter.unusedSimpArgs false
set_option linter.unusedVariables false
set_option linter.unusedSectionVars false
namespace Go.Proofs.YtmpcjfkfgjpebaaGreatDoor.AM
open Go Go.Proofs
attribute [local simp] fieldAddrA ld setCells stA skipV appendA hd makeA bnd kindA freshA killOk loadsAt edgesOn Region.binds newT empT lay_get allocA buildA buildRow lenA els indexAddrA isNil opA evA lit_int lit_bool lit_nil lit_nilf yldA binI unA pickA boolV intV fieldA mk eqs nilC mayP
theorem Cm.top {nc ml : Nat} {h : Heap} {c : Nat} {names : List Str} {code : List Ln} {stk0 : List Bk} {b : Bk} {nv cv bv : AV} (C : Cm nc ml h c names code (stk0 ++ [b]) nv cv bv) :
    ∃ n rest, bv = .sl n 1 0 (stk0.length + 1) ∧ n < c ∧ h n = some ⟨1, ptrs stk0 ++ ([.ptr b.n 0 0] :: rest), some 132⟩ := by
  rcases C.ob with ⟨_, g⟩ | ⟨n, rest, h1, h2, h3⟩
  · simp at g
  · exact ⟨n, rest, by simpa using h1, h2, by rw [h3]; simp⟩
theorem at_top (stk0 : List Bk) (b : Bk) (rest : List (List AV)) : (ptrs stk0 ++ ([.ptr b.n 0 0] :: rest))[stk0.length]? = some [.ptr b.n 0 0] := by
  rw [List.getElem?_append_right (by simp)]
  simp
/-- The innermost block turns. -/
theorem Cm.setTop {nc ml : Nat} {h : Heap} {c : Nat} {names : List Str} {code : List Ln} {stk0 : List Bk} {b b' : Bk} {nv cv bv : AV} (C : Cm nc ml h c names code (stk0 ++ [b]) nv cv bv) (hn : b'.n = b.n) :
    Cm nc ml (h.put b.n (some b'.blk)) c names code (stk0 ++ [b']) nv cv bv := by
  have hbb := C.blks b (by simp)
  have hk : ∀ {m : Nat} {x : Blk}, h m = some x → x.ty ≠ some 134 → (h.put b.n (some b'.blk)) m = h m := by
    intro m x hm ht
    have a1 : m ≠ b.n := ne_ty hm hbb.2 ht
    rw [put_get, if_neg a1]
  have hp : ptrs (stk0 ++ [b']) = ptrs (stk0 ++ [b]) := by simp [hn]
  refine ⟨C.nbc, C.mlc, ?_, ?_, ?_, ?_, ?_, fun l hl => ?_, fun x hx => ?_, ?_⟩
  · rw [hk C.mp (by simp [mpBlk]), C.mp]
  · rw [hk C.blk (by simp), C.blk]
  · refine C.on.frame (Nat.le_refl _) fun m hm _ => ?_
    obtain ⟨_, y, hy, ht⟩ := C.on.ty hm
    exact hk hy (by rw [ht]; decide)
  · refine C.oc.frame (Nat.le_refl _) fun m hm _ => ?_
    obtain ⟨_, y, hy, ht⟩ := C.oc.ty hm
    exact hk hy (by rw [ht]; decide)
  · rw [hp]
    refine C.ob.frame (Nat.le_refl _) fun m hm _ => ?_
    obtain ⟨_, y, hy, ht⟩ := C.ob.ty hm
    exact hk hy (by rw [ht]; decide)
  · refine (C.parts l hl).frame (Nat.le_refl _) fun m hm _ => ?_
    obtain ⟨_, y, hy, ht⟩ := (C.parts l hl).ty hm
    exact hk hy (by rw [ht]; decide)
  · rcases List.mem_append.1 hx with hx | hx
    · obtain ⟨b1, b2⟩ := C.blks x (by simp [hx])
      have hne : x.n ≠ b.n := by
        intro e
        have hnd := C.nd
        rw [List.map_append, List.nodup_append] at hnd
        exact hnd.2.2 x.n (List.mem_map.2 ⟨x, hx, rfl⟩) b.n (by simp) e
      exact ⟨b1, by rw [put_get, if_neg hne, b2]⟩
    · simp at hx
      subst hx
      rw [hn]
      exact ⟨hbb.1, by simp⟩
  · have := C.nd
    simpa [hn] using this
/-- The code's row. -/
theorem Cm.codeAt {nc ml : Nat} {h : Heap} {c : Nat} {names : List Str} {code : List Ln} {stk : List Bk} {nv cv bv : AV} (C : Cm nc ml h c names code stk nv cv bv) (hne : code ≠ []) : ∃ n, cv = .sl n 5 0 code.length ∧ n < c ∧ h n = some ⟨5, code.map Ln.row, some 52⟩ := by
  rcases C.oc with ⟨_, g⟩ | ⟨n, h1, h2, h3, h4⟩
  · exact absurd (by simpa using g) hne
  · exact ⟨n, by simpa using h1, h3, h4⟩
/-- A jump's place is set. -/
theorem Cm.patch {nc ml : Nat} {h : Heap} {c : Nat} {names : List Str} {code : List Ln} {stk : List Bk} {nv cv bv : AV} (C : Cm nc ml h c names code stk nv cv bv) {n i : Nat} {l : Ln} (hcv : cv = .sl n 5 0 code.length) (hi : code[i]? = some l) (k : Int) :
    Cm nc ml (h.put n (some ⟨5, (code.map Ln.row).set i [I l.kind, I l.nm, I k, I l.wd, l.pv], some 52⟩)) c names (code.set i { l with to := k }) stk nv cv bv := by
  have hnb : h n = some ⟨5, code.map Ln.row, some 52⟩ := by
    obtain ⟨n', h1, h2, h3⟩ := C.codeAt (fun e => by rw [e] at hi; simp at hi)
    rw [hcv] at h1
    cases h1
    exact h3
  have hlt := (C.oc.ty (by rw [hcv]; rfl)).1
  have hk : ∀ {m : Nat} {x : Blk}, h m = some x → x.ty ≠ some 52 → (h.put n (some ⟨5, (code.map Ln.row).set i [I l.kind, I l.nm, I k, I l.wd, l.pv], some 52⟩)) m = h m := by
    intro m x hm ht
    have a1 : m ≠ n := ne_ty hm hnb ht
    rw [put_get, if_neg a1]
  have hrow : (code.map Ln.row).set i [I l.kind, I l.nm, I k, I l.wd, l.pv] = (code.set i { l with to := k }).map Ln.row := by
    rw [List.map_set]
    rfl
  refine ⟨C.nbc, C.mlc, ?_, ?_, ?_, ?_, ?_, fun x hx => ?_, fun x hx => ?_, C.nd⟩
  · rw [hk C.mp (by simp [mpBlk]), C.mp]
  · rw [hk C.blk (by simp), C.blk]
  · refine C.on.frame (Nat.le_refl _) fun m hm _ => ?_
    obtain ⟨_, y, hy, ht⟩ := C.on.ty hm
    exact hk hy (by rw [ht]; decide)
  · refine .inr ⟨n, by rw [hcv]; simp, ?_, hlt, by rw [hrow]; simp⟩
    intro e
    have := congrArg List.length e
    have h5 := (List.getElem?_eq_some_iff.1 hi).1
    simp at this
    rw [this] at h5
    simp at h5
  · refine C.ob.frame (Nat.le_refl _) fun m hm _ => ?_
    obtain ⟨_, y, hy, ht⟩ := C.ob.ty hm
    exact hk hy (by rw [ht]; decide)
  · have hp : OutG 1 66 h c x.pv (bodR x.bodies) := by
      rcases List.mem_or_eq_of_mem_set hx with hx | rfl
      · exact C.parts x hx
      · exact C.parts l (List.mem_of_getElem? hi)
    refine hp.frame (Nat.le_refl _) fun m hm _ => ?_
    obtain ⟨_, y, hy, ht⟩ := hp.ty hm
    exact hk hy (by rw [ht]; decide)
  · obtain ⟨b1, b2⟩ := C.blks x hx
    exact ⟨b1, by rw [hk b2 (by simp [Bk.blk]), b2]⟩
/-- The innermost block is shut. -/
theorem Cm.pop {nc ml : Nat} {h : Heap} {c : Nat} {names : List Str} {code : List Ln} {stk0 : List Bk} {b : Bk} {nv cv bv : AV} (C : Cm nc ml h c names code (stk0 ++ [b]) nv cv bv) {n : Nat} (hbv : bv = .sl n 1 0 (stk0.length + 1)) :
    Cm nc ml (h.put nc (some ⟨4, [[nv, .mp ml, cv, .sl n 1 0 stk0.length]], some 58⟩)) c names code stk0 nv cv (.sl n 1 0 stk0.length) := by
  obtain ⟨n', rest, h1, h2, h3⟩ := C.top
  rw [hbv] at h1
  cases h1
  have hk : ∀ {m : Nat} {x : Blk}, h m = some x → x.ty ≠ some 58 → (h.put nc (some ⟨4, [[nv, .mp ml, cv, .sl n 1 0 stk0.length]], some 58⟩)) m = h m := by
    intro m x hm ht
    have a1 : m ≠ nc := ne_ty hm C.blk ht
    rw [put_get, if_neg a1]
  refine ⟨C.nbc, C.mlc, ?_, by simp, ?_, ?_, ?_, fun x hx => ?_, fun x hx => ?_, ?_⟩
  · rw [hk C.mp (by simp [mpBlk]), C.mp]
  · refine C.on.frame (Nat.le_refl _) fun m hm _ => ?_
    obtain ⟨_, y, hy, ht⟩ := C.on.ty hm
    exact hk hy (by rw [ht]; decide)
  · refine C.oc.frame (Nat.le_refl _) fun m hm _ => ?_
    obtain ⟨_, y, hy, ht⟩ := C.oc.ty hm
    exact hk hy (by rw [ht]; decide)
  · exact .inr ⟨n, [.ptr b.n 0 0] :: rest, by simp, h2, by rw [hk h3 (by simp), h3]⟩
  · refine (C.parts x hx).frame (Nat.le_refl _) fun m hm _ => ?_
    obtain ⟨_, y, hy, ht⟩ := (C.parts x hx).ty hm
    exact hk hy (by rw [ht]; decide)
  · obtain ⟨b1, b2⟩ := C.blks x (by simp [hx])
    exact ⟨b1, by rw [hk b2 (by simp [Bk.blk]), b2]⟩
  · have := C.nd
    rw [List.map_append, List.nodup_append] at this
    exact this.1
/-- The blocks lead into the code. -/
def StkOk (code : List Ln) (stk : List Bk) : Prop := ∀ b ∈ stk, (∃ (k : Nat) (l : Ln), b.at_ = k ∧ code[k]? = some l ∧ l.kind = 2) ∧ (b.ot = -1 ∨ ∃ (k : Nat) (l : Ln), b.ot = k ∧ code[k]? = some l ∧ l.kind = 1)
/-- AN ELSE. -/
theorem else_ev {nc ml : Nat} {h : Heap} {c : Nat} {names : List Str} {code : List Ln} {stk : List Bk} {nv cv bv : AV} (C : Cm nc ml h c names code stk nv cv bv) (K : StkOk code stk) (hcl : code.length ≤ 100000) (hsl : stk.length ≤ 100000) :
    ∃ (e : Int) (h' : Heap) (c' : Nat), callA mZ (run Tryz.prog mZ) 49 [.ptr nc 0 0] h c = some (E e, h', c') ∧ c ≤ c' ∧ Keep h c h' ∧
      (e = 0 → ∃ (stk0 : List Bk) (b : Bk) (k : Nat) (l : Ln) (cv' : AV), stk = stk0 ++ [b] ∧ b.ot < 0 ∧ b.at_ = (k : Int) ∧ code[k]? = some l ∧ l.kind = 2 ∧ Cm nc ml h' c' names ((code ++ [(⟨1, -1, 0, 0, .ro true [], []⟩ : Ln)]).set k { l with to := (code.length + 1 : Nat) }) (stk0 ++ [{ b with ot := code.length }]) nv cv' bv) := by
  rw [call_heap rfl, run_eq (show mZ 49 = some .heap from rfl) rfl, Tryz.func49]
  have hb := C.blk
  have hnb := C.nbc
  rcases List.eq_nil_or_concat stk with rfl | ⟨stk0, b, hstk⟩
  · refine ⟨14, h, c, ?_, Nat.le_refl _, Keep.refl _ _, fun e => by cases e⟩
    rcases C.ob with ⟨rfl, _⟩ | ⟨n, rest, rfl, _⟩
    · simp -implicitDefEqProofs [Tryz.f49, hb, -decide_eq_true_eq, -decide_eq_false_iff_not, -List.any_eq_true, -List.any_eq_false, -bne_iff_ne, -beq_iff_eq, -beq_eq_false_iff_ne, -bne_eq_false_iff_eq]
    · simp -implicitDefEqProofs [Tryz.f49, hb, -decide_eq_true_eq, -decide_eq_false_iff_not, -List.any_eq_true, -List.any_eq_false, -bne_iff_ne, -beq_iff_eq, -beq_eq_false_iff_ne, -bne_eq_false_iff_eq]
  · rw [List.concat_eq_append] at hstk
    subst hstk
    obtain ⟨n, rest, hbv, hn, hh⟩ := C.top
    have hbb := (C.blks b (by simp)).2
    obtain ⟨⟨k, l, hat, hl, hlk⟩, _⟩ := K b (by simp)
    have hB : b.blk = ⟨3, [[I b.at_, I b.ot, B b.lp]], some 134⟩ := rfl
    rw [hB] at hbb
    have kw : IntKind.i64.wrap (((stk0.length + 1 : Nat) : Int) - 1) = (stk0.length : Int) := by rw [wrap_id (by simp at hsl; omega) (by simp at hsl; omega)]; omega
    have kw2 : (((stk0.length + 1 : Nat) : Int) == 0) = false := by simp; omega
    have hx : (ptrs stk0 ++ ([.ptr b.n 0 0] :: rest))[stk0.length]? = some [.ptr b.n 0 0] := at_top _ _ _
    have hx0 : stk0.length < stk0.length + 1 := by omega
    generalize ptrs stk0 ++ ([.ptr b.n 0 0] :: rest) = rows at hh hx
    obtain ⟨p, hp⟩ : ∃ p, p = stk0.length + 1 := ⟨_, rfl⟩
    rw [← hp] at kw kw2 hbv hx0
    subst hbv
    have hx1 : (stk0.length : Int) < (p : Int) := by omega
    cases g1 : b.lp
    rotate_left
    · rw [g1] at hbb
      refine ⟨14, h, c, ?_, Nat.le_refl _, Keep.refl _ _, fun e => by cases e⟩
      simp -implicitDefEqProofs [Tryz.f49, hb, kw, kw2, hh, hx, hx0, hx1, hbb, g1, -decide_eq_true_eq, -decide_eq_false_iff_not, -List.any_eq_true, -List.any_eq_false, -bne_iff_ne, -beq_iff_eq, -beq_eq_false_iff_ne, -bne_eq_false_iff_eq]
    · rw [g1] at hbb
      cases g2 : decide (0 ≤ b.ot)
      rotate_left
      · refine ⟨14, h, c, ?_, Nat.le_refl _, Keep.refl _ _, fun e => by cases e⟩
        simp -implicitDefEqProofs [Tryz.f49, hb, kw, kw2, hh, hx, hx0, hx1, hbb, g1, g2, -decide_eq_true_eq, -decide_eq_false_iff_not, -List.any_eq_true, -List.any_eq_false, -bne_iff_ne, -beq_iff_eq, -beq_eq_false_iff_ne, -bne_eq_false_iff_eq]
      · have g2' : b.ot < 0 := by rw [decide_eq_false_iff_not] at g2; omega
        have hcne : code ≠ [] := fun e => by rw [e] at hl; simp at hl
        obtain ⟨m, hcv, hm, hmm⟩ := C.codeAt hcne
        have C1 := C.setTop (b' := { b with ot := code.length }) rfl
        have hB1 : ({ b with ot := code.length } : Bk).blk = ⟨3, [[I b.at_, I code.length, B false]], some 134⟩ := by rw [← g1]; rfl
        have hbn : b.n ≠ nc := ne_ty hbb hb (by simp)
        obtain ⟨h2, c2, cv2, e2, C2, hc2, hkp⟩ := add_ev C1 ⟨1, -1, 0, 0, .ro true [], []⟩ (.inl ⟨rfl, rfl⟩) hcl
        have hb2 := C2.blk
        have hbb2 : h2 b.n = some ({ b with ot := code.length } : Bk).blk := (C2.blks { b with ot := code.length } (by simp)).2
        rw [hB1, hat] at hbb2
        obtain ⟨m2, hcv2, hm2, hmm2⟩ := C2.codeAt (by simp)
        have hkl := (List.getElem?_eq_some_iff.1 hl).1
        have hl2 : (code ++ [(⟨1, -1, 0, 0, .ro true [], []⟩ : Ln)] : List Ln)[k]? = some l := by rw [List.getElem?_append_left hkl]; exact hl
        have C3 := C2.patch hcv2 hl2 ((code.length + 1 : Nat) : Int)
        refine ⟨0, _, c2, ?_, hc2, ((Keep.put hbb (by simp) (by simp) _).trans (Nat.le_refl _) (Keep.add hkp)).trans hc2 (Keep.put hmm2 (by simp) (by simp) _), fun _ => ⟨stk0, b, k, l, cv2, rfl, g2', hat, hl, hlk, C3⟩⟩
        rw [hB1, hat] at e2
        simp only [Ln.row] at e2
        subst hcv2
        have hrow : ((code ++ [(⟨1, -1, 0, 0, .ro true [], []⟩ : Ln)] : List Ln).map Ln.row)[k]? = some [I l.kind, I l.nm, I l.to, I l.wd, l.pv] := by rw [List.getElem?_map, hl2]; rfl
        have hlen2 : (code ++ [(⟨1, -1, 0, 0, .ro true [], []⟩ : Ln)] : List Ln).length = code.length + 1 := by simp
        rw [hlen2] at hb2
        generalize ((code ++ [(⟨1, -1, 0, 0, .ro true [], []⟩ : Ln)] : List Ln).map Ln.row) = rows2 at hrow hmm2
        obtain ⟨q, hq⟩ : ∃ q, q = code.length + 1 := ⟨_, rfl⟩
        rw [← hq] at hb2 ⊢
        have hkq : k < q := by omega
        have hkq1 : (k : Int) < (q : Int) := by omega
        simp -implicitDefEqProofs [Tryz.f49, hb, kw, kw2, hh, hx, hx0, hx1, hbb, g1, g2, hcv, hbn, e2, hb2, hbb2, hat, hmm2, hrow, hkq, hkq1, -decide_eq_true_eq, -decide_eq_false_iff_not, -List.any_eq_true, -List.any_eq_false, -bne_iff_ne, -beq_iff_eq, -beq_eq_false_iff_ne, -bne_eq_false_iff_eq]
end Go.Proofs.YtmpcjfkfgjpebaaGreatDoor.AM
