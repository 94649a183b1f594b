/- Texts of the proof: part Z20. -/
import Derived.Test.YtmpcjfkfgjpebaaGreatDoorZ19
set_option maxHeartbeats 0
set_option maxRecDepth 8000
set_option linter.unusedSimpArgs false
set_option linter.unusedVariables false
set_option linter.unusedSectionVars false
namespace Go.Proofs.YtmpcjfkfgjpebaaGreatDoor.AM
open Go Go.Proofs
attribute [local simp] fieldAddrA ld setCells stA skipV appendA hd makeA bnd kindA freshA killOk loadsAt edgesOn Region.binds newT empT lay_get allocA buildA buildRow lenA els indexAddrA isNil opA evA lit_int lit_bool lit_nil lit_nilf yldA binI unA pickA boolV intV fieldA mk eqs nilC mayP
theorem outS_one {t e sz by_ : Nat} {z : List AV} {h : Heap} {c : Nat} {v : AV} {es : List (List AV)} (O : OutS sz e h c v es) (r : List AV) (T : Option Nat) (hr : r.length = sz) (h1 : slT Tryz.prog t = some e) (h2 : szT Tryz.prog e = some sz) (h3 : byT Tryz.prog e = some by_) (h4 : zeT Tryz.prog e = some z) (hz : z.length = sz)
    (hl : (es.length + 1) * by_ ≤ 140737488355328) (hl2 : es.length + 1 ≤ 140737488355328) :
    ∃ v' h' c', appendA Tryz.prog t (h.put c (some ⟨sz, [r], T⟩)) (c + 1) v (.sl c sz 0 1) = some (v', h', c') ∧ OutG sz e h' c' v' (es ++ [r]) ∧ Grown h c v h' c' v' := by
  unfold appendA
  have hx : srcA (h.put c (some ⟨sz, [r], T⟩)) (.sl c sz 0 1) = some [r] := by simp
  have hd : AM.hd [r] sz = true := by simp [hr]
  simp only [h1, h2, h3, h4, hx, Option.bind_some, hz, hd, and_self, if_true, List.isEmpty_cons, Bool.false_eq_true, if_false]
  rcases O with ⟨rfl, rfl⟩ | ⟨n, rest, rfl, g1, g2⟩
  · simp only [List.length_nil, Nat.zero_add] at hl hl2
    have hc : [r].length * by_ ≤ room ∧ [r].length ≤ room := ⟨hl, hl2⟩
    simp only [hc, and_self, if_true]
    exact ⟨_, _, _, rfl, .inr ⟨c + 1, by simp, by simp, by omega, by simp⟩, ⟨by omega, fun m hm _ => by
      have a1 : m ≠ c := by omega
      have a3 : m ≠ c + 1 := by omega
      simp [a1, a3], fun m hm => by simp at hm; omega⟩⟩
  · have hnc : n ≠ c := by omega
    have he : els (h.put c (some ⟨sz, [r], T⟩)) (.sl n sz 0 es.length) = some es := by
      simp [g2, hnc]
    have hc : (es.length + [r].length) * by_ ≤ room ∧ es.length + [r].length ≤ room := ⟨hl, hl2⟩
    simp only [he, Option.bind_some, hc, and_self, if_true]
    refine ⟨_, _, _, rfl, .inr ⟨c + 1, by simp, by simp, by omega, ?_⟩, ⟨by omega, fun m hm hne => ?_, fun m hm => by simp at hm; omega⟩⟩
    · simp [g2, tyK, hnc]
    · have a1 : m ≠ c := by omega
      have a2 : m ≠ n := fun e => hne (by rw [e]; rfl)
      have a3 : m ≠ c + 1 := by omega
      simp [a1, a2, a3]
/-- One more block is open. -/
theorem Cm.push {nc ml : Nat} {h h' : Heap} {c c' : Nat} {names : List Str} {code : List Ln} {stk : List Bk} {nv cv bv bv2 : AV} (C : Cm nc ml h c names code stk nv cv bv) (b : Bk) (hbn : c ≤ b.n ∧ b.n < c') (hbk : h' b.n = some b.blk) (hc : c ≤ c') (hh : ∀ m, m < c → nm bv ≠ some m → h' m = h m)
    (O : OutG 1 132 h' c' bv2 (ptrs (stk ++ [b]))) (hnew : ∀ m, nm bv2 = some m → nm bv = some m ∨ c ≤ m) :
    Cm nc ml (h'.put nc (some ⟨4, [[nv, .mp ml, cv, bv2]], some 58⟩)) c' names code (stk ++ [b]) nv cv bv2 := by
  have hk : ∀ {m : Nat} {x : Blk}, m < c → h m = some x → x.ty ≠ some 132 → x.ty ≠ some 58 → (h'.put nc (some ⟨4, [[nv, .mp ml, cv, bv2]], some 58⟩)) m = h m := by
    intro m x hm hb h1 h2
    have a1 : m ≠ nc := ne_ty hb C.blk h2
    rw [put_get, if_neg a1]
    refine hh m hm fun e => ?_
    obtain ⟨_, b', hb', ht⟩ := C.ob.ty e
    rw [hb] at hb'
    cases hb'
    exact h1 ht
  have hnb := C.nbc
  refine ⟨by omega, by have := C.mlc; omega, ?_, by simp, ?_, ?_, ?_, fun l hl => ?_, fun x hx => ?_, ?_⟩
  · rw [hk C.mlc C.mp (by simp [mpBlk]) (by simp [mpBlk]), C.mp]
  · refine C.on.frame hc fun m hm hmc => ?_
    obtain ⟨_, b, hb, ht⟩ := C.on.ty hm
    exact hk hmc hb (by rw [ht]; decide) (by rw [ht]; decide)
  · refine C.oc.frame hc fun m hm hmc => ?_
    obtain ⟨_, b, hb, ht⟩ := C.oc.ty hm
    exact hk hmc hb (by rw [ht]; decide) (by rw [ht]; decide)
  · refine (O.frame (Nat.le_refl _) fun m hm _ => ?_).toS
    have : m ≠ nc := by
      rcases hnew m hm with h3 | h3
      · obtain ⟨_, b, hb, ht⟩ := C.ob.ty h3
        exact ne_ty hb C.blk (by rw [ht]; simp)
      · omega
    rw [put_get, if_neg this]
  · refine (C.parts l hl).frame hc fun m hm hmc => ?_
    obtain ⟨_, b, hb, ht⟩ := (C.parts l hl).ty hm
    exact hk hmc hb (by rw [ht]; decide) (by rw [ht]; decide)
  · rcases List.mem_append.1 hx with hx | hx
    · obtain ⟨b1, b2⟩ := C.blks x hx
      exact ⟨by omega, by rw [hk b1 b2 (by simp [Bk.blk]) (by simp [Bk.blk]), b2]⟩
    · simp at hx
      subst hx
      have : x.n ≠ nc := by omega
      exact ⟨hbn.2, by rw [put_get, if_neg this, hbk]⟩
  · rw [List.map_append, List.nodup_append]
    refine ⟨C.nd, by simp, fun a ha b' hb' e => ?_⟩
    simp at hb'
    obtain ⟨x, hx, rfl⟩ := List.mem_map.1 ha
    have := (C.blks x hx).1
    omega
/-- An element with one expression. -/
theorem one_ev {nc ml : Nat} {h : Heap} {c : Nat} {names : List Str} {code : List Ln} {stk : List Bk} {nv cv bv : AV} (C : Cm nc ml h c names code stk nv cv bv) (h0 : 0 < names.length) (hn : names.length ≤ 100000) (hs : ∀ s ∈ names, s.length ≤ 1000000) (s : Str) (hl : s.length ≤ 1000000) (hcl : code.length ≤ 100000) (k n : Int) :
    ∃ (e : Int) (h' : Heap) (c' : Nat), callA mZ (run Tryz.prog mZ) 54 [.ptr nc 0 0, I k, I n, S s] h c = some (E e, h', c') ∧ c ≤ c' ∧ Keep h c h' ∧
      (e = 0 → ∃ ops pv cv', Cm nc ml h' c' names (code ++ [⟨k, n, 0, 0, pv, [ops]⟩]) stk nv cv' bv ∧ Bal (min names.length 16) ops ∧ ops.length ≤ 60) := by
  rw [call_heap rfl, run_eq (show mZ 54 = some .heap from rfl) rfl, Tryz.func54]
  obtain ⟨b, e, e1, H, b1, b2, b3⟩ := expression_ev C h0 hn hs s hl
  cases g : (e == 0)
  · refine ⟨e, h, c, ?_, Nat.le_refl _, Keep.refl _ _, fun e0 => by rw [e0] at g; cases g⟩
    simp -implicitDefEqProofs [Tryz.f54, e1, b1, b2, b3, g, putV_np, -decide_eq_true_eq, -decide_eq_false_iff_not, -List.any_eq_true, -List.any_eq_false, -bne_iff_ne, -beq_iff_eq, -beq_eq_false_iff_ne, -bne_eq_false_iff_eq]
  · have ge : e = 0 := by simpa using g
    rcases H with ⟨_, ops, hb, B, q⟩ | he
    rotate_left
    · exact absurd ge he
    subst hb
    have C1 : Cm nc ml (h.put c (some ⟨1, [[.ro false (opsE ops)]], some 66⟩)) (c + 1) names code stk nv cv bv := C.frame (by omega) fun m hm => by simp; omega
    obtain ⟨h', c', cv', e2, C2, hc, hkp⟩ := add_ev C1 ⟨k, n, 0, 0, .sl c 1 0 1, [ops]⟩ (.inr ⟨c, rfl, by simp, by omega, by simp⟩) hcl
    refine ⟨0, h', c', ?_, by omega, (Keep.fresh fun m hm => by simp; omega).trans (Nat.le_succ c) (Keep.add hkp), fun _ => ⟨ops, _, cv', C2, B, q⟩⟩
    subst ge
    simp only [Ln.row] at e2
    simp -implicitDefEqProofs [Tryz.f54, e1, e2, -decide_eq_true_eq, -decide_eq_false_iff_not, -List.any_eq_true, -List.any_eq_false, -bne_iff_ne, -beq_iff_eq, -beq_eq_false_iff_ne, -bne_eq_false_iff_eq]
/-- A block is opened. -/
theorem open'_ev {nc ml : Nat} {h : Heap} {c : Nat} {names : List Str} {code : List Ln} {stk : List Bk} {nv cv bv : AV} (C : Cm nc ml h c names code stk nv cv bv) (h0 : 0 < names.length) (hn : names.length ≤ 100000) (hs : ∀ s ∈ names, s.length ≤ 1000000) (s : Str) (hl : s.length ≤ 1000000) (hcl : code.length ≤ 100000) (hsl : stk.length ≤ 100000) (lp : Bool) :
    ∃ (e : Int) (h' : Heap) (c' : Nat), callA mZ (run Tryz.prog mZ) 53 [.ptr nc 0 0, S s, B lp] h c = some (E e, h', c') ∧ c ≤ c' ∧ Keep h c h' ∧
      (e = 0 → ∃ ops pv cv' bv' b, Cm nc ml h' c' names (code ++ [⟨2, -1, 0, 0, pv, [ops]⟩]) (stk ++ [⟨b, code.length, -1, lp⟩]) nv cv' bv' ∧ Bal (min names.length 16) ops ∧ ops.length ≤ 60) := by
  rw [call_heap rfl, run_eq (show mZ 53 = some .heap from rfl) rfl, Tryz.func53]
  obtain ⟨e, h1, c1, e1, hc1, hk1, H⟩ := one_ev C h0 hn hs s hl hcl 2 (-1)
  cases g : (e == 0)
  · refine ⟨e, h1, c1, ?_, hc1, hk1, fun e0 => by rw [e0] at g; cases g⟩
    simp -implicitDefEqProofs [Tryz.f53, e1, g, -decide_eq_true_eq, -decide_eq_false_iff_not, -List.any_eq_true, -List.any_eq_false, -bne_iff_ne, -beq_iff_eq, -beq_eq_false_iff_ne, -bne_eq_false_iff_eq]
  · have ge : e = 0 := by simpa using g
    obtain ⟨ops, pv, cv', C1, Bo, q⟩ := H ge
    subst ge
    have hb := C1.blk
    have hnb := C1.nbc
    obtain ⟨cv1, hcv⟩ : ∃ n, cv' = .sl n 5 0 (code.length + 1) := by
      rcases C1.oc with ⟨_, g⟩ | ⟨n, g, _⟩
      · simp at g
      · exact ⟨n, by simpa using g⟩
    have kw : IntKind.i64.wrap (((code.length + 1 : Nat) : Int) - 1) = (code.length : Int) := by rw [wrap_id (by omega) (by omega)]; omega
    obtain ⟨p, hp⟩ : ∃ p, p = code.length + 1 := ⟨_, rfl⟩
    rw [← hp] at kw hcv
    let b : Bk := ⟨c1, code.length, -1, lp⟩
    have O1 : OutS 1 132 (h1.put c1 (some b.blk)) (c1 + 1) bv (ptrs stk) := C1.ob.frame (by omega) fun m _ hm => by simp; omega
    obtain ⟨bv2, h2, c2, e2, O2, G⟩ := outS_one (t := 56) (sz := 1) (by_ := 8) (z := [.val (.pointer none)]) O1 [.ptr c1 0 0] (some 132) rfl (by simp) (by simp) (by simp) (by simp) rfl (by simp; omega) (by simp; omega)
    obtain ⟨q1, q2, q3⟩ := O2.nopan
    have hnn : nm bv ≠ some nc := fun e => by
      obtain ⟨_, b', hb2, ht⟩ := C1.ob.ty e
      rw [hb] at hb2
      cases hb2
      simp at ht
    have hbc : nm bv ≠ some c1 := fun e => by have := (C1.ob.ty e).1; omega
    have hb2 : h2 nc = some ⟨4, [[nv, .mp ml, cv', bv]], some 58⟩ := by rw [G.get nc (by omega) hnn]; simp [hb]; omega
    have hbk : h2 c1 = some b.blk := by rw [G.get c1 (by omega) hbc]; simp
    have hnc : nc ≠ c1 := by omega
    have hnc1 : nc ≠ c1 + 1 := by omega
    have hle := G.le
    refine ⟨0, h2.put nc (some ⟨4, [[nv, .mp ml, cv', bv2]], some 58⟩), c2, ?_, by omega, (hk1.trans hc1 (Keep.fresh fun m hm => by simp; omega)).trans (Nat.le_trans hc1 (Nat.le_succ c1)) ((Keep.grow O1 (by decide) (by decide) G).trans hle (Keep.put hb2 (by simp) (by simp) _)), fun _ => ⟨ops, pv, cv', bv2, c1, ?_, Bo, q⟩⟩
    · subst hcv
      have hbb : b.blk = ⟨3, [[I code.length, I (-1), B lp]], some 134⟩ := rfl
      rw [hbb] at e2
      rcases C1.ob with ⟨rfl, _⟩ | ⟨n, rest, rfl, _⟩
      · simp -implicitDefEqProofs [Tryz.f53, e1, hb, hnc, hnc1, kw, lay_put, -appendA, e2, q1, q2, q3, hb2, -decide_eq_true_eq, -decide_eq_false_iff_not, -List.any_eq_true, -List.any_eq_false, -bne_iff_ne, -beq_iff_eq, -beq_eq_false_iff_ne, -bne_eq_false_iff_eq]
      · simp only [List.length_map] at e2
        simp -implicitDefEqProofs [Tryz.f53, e1, hb, hnc, hnc1, kw, lay_put, -appendA, e2, q1, q2, q3, hb2, -decide_eq_true_eq, -decide_eq_false_iff_not, -List.any_eq_true, -List.any_eq_false, -bne_iff_ne, -beq_iff_eq, -beq_eq_false_iff_ne, -bne_eq_false_iff_eq]
    · refine C1.push b ⟨Nat.le_refl _, by show c1 < c2; omega⟩ hbk (by omega) (fun m hm hne => ?_) (by simpa using O2) (fun m hm => ?_)
      · rw [G.get m (by omega) hne]
        simp
        omega
      · rcases G.new m hm with h3 | h3
        · exact .inl h3
        · exact .inr (by omega)
end Go.Proofs.YtmpcjfkfgjpebaaGreatDoor.AM
