/- Parts of the proof: Z19, Z20, Z21, Z22. -/
import Derived.Test.YtmpcjfkfgjpebaaGreatDoorZM1
set_option maxHeartbeats 0
set_option maxRecDepth 8000
set_option linter.unusedSimpArgs false
set_option linter.unusedVariables false
set_option linter.unusedSectionVars false
namespace Go.Proofs.YtmpcjfkfgjpebaaGreatDoor.AM
open Go Go.Proofs
attribute [local simp] fieldAddrA ld setCells stA skipV appendA hd makeA bnd kindA freshA killOk loadsAt edgesOn Region.binds newT empT lay_get allocA buildA buildRow lenA els indexAddrA isNil opA evA lit_int lit_bool lit_nil lit_nilf yldA binI unA pickA boolV intV fieldA mk eqs nilC mayP
@[simp] theorem bne_ss (a b : Nat) : ((some a : Option Nat) != some b) = (a != b) := by
  show (!(some a == some b)) = !(a == b)
  rfl
@[simp] theorem bne_ns (b : Nat) : ((none : Option Nat) != some b) = true := rfl
@[simp] theorem beq_ss (a b : Nat) : ((some a : Option Nat) == some b) = (a == b) := rfl
@[simp] theorem beq_ns (b : Nat) : ((none : Option Nat) == some b) = false := rfl
/-- An element of a program under way. -/
structure Ln where
  kind : Int
  nm : Int
  to : Int
  wd : Int
  pv : AV
  bodies : List (List (Int × Int))
def Ln.row (l : Ln) : List AV := [I l.kind, I l.nm, I l.to, I l.wd, l.pv]
abbrev bodR (bs : List (List (Int × Int))) : List (List AV) := bs.map fun b => [.ro false (opsE b)]
/-- A block that is open. -/
structure Bk where
  n : Nat
  at_ : Int
  ot : Int
  lp : Bool
def Bk.blk (b : Bk) : Blk := ⟨3, [[I b.at_, I b.ot, B b.lp]], some 134⟩
abbrev ptrs (stk : List Bk) : List (List AV) := stk.map fun b => [.ptr b.n 0 0]
/-- A row that may be the head of what lies in its block. -/
def OutS (z e : Nat) (h : Heap) (c : Nat) (v : AV) (es : List (List AV)) : Prop := (v = .ro true [] ∧ es = []) ∨ ∃ n rest, v = .sl n z 0 es.length ∧ n < c ∧ h n = some ⟨z, es ++ rest, some e⟩
theorem OutG.toS {z e : Nat} {h : Heap} {c : Nat} {v : AV} {es : List (List AV)} (O : OutG z e h c v es) : OutS z e h c v es := by
  rcases O with h | ⟨n, h1, h2, h3, h4⟩
  · exact .inl h
  · exact .inr ⟨n, [], h1, h3, by simpa using h4⟩
theorem OutS.nopan {z e : Nat} {h : Heap} {c : Nat} {v : AV} {es : List (List AV)} (O : OutS z e h c v es) : v.isPan = false ∧ okc v = true ∧ v.cells = [v] := by
  rcases O with ⟨rfl, _⟩ | ⟨n, _, rfl, _⟩ <;> exact ⟨rfl, rfl, rfl⟩
theorem OutS.frame {z e : Nat} {h h' : Heap} {c c' : Nat} {v : AV} {es : List (List AV)} (O : OutS z e h c v es) (hc : c ≤ c') (hh : ∀ m, nm v = some m → m < c → h' m = h m) : OutS z e h' c' v es := by
  rcases O with h | ⟨n, rest, rfl, h1, h2⟩
  · exact .inl h
  · exact .inr ⟨n, rest, rfl, by omega, by rw [hh n rfl h1, h2]⟩
/-- What lies under a row's name. -/
theorem OutS.ty {z e : Nat} {h : Heap} {c : Nat} {v : AV} {es : List (List AV)} (O : OutS z e h c v es) {m : Nat} (hm : nm v = some m) : m < c ∧ ∃ b, h m = some b ∧ b.ty = some e := by
  rcases O with ⟨rfl, _⟩ | ⟨n, rest, rfl, h1, h2⟩
  · cases hm
  · cases hm; exact ⟨h1, _, h2, rfl⟩
theorem OutG.ty {z e : Nat} {h : Heap} {c : Nat} {v : AV} {es : List (List AV)} (O : OutG z e h c v es) {m : Nat} (hm : nm v = some m) : m < c ∧ ∃ b, h m = some b ∧ b.ty = some e := O.toS.ty hm
/-- Blocks of other types have other names. -/
theorem ne_ty {h : Heap} {a b : Nat} {x y : Blk} (ha : h a = some x) (hb : h b = some y) (hne : x.ty ≠ y.ty) : a ≠ b := by
  intro e
  subst e
  rw [ha] at hb
  cases hb
  exact hne rfl
/-- The names and their places, as rows of a map. -/
def rowsN (names : List Str) : List (List AV) := names.zipIdx.map fun p => [S p.1, I (p.2 : Nat)]
/-- What a compiler works at. -/
structure Cm (nc ml : Nat) (h : Heap) (c : Nat) (names : List Str) (code : List Ln) (stk : List Bk) (nv cv bv : AV) : Prop where
  nbc : nc < c
  mlc : ml < c
  mp : h ml = some (mpBlk (rowsN names))
  blk : h nc = some ⟨4, [[nv, .mp ml, cv, bv]], some 58⟩
  on : OutG 1 9 h c nv (strs names)
  oc : OutG 5 52 h c cv (code.map Ln.row)
  ob : OutS 1 132 h c bv (ptrs stk)
  parts : ∀ l ∈ code, OutG 1 66 h c l.pv (bodR l.bodies)
  blks : ∀ b ∈ stk, b.n < c ∧ h b.n = some b.blk
  nd : (stk.map (·.n)).Nodup
/-- Elsewhere the memory turns. -/
theorem Cm.frame {nc ml : Nat} {h h' : Heap} {c c' : Nat} {names : List Str} {code : List Ln} {stk : List Bk} {nv cv bv : AV} (C : Cm nc ml h c names code stk nv cv bv) (hc : c ≤ c') (hh : ∀ m, m < c → h' m = h m) : Cm nc ml h' c' names code stk nv cv bv :=
  ⟨by have := C.nbc; omega, by have := C.mlc; omega, by rw [hh _ C.mlc, C.mp], by rw [hh _ C.nbc, C.blk], C.on.frame hc fun m _ hm => hh m hm, C.oc.frame hc fun m _ hm => hh m hm, C.ob.frame hc fun m _ hm => hh m hm,
    fun l hl => (C.parts l hl).frame hc fun m _ hm => hh m hm, fun b hb => ⟨by have := (C.blks b hb).1; omega, by rw [hh _ (C.blks b hb).1, (C.blks b hb).2]⟩, C.nd⟩
/-- The code has turned. -/
theorem Cm.code' {nc ml : Nat} {h h' : Heap} {c c' : Nat} {names : List Str} {code code2 : List Ln} {stk : List Bk} {nv cv bv cv2 : AV} (C : Cm nc ml h c names code stk nv cv bv) (hc : c ≤ c') (hh : ∀ m, m < c → nm cv ≠ some m → h' m = h m)
    (O : OutG 5 52 h' c' cv2 (code2.map Ln.row)) (hnew : ∀ m, nm cv2 = some m → nm cv = some m ∨ c ≤ m) (hp : ∀ l ∈ code2, OutG 1 66 h c l.pv (bodR l.bodies)) :
    Cm nc ml (h'.put nc (some ⟨4, [[nv, .mp ml, cv2, bv]], some 58⟩)) c' names code2 stk nv cv2 bv := by
  have hk : ∀ {m : Nat} {b : Blk}, m < c → h m = some b → b.ty ≠ some 52 → b.ty ≠ some 58 → (h'.put nc (some ⟨4, [[nv, .mp ml, cv2, bv]], some 58⟩)) m = h m := by
    intro m b hm hb h1 h2
    have a1 : m ≠ nc := ne_ty hb C.blk h2
    rw [put_get, if_neg a1]
    refine hh m hm fun e => ?_
    obtain ⟨_, b', hb', ht⟩ := C.oc.ty e
    rw [hb] at hb'
    cases hb'
    exact h1 ht
  have hnb := C.nbc
  refine ⟨by omega, by have := C.mlc; omega, ?_, by simp, ?_, ?_, ?_, fun l hl => ?_, fun b hb => ?_, C.nd⟩
  · rw [hk C.mlc C.mp (by simp [mpBlk]) (by simp [mpBlk]), C.mp]
  · refine C.on.frame hc fun m hm hmc => ?_
    obtain ⟨_, b, hb, ht⟩ := C.on.ty hm
    exact hk hmc hb (by rw [ht]; decide) (by rw [ht]; decide)
  · refine O.frame (Nat.le_refl _) fun m hm _ => ?_
    have : m ≠ nc := by
      rcases hnew m hm with h3 | h3
      · obtain ⟨_, b, hb, ht⟩ := C.oc.ty h3
        exact ne_ty hb C.blk (by rw [ht]; simp)
      · omega
    rw [put_get, if_neg this]
  · refine C.ob.frame hc fun m hm hmc => ?_
    obtain ⟨_, b, hb, ht⟩ := C.ob.ty hm
    exact hk hmc hb (by rw [ht]; decide) (by rw [ht]; decide)
  · refine (hp l hl).frame hc fun m hm hmc => ?_
    obtain ⟨_, b, hb, ht⟩ := (hp l hl).ty hm
    exact hk hmc hb (by rw [ht]; decide) (by rw [ht]; decide)
  · obtain ⟨b1, b2⟩ := C.blks b hb
    exact ⟨by omega, by rw [hk b1 b2 (by simp [Bk.blk]) (by simp [Bk.blk]), b2]⟩
/-- The callers' cells stay. -/
def Keep (h : Heap) (c : Nat) (h' : Heap) : Prop := ∀ m x, m < c → h m = some x → x.ty = some 26 ∨ x.ty = some 54 → h' m = h m
theorem Keep.refl (h : Heap) (c : Nat) : Keep h c h := fun _ _ _ _ _ => rfl
theorem Keep.trans {h h1 h2 : Heap} {c c1 : Nat} (a : Keep h c h1) (hc : c ≤ c1) (b : Keep h1 c1 h2) : Keep h c h2 := fun m x hm hx ht => by
  have e := a m x hm hx ht
  rw [b m x (by omega) (by rw [e, hx]) ht, e]
theorem Keep.fresh {h h' : Heap} {c : Nat} (hh : ∀ m, m < c → h' m = h m) : Keep h c h' := fun m _ hm _ _ => hh m hm
theorem Keep.add {h h' : Heap} {c : Nat} (hk : ∀ m x, m < c → h m = some x → x.ty ≠ some 52 → x.ty ≠ some 58 → h' m = h m) : Keep h c h' := fun m x hm hx ht => hk m x hm hx (by rcases ht with h | h <;> (rw [h]; decide)) (by rcases ht with h | h <;> (rw [h]; decide))
theorem Keep.put {h : Heap} {c n : Nat} {x : Blk} (hn : h n = some x) (h1 : x.ty ≠ some 26) (h2 : x.ty ≠ some 54) (b : Option Blk) : Keep h c (h.put n b) := fun m y _ hy ht => by
  have : m ≠ n := by
    intro e
    subst e
    rw [hn] at hy
    cases hy
    rcases ht with h | h
    · exact h1 h
    · exact h2 h
  rw [put_get, if_neg this]
theorem Keep.grow {z e : Nat} {h h' : Heap} {c c' : Nat} {v v' : AV} {es : List (List AV)} (O : OutS z e h c v es) (h1 : e ≠ 26) (h2 : e ≠ 54) (G : Grown h c v h' c' v') : Keep h c h' := fun m x hm hx ht => G.get m hm fun e' => by
  obtain ⟨_, b, hb, hbt⟩ := O.ty e'
  rw [hx] at hb
  cases hb
  rw [hbt] at ht
  simp at ht
  omega
/-- AN ELEMENT MORE. -/
theorem add_ev {nc ml : Nat} {h : Heap} {c : Nat} {names : List Str} {code : List Ln} {stk : List Bk} {nv cv bv : AV} (C : Cm nc ml h c names code stk nv cv bv) (l : Ln) (hl : OutG 1 66 h c l.pv (bodR l.bodies)) (hn : code.length ≤ 100000) :
    ∃ (h' : Heap) (c' : Nat) (cv' : AV), callA mZ (run Tryz.prog mZ) 51 [.ptr nc 0 0, .agg l.row] h c = some (.tup [], h', c') ∧ Cm nc ml h' c' names (code ++ [l]) stk nv cv' bv ∧ c ≤ c' ∧ ∀ m x, m < c → h m = some x → x.ty ≠ some 52 → x.ty ≠ some 58 → h' m = h m := by
  rw [call_heap rfl, run_eq (show mZ 51 = some .heap from rfl) rfl, Tryz.func51]
  have hb := C.blk
  have hnb := C.nbc
  obtain ⟨p1, p2, p3⟩ := hl.nopan
  have O1 : OutG 5 52 (h.put c (some ⟨5, [l.row], some 52⟩)) (c + 1) cv (code.map Ln.row) := C.oc.frame (by omega) fun m _ hm => by simp; omega
  obtain ⟨v', h', c', e, O', G⟩ := outG_one (t := 24) (sz := 5) (by_ := 56) (z := [I 0, I 0, I 0, I 0, .ro true []]) O1 l.row (some 52) rfl (by simp) (by simp) (by simp) (by simp) rfl (by simp; omega) (by simp; omega)
  obtain ⟨q1, q2, q3⟩ := O'.nopan
  obtain ⟨k, m1, t1, w1, pv, bodies⟩ := l
  simp only [Ln.row] at *
  have hle := G.le
  have hcn : nm cv ≠ some c := fun e => by have := (C.oc.ty e).1; omega
  have hnn : nm cv ≠ some nc := fun e => by
    obtain ⟨_, b, hb2, ht⟩ := C.oc.ty e
    rw [hb] at hb2
    cases hb2
    simp at ht
  have hb2 : h' nc = some ⟨4, [[nv, .mp ml, cv, bv]], some 58⟩ := by rw [G.get nc (by omega) hnn]; simp [hb]; omega
  have hnc : nc ≠ c := by omega
  have hnc1 : nc ≠ c + 1 := by omega
  have hkill : ∀ n z f g, cv = .sl n z f g → (c != n) = true := by
    rintro n z f g rfl
    simp
    intro e
    exact hcn (by rw [e]; rfl)
  refine ⟨h'.put nc (some ⟨4, [[nv, .mp ml, v', bv]], some 58⟩), c', v', ?_, ?_, by omega, fun m x hm hx h52 h58 => ?_⟩
  · rcases C.oc with ⟨rfl, _⟩ | ⟨n, rfl, _⟩
    · simp -implicitDefEqProofs [Tryz.f51, hb, hnc, hnc1, p2, lay_put, -appendA, e, q1, q2, q3, hb2, -decide_eq_true_eq, -decide_eq_false_iff_not, -List.any_eq_true, -List.any_eq_false, -bne_iff_ne, -beq_iff_eq, -beq_eq_false_iff_ne, -bne_eq_false_iff_eq]
    · have hk2 := hkill n _ _ _ rfl
      simp only [List.length_map] at e
      simp -implicitDefEqProofs [Tryz.f51, hb, hnc, hnc1, p2, lay_put, -appendA, e, q1, q2, q3, hb2, hk2, -decide_eq_true_eq, -decide_eq_false_iff_not, -List.any_eq_true, -List.any_eq_false, -bne_iff_ne, -beq_iff_eq, -beq_eq_false_iff_ne, -bne_eq_false_iff_eq]
  · refine C.code' (by omega) (fun m hm hne => ?_) (by simpa [Ln.row] using O') (fun m hm => ?_) (fun l2 hl2 => ?_)
    · rw [G.get m (by omega) hne]
      simp
      omega
    · rcases G.new m hm with h3 | h3
      · exact .inl h3
      · exact .inr (by omega)
    · rcases List.mem_append.1 hl2 with hl2 | hl2
      · exact C.parts l2 hl2
      · simp at hl2
        subst hl2
        exact hl
  · have a1 : m ≠ nc := ne_ty hx hb h58
    rw [put_get, if_neg a1, G.get m (by omega) (fun e => by
      obtain ⟨_, y, hy, ht⟩ := C.oc.ty e
      rw [hx] at hy
      cases hy
      exact h52 ht)]
    simp
    omega
theorem frzS {h : Heap} {n : Nat} (l : List Str) : (strs l).mapM (fun (e : List AV) => e.mapM (frz h (n + 1))) = some (strs l) := by
  induction l with
  | nil => rfl
  | cons x l ih =>
    simp only [strs, List.map_cons, List.mapM_cons] at ih ⊢
    rw [ih]
    rfl
theorem frzE {h : Heap} {n : Nat} (l : List (Int × Int)) : (opsE l).mapM (fun (e : List AV) => e.mapM (frz h (n + 1))) = some (opsE l) := by
  induction l with
  | nil => rfl
  | cons x l ih =>
    simp only [opsE, List.map_cons, List.mapM_cons] at ih ⊢
    rw [ih]
    rfl
theorem okE {h : Heap} {n : Nat} (l : List (Int × Int)) : ((opsE l).all fun (e : List AV) => e.all (okO h (n + 1))) = true := by
  rw [List.all_eq_true]
  intro e he
  obtain ⟨p, _, rfl⟩ := List.mem_map.1 he
  rfl
/-- What an expression is. -/
def ExpOk (na : Nat) (bv : AV) (e : Int) : Prop := (e = 0 ∧ ∃ ops, bv = .ro false (opsE ops) ∧ Bal na ops ∧ ops.length ≤ 60) ∨ e ≠ 0
/-- AN EXPRESSION is read: the memory stays. -/
theorem expression_ev {nc ml : Nat} {h : Heap} {c : Nat} {names : List Str} {code : List Ln} {stk : List Bk} {nv cv bv : AV} (C : Cm nc ml h c names code stk nv cv bv) (h0 : 0 < names.length) (hn : names.length ≤ 100000) (hs : ∀ s ∈ names, s.length ≤ 1000000) (s : Str) (hl : s.length ≤ 1000000) :
    ∃ (b : AV) (e : Int), callA mZ (run Tryz.prog mZ) 85 [.ptr nc 0 0, S s] h c = some (.tup [b, E e], h, c) ∧ ExpOk (min names.length 16) b e ∧ okc b = true ∧ b.isPan = false ∧ b.cells = [b] := by
  rw [call_heap rfl, run_eq (show mZ 85 = some .heap from rfl) rfl, Tryz.func85]
  have hb := C.blk
  obtain ⟨k, hk⟩ : ∃ k, k = min names.length 16 := ⟨_, rfl⟩
  obtain ⟨v, e, h', c', e1, H⟩ := expr_call false (names.take k) (by simp; omega) (fun s hs' => hs s (List.mem_of_mem_take hs')) s hl
  have hlen : (names.take k).length = k := by simp; omega
  rw [hlen] at H
  rcases C.on with ⟨_, g⟩ | ⟨n, rfl, g0, g1, g2⟩
  · exfalso
    have : names = [] := by simpa using g
    rw [this] at h0
    simp at h0
  have hmk : IntKind.i64.wrap (k : Int) = k := wrap_id (by omega) (by omega)
  have ha : ([.ro true [], .sl n 1 0 k, S s] : List AV).mapM (frz h depth) = some [.ro true [], .ro false (strs (names.take k)), S s] := by
    have h1 : els h (.sl n 1 0 k) = some (strs (names.take k)) := by
      simp only [els, g2, Option.bind_some]
      rw [if_pos (by simp; omega)]
      simp
    have h2 : frz h depth (.sl n 1 0 k) = some (.ro false (strs (names.take k))) := by
      show ((els h (.sl n 1 0 k)).bind fun es => (es.mapM fun (e : List AV) => e.mapM (frz h 11)).map (AV.ro false)) = _
      rw [h1, Option.bind_some, frzS]
      rfl
    simp only [List.mapM_cons, List.mapM_nil, frz_ro, frz_S12, h2]
    rfl
  obtain ⟨b, hb1, hb2, hb3, hb4, hb5⟩ : ∃ b, frz h' depth (.tup [v, E e]) = some (.tup [b, E e]) ∧ okO h' depth (.tup [v, E e]) = true ∧ ExpOk k b e ∧ okc b = true ∧ (b.isPan = false ∧ b.cells = [b]) := by
    rcases H with ⟨rfl, ops, O, B, q⟩ | ⟨he, rfl⟩
    · rcases O with ⟨rfl, h1⟩ | ⟨m, rfl, h1, h2, h3⟩
      · have : ops = [] := by simpa using h1
        subst this
        have := B 0
        simp [hgt] at this
      · have hel : els h' (.sl m 2 0 (opsE ops).length) = some (opsE ops) := by
          simp only [els, h3, Option.bind_some]
          rw [if_pos (by simp), List.drop_zero, List.take_length]
        refine ⟨.ro false (opsE ops), ?_, ?_, .inl ⟨rfl, ops, rfl, B, q⟩, rfl, rfl, rfl⟩
        · have h2 : frz h' 11 (.sl m 2 0 (opsE ops).length) = some (.ro false (opsE ops)) := by
            show ((els h' (.sl m 2 0 (opsE ops).length)).bind fun es => (es.mapM fun (e : List AV) => e.mapM (frz h' 10)).map (AV.ro false)) = _
            rw [hel, Option.bind_some, frzE]
            rfl
          show (([.sl m 2 0 (opsE ops).length, E 0] : List AV).mapM (frz h' 11)).map AV.tup = _
          simp only [List.mapM_cons, List.mapM_nil, h2]
          rfl
        · show ([.sl m 2 0 (opsE ops).length, E 0] : List AV).all (okO h' 11) = true
          have h2 : okO h' 11 (.sl m 2 0 (opsE ops).length) = true := by
            show (match els h' (.sl m 2 0 (opsE ops).length) with | some es => es.all fun (e : List AV) => e.all (okO h' 10) | none => false) = true
            rw [hel]
            exact okE ops
          simp only [List.all_cons, h2, List.all_nil]
          rfl
    · exact ⟨.ro true [], rfl, rfl, .inr he, rfl, rfl, rfl⟩
  have e2 : callA mZ (run Tryz.prog mZ) 120 [.ro true [], .sl n 1 0 k, S s] h c = some (.tup [b, E e], h, c) := by
    rw [call_pure _ _ _ _ _ _ rfl, ha, Option.bind_some, e1, Option.bind_some, hb1, Option.bind_some, hb2]
    simp
  refine ⟨b, e, ?_, by rw [← hk]; exact hb3, hb4, hb5.1, hb5.2⟩
  have hmin : (if (16 : Int) < (names.length : Int) then (16 : Int) else (names.length : Int)) = (k : Int) := by
    have hk' : (k = names.length ∧ names.length ≤ 16) ∨ (k = 16 ∧ 16 < names.length) := by
      rw [hk, Nat.min_def]
      split
      · exact .inl ⟨rfl, by assumption⟩
      · exact .inr ⟨rfl, by omega⟩
    clear hk
    rcases hk' with ⟨h1, h2⟩ | ⟨h1, h2⟩
    · rw [if_neg (by omega), h1]
    · rw [if_pos (by omega), h1]; rfl
  have hkl : k ≤ names.length := by omega
  have hkl2 : (k : Int) ≤ (names.length : Int) := by omega
  have hmb : ∀ (ts : List TypeId) (h : Heap) (c : Nat), builtinA Tryz.prog .min ts h c [I (names.length : Nat), I 16] = some (I (k : Nat), h, c) := by
    intro ts h c
    rw [← hmin]
    rfl
  simp -implicitDefEqProofs [Tryz.f85, hb, hmb, sliceA, hkl, hkl2, e2, -decide_eq_true_eq, -decide_eq_false_iff_not, -List.any_eq_true, -List.any_eq_false, -bne_iff_ne, -beq_iff_eq, -beq_eq_false_iff_ne, -bne_eq_false_iff_eq]
end Go.Proofs.YtmpcjfkfgjpebaaGreatDoor.AM
namespace Go.Proofs.YtmpcjfkfgjpebaaGreatDoor.AM
open Go Go.Proofs
attribute [local simp] fieldAddrA ld setCells stA skipV appendA hd makeA bnd kindA freshA killOk loadsAt edgesOn Region.binds newT empT lay_get allocA buildA buildRow lenA els indexAddrA isNil opA evA lit_int lit_bool lit_nil lit_nilf yldA binI unA pickA boolV intV fieldA mk eqs nilC mayP
theorem outS_one {t e sz by_ : Nat} {z : List AV} {h : Heap} {c : Nat} {v : AV} {es : List (List AV)} (O : OutS sz e h c v es) (r : List AV) (T : Option Nat) (hr : r.length = sz) (h1 : slT Tryz.prog t = some e) (h2 : szT Tryz.prog e = some sz) (h3 : byT Tryz.prog e = some by_) (h4 : zeT Tryz.prog e = some z) (hz : z.length = sz)
    (hl : (es.length + 1) * by_ ≤ 140737488355328) (hl2 : es.length + 1 ≤ 140737488355328) :
    ∃ v' h' c', appendA Tryz.prog t (h.put c (some ⟨sz, [r], T⟩)) (c + 1) v (.sl c sz 0 1) = some (v', h', c') ∧ OutG sz e h' c' v' (es ++ [r]) ∧ Grown h c v h' c' v' := by
  unfold appendA
  have hx : srcA (h.put c (some ⟨sz, [r], T⟩)) (.sl c sz 0 1) = some [r] := by simp
  have hd : AM.hd [r] sz = true := by simp [hr]
  simp only [h1, h2, h3, h4, hx, Option.bind_some, hz, hd, and_self, if_true, List.isEmpty_cons, Bool.false_eq_true, if_false]
  rcases O with ⟨rfl, rfl⟩ | ⟨n, rest, rfl, g1, g2⟩
  · simp only [List.length_nil, Nat.zero_add] at hl hl2
    have hc : [r].length * by_ ≤ room ∧ [r].length ≤ room := ⟨hl, hl2⟩
    simp only [hc, and_self, if_true]
    exact ⟨_, _, _, rfl, .inr ⟨c + 1, by simp, by simp, by omega, by simp⟩, ⟨by omega, fun m hm _ => by
      have a1 : m ≠ c := by omega
      have a3 : m ≠ c + 1 := by omega
      simp [a1, a3], fun m hm => by simp at hm; omega⟩⟩
  · have hnc : n ≠ c := by omega
    have he : els (h.put c (some ⟨sz, [r], T⟩)) (.sl n sz 0 es.length) = some es := by
      simp [g2, hnc]
    have hc : (es.length + [r].length) * by_ ≤ room ∧ es.length + [r].length ≤ room := ⟨hl, hl2⟩
    simp only [he, Option.bind_some, hc, and_self, if_true]
    refine ⟨_, _, _, rfl, .inr ⟨c + 1, by simp, by simp, by omega, ?_⟩, ⟨by omega, fun m hm hne => ?_, fun m hm => by simp at hm; omega⟩⟩
    · simp [g2, tyK, hnc]
    · have a1 : m ≠ c := by omega
      have a2 : m ≠ n := fun e => hne (by rw [e]; rfl)
      have a3 : m ≠ c + 1 := by omega
      simp [a1, a2, a3]
/-- One more block is open. -/
theorem Cm.push {nc ml : Nat} {h h' : Heap} {c c' : Nat} {names : List Str} {code : List Ln} {stk : List Bk} {nv cv bv bv2 : AV} (C : Cm nc ml h c names code stk nv cv bv) (b : Bk) (hbn : c ≤ b.n ∧ b.n < c') (hbk : h' b.n = some b.blk) (hc : c ≤ c') (hh : ∀ m, m < c → nm bv ≠ some m → h' m = h m)
    (O : OutG 1 132 h' c' bv2 (ptrs (stk ++ [b]))) (hnew : ∀ m, nm bv2 = some m → nm bv = some m ∨ c ≤ m) :
    Cm nc ml (h'.put nc (some ⟨4, [[nv, .mp ml, cv, bv2]], some 58⟩)) c' names code (stk ++ [b]) nv cv bv2 := by
  have hk : ∀ {m : Nat} {x : Blk}, m < c → h m = some x → x.ty ≠ some 132 → x.ty ≠ some 58 → (h'.put nc (some ⟨4, [[nv, .mp ml, cv, bv2]], some 58⟩)) m = h m := by
    intro m x hm hb h1 h2
    have a1 : m ≠ nc := ne_ty hb C.blk h2
    rw [put_get, if_neg a1]
    refine hh m hm fun e => ?_
    obtain ⟨_, b', hb', ht⟩ := C.ob.ty e
    rw [hb] at hb'
    cases hb'
    exact h1 ht
  have hnb := C.nbc
  refine ⟨by omega, by have := C.mlc; omega, ?_, by simp, ?_, ?_, ?_, fun l hl => ?_, fun x hx => ?_, ?_⟩
  · rw [hk C.mlc C.mp (by simp [mpBlk]) (by simp [mpBlk]), C.mp]
  · refine C.on.frame hc fun m hm hmc => ?_
    obtain ⟨_, b, hb, ht⟩ := C.on.ty hm
    exact hk hmc hb (by rw [ht]; decide) (by rw [ht]; decide)
  · refine C.oc.frame hc fun m hm hmc => ?_
    obtain ⟨_, b, hb, ht⟩ := C.oc.ty hm
    exact hk hmc hb (by rw [ht]; decide) (by rw [ht]; decide)
  · refine (O.frame (Nat.le_refl _) fun m hm _ => ?_).toS
    have : m ≠ nc := by
      rcases hnew m hm with h3 | h3
      · obtain ⟨_, b, hb, ht⟩ := C.ob.ty h3
        exact ne_ty hb C.blk (by rw [ht]; simp)
      · omega
    rw [put_get, if_neg this]
  · refine (C.parts l hl).frame hc fun m hm hmc => ?_
    obtain ⟨_, b, hb, ht⟩ := (C.parts l hl).ty hm
    exact hk hmc hb (by rw [ht]; decide) (by rw [ht]; decide)
  · rcases List.mem_append.1 hx with hx | hx
    · obtain ⟨b1, b2⟩ := C.blks x hx
      exact ⟨by omega, by rw [hk b1 b2 (by simp [Bk.blk]) (by simp [Bk.blk]), b2]⟩
    · simp at hx
      subst hx
      have : x.n ≠ nc := by omega
      exact ⟨hbn.2, by rw [put_get, if_neg this, hbk]⟩
  · rw [List.map_append, List.nodup_append]
    refine ⟨C.nd, by simp, fun a ha b' hb' e => ?_⟩
    simp at hb'
    obtain ⟨x, hx, rfl⟩ := List.mem_map.1 ha
    have := (C.blks x hx).1
    omega
/-- An element with one expression. -/
theorem one_ev {nc ml : Nat} {h : Heap} {c : Nat} {names : List Str} {code : List Ln} {stk : List Bk} {nv cv bv : AV} (C : Cm nc ml h c names code stk nv cv bv) (h0 : 0 < names.length) (hn : names.length ≤ 100000) (hs : ∀ s ∈ names, s.length ≤ 1000000) (s : Str) (hl : s.length ≤ 1000000) (hcl : code.length ≤ 100000) (k n : Int) :
    ∃ (e : Int) (h' : Heap) (c' : Nat), callA mZ (run Tryz.prog mZ) 54 [.ptr nc 0 0, I k, I n, S s] h c = some (E e, h', c') ∧ c ≤ c' ∧ Keep h c h' ∧
      (e = 0 → ∃ ops pv cv', Cm nc ml h' c' names (code ++ [⟨k, n, 0, 0, pv, [ops]⟩]) stk nv cv' bv ∧ Bal (min names.length 16) ops ∧ ops.length ≤ 60) := by
  rw [call_heap rfl, run_eq (show mZ 54 = some .heap from rfl) rfl, Tryz.func54]
  obtain ⟨b, e, e1, H, b1, b2, b3⟩ := expression_ev C h0 hn hs s hl
  cases g : (e == 0)
  · refine ⟨e, h, c, ?_, Nat.le_refl _, Keep.refl _ _, fun e0 => by rw [e0] at g; cases g⟩
    simp -implicitDefEqProofs [Tryz.f54, e1, b1, b2, b3, g, putV_np, -decide_eq_true_eq, -decide_eq_false_iff_not, -List.any_eq_true, -List.any_eq_false, -bne_iff_ne, -beq_iff_eq, -beq_eq_false_iff_ne, -bne_eq_false_iff_eq]
  · have ge : e = 0 := by simpa using g
    rcases H with ⟨_, ops, hb, B, q⟩ | he
    rotate_left
    · exact absurd ge he
    subst hb
    have C1 : Cm nc ml (h.put c (some ⟨1, [[.ro false (opsE ops)]], some 66⟩)) (c + 1) names code stk nv cv bv := C.frame (by omega) fun m hm => by simp; omega
    obtain ⟨h', c', cv', e2, C2, hc, hkp⟩ := add_ev C1 ⟨k, n, 0, 0, .sl c 1 0 1, [ops]⟩ (.inr ⟨c, rfl, by simp, by omega, by simp⟩) hcl
    refine ⟨0, h', c', ?_, by omega, (Keep.fresh fun m hm => by simp; omega).trans (Nat.le_succ c) (Keep.add hkp), fun _ => ⟨ops, _, cv', C2, B, q⟩⟩
    subst ge
    simp only [Ln.row] at e2
    simp -implicitDefEqProofs [Tryz.f54, e1, e2, -decide_eq_true_eq, -decide_eq_false_iff_not, -List.any_eq_true, -List.any_eq_false, -bne_iff_ne, -beq_iff_eq, -beq_eq_false_iff_ne, -bne_eq_false_iff_eq]
/-- A block is opened. -/
theorem open'_ev {nc ml : Nat} {h : Heap} {c : Nat} {names : List Str} {code : List Ln} {stk : List Bk} {nv cv bv : AV} (C : Cm nc ml h c names code stk nv cv bv) (h0 : 0 < names.length) (hn : names.length ≤ 100000) (hs : ∀ s ∈ names, s.length ≤ 1000000) (s : Str) (hl : s.length ≤ 1000000) (hcl : code.length ≤ 100000) (hsl : stk.length ≤ 100000) (lp : Bool) :
    ∃ (e : Int) (h' : Heap) (c' : Nat), callA mZ (run Tryz.prog mZ) 53 [.ptr nc 0 0, S s, B lp] h c = some (E e, h', c') ∧ c ≤ c' ∧ Keep h c h' ∧
      (e = 0 → ∃ ops pv cv' bv' b, Cm nc ml h' c' names (code ++ [⟨2, -1, 0, 0, pv, [ops]⟩]) (stk ++ [⟨b, code.length, -1, lp⟩]) nv cv' bv' ∧ Bal (min names.length 16) ops ∧ ops.length ≤ 60) := by
  rw [call_heap rfl, run_eq (show mZ 53 = some .heap from rfl) rfl, Tryz.func53]
  obtain ⟨e, h1, c1, e1, hc1, hk1, H⟩ := one_ev C h0 hn hs s hl hcl 2 (-1)
  cases g : (e == 0)
  · refine ⟨e, h1, c1, ?_, hc1, hk1, fun e0 => by rw [e0] at g; cases g⟩
    simp -implicitDefEqProofs [Tryz.f53, e1, g, -decide_eq_true_eq, -decide_eq_false_iff_not, -List.any_eq_true, -List.any_eq_false, -bne_iff_ne, -beq_iff_eq, -beq_eq_false_iff_ne, -bne_eq_false_iff_eq]
  · have ge : e = 0 := by simpa using g
    obtain ⟨ops, pv, cv', C1, Bo, q⟩ := H ge
    subst ge
    have hb := C1.blk
    have hnb := C1.nbc
    obtain ⟨cv1, hcv⟩ : ∃ n, cv' = .sl n 5 0 (code.length + 1) := by
      rcases C1.oc with ⟨_, g⟩ | ⟨n, g, _⟩
      · simp at g
      · exact ⟨n, by simpa using g⟩
    have kw : IntKind.i64.wrap (((code.length + 1 : Nat) : Int) - 1) = (code.length : Int) := by rw [wrap_id (by omega) (by omega)]; omega
    obtain ⟨p, hp⟩ : ∃ p, p = code.length + 1 := ⟨_, rfl⟩
    rw [← hp] at kw hcv
    let b : Bk := ⟨c1, code.length, -1, lp⟩
    have O1 : OutS 1 132 (h1.put c1 (some b.blk)) (c1 + 1) bv (ptrs stk) := C1.ob.frame (by omega) fun m _ hm => by simp; omega
    obtain ⟨bv2, h2, c2, e2, O2, G⟩ := outS_one (t := 56) (sz := 1) (by_ := 8) (z := [.val (.pointer none)]) O1 [.ptr c1 0 0] (some 132) rfl (by simp) (by simp) (by simp) (by simp) rfl (by simp; omega) (by simp; omega)
    obtain ⟨q1, q2, q3⟩ := O2.nopan
    have hnn : nm bv ≠ some nc := fun e => by
      obtain ⟨_, b', hb2, ht⟩ := C1.ob.ty e
      rw [hb] at hb2
      cases hb2
      simp at ht
    have hbc : nm bv ≠ some c1 := fun e => by have := (C1.ob.ty e).1; omega
    have hb2 : h2 nc = some ⟨4, [[nv, .mp ml, cv', bv]], some 58⟩ := by rw [G.get nc (by omega) hnn]; simp [hb]; omega
    have hbk : h2 c1 = some b.blk := by rw [G.get c1 (by omega) hbc]; simp
    have hnc : nc ≠ c1 := by omega
    have hnc1 : nc ≠ c1 + 1 := by omega
    have hle := G.le
    refine ⟨0, h2.put nc (some ⟨4, [[nv, .mp ml, cv', bv2]], some 58⟩), c2, ?_, by omega, (hk1.trans hc1 (Keep.fresh fun m hm => by simp; omega)).trans (Nat.le_trans hc1 (Nat.le_succ c1)) ((Keep.grow O1 (by decide) (by decide) G).trans hle (Keep.put hb2 (by simp) (by simp) _)), fun _ => ⟨ops, pv, cv', bv2, c1, ?_, Bo, q⟩⟩
    · subst hcv
      have hbb : b.blk = ⟨3, [[I code.length, I (-1), B lp]], some 134⟩ := rfl
      rw [hbb] at e2
      rcases C1.ob with ⟨rfl, _⟩ | ⟨n, rest, rfl, _⟩
      · simp -implicitDefEqProofs [Tryz.f53, e1, hb, hnc, hnc1, kw, lay_put, -appendA, e2, q1, q2, q3, hb2, -decide_eq_true_eq, -decide_eq_false_iff_not, -List.any_eq_true, -List.any_eq_false, -bne_iff_ne, -beq_iff_eq, -beq_eq_false_iff_ne, -bne_eq_false_iff_eq]
      · simp only [List.length_map] at e2
        simp -implicitDefEqProofs [Tryz.f53, e1, hb, hnc, hnc1, kw, lay_put, -appendA, e2, q1, q2, q3, hb2, -decide_eq_true_eq, -decide_eq_false_iff_not, -List.any_eq_true, -List.any_eq_false, -bne_iff_ne, -beq_iff_eq, -beq_eq_false_iff_ne, -bne_eq_false_iff_eq]
    · refine C1.push b ⟨Nat.le_refl _, by show c1 < c2; omega⟩ hbk (by omega) (fun m hm hne => ?_) (by simpa using O2) (fun m hm => ?_)
      · rw [G.get m (by omega) hne]
        simp
        omega
      · rcases G.new m hm with h3 | h3
        · exact .inl h3
        · exact .inr (by omega)
end Go.Proofs.YtmpcjfkfgjpebaaGreatDoor.AM
namespace Go.Proofs.YtmpcjfkfgjpebaaGreatDoor.AM
open Go Go.Proofs
attribute [local simp] fieldAddrA ld setCells stA skipV appendA hd makeA bnd kindA freshA killOk loadsAt edgesOn Region.binds newT empT lay_get allocA buildA buildRow lenA els indexAddrA isNil opA evA lit_int lit_bool lit_nil lit_nilf yldA binI unA pickA boolV intV fieldA mk eqs nilC mayP
theorem Cm.top {nc ml : Nat} {h : Heap} {c : Nat} {names : List Str} {code : List Ln} {stk0 : List Bk} {b : Bk} {nv cv bv : AV} (C : Cm nc ml h c names code (stk0 ++ [b]) nv cv bv) :
    ∃ n rest, bv = .sl n 1 0 (stk0.length + 1) ∧ n < c ∧ h n = some ⟨1, ptrs stk0 ++ ([.ptr b.n 0 0] :: rest), some 132⟩ := by
  rcases C.ob with ⟨_, g⟩ | ⟨n, rest, h1, h2, h3⟩
  · simp at g
  · exact ⟨n, rest, by simpa using h1, h2, by rw [h3]; simp⟩
theorem at_top (stk0 : List Bk) (b : Bk) (rest : List (List AV)) : (ptrs stk0 ++ ([.ptr b.n 0 0] :: rest))[stk0.length]? = some [.ptr b.n 0 0] := by
  rw [List.getElem?_append_right (by simp)]
  simp
/-- The innermost block turns. -/
theorem Cm.setTop {nc ml : Nat} {h : Heap} {c : Nat} {names : List Str} {code : List Ln} {stk0 : List Bk} {b b' : Bk} {nv cv bv : AV} (C : Cm nc ml h c names code (stk0 ++ [b]) nv cv bv) (hn : b'.n = b.n) :
    Cm nc ml (h.put b.n (some b'.blk)) c names code (stk0 ++ [b']) nv cv bv := by
  have hbb := C.blks b (by simp)
  have hk : ∀ {m : Nat} {x : Blk}, h m = some x → x.ty ≠ some 134 → (h.put b.n (some b'.blk)) m = h m := by
    intro m x hm ht
    have a1 : m ≠ b.n := ne_ty hm hbb.2 ht
    rw [put_get, if_neg a1]
  have hp : ptrs (stk0 ++ [b']) = ptrs (stk0 ++ [b]) := by simp [hn]
  refine ⟨C.nbc, C.mlc, ?_, ?_, ?_, ?_, ?_, fun l hl => ?_, fun x hx => ?_, ?_⟩
  · rw [hk C.mp (by simp [mpBlk]), C.mp]
  · rw [hk C.blk (by simp), C.blk]
  · refine C.on.frame (Nat.le_refl _) fun m hm _ => ?_
    obtain ⟨_, y, hy, ht⟩ := C.on.ty hm
    exact hk hy (by rw [ht]; decide)
  · refine C.oc.frame (Nat.le_refl _) fun m hm _ => ?_
    obtain ⟨_, y, hy, ht⟩ := C.oc.ty hm
    exact hk hy (by rw [ht]; decide)
  · rw [hp]
    refine C.ob.frame (Nat.le_refl _) fun m hm _ => ?_
    obtain ⟨_, y, hy, ht⟩ := C.ob.ty hm
    exact hk hy (by rw [ht]; decide)
  · refine (C.parts l hl).frame (Nat.le_refl _) fun m hm _ => ?_
    obtain ⟨_, y, hy, ht⟩ := (C.parts l hl).ty hm
    exact hk hy (by rw [ht]; decide)
  · rcases List.mem_append.1 hx with hx | hx
    · obtain ⟨b1, b2⟩ := C.blks x (by simp [hx])
      have hne : x.n ≠ b.n := by
        intro e
        have hnd := C.nd
        rw [List.map_append, List.nodup_append] at hnd
        exact hnd.2.2 x.n (List.mem_map.2 ⟨x, hx, rfl⟩) b.n (by simp) e
      exact ⟨b1, by rw [put_get, if_neg hne, b2]⟩
    · simp at hx
      subst hx
      rw [hn]
      exact ⟨hbb.1, by simp⟩
  · have := C.nd
    simpa [hn] using this
/-- The code's row. -/
theorem Cm.codeAt {nc ml : Nat} {h : Heap} {c : Nat} {names : List Str} {code : List Ln} {stk : List Bk} {nv cv bv : AV} (C : Cm nc ml h c names code stk nv cv bv) (hne : code ≠ []) : ∃ n, cv = .sl n 5 0 code.length ∧ n < c ∧ h n = some ⟨5, code.map Ln.row, some 52⟩ := by
  rcases C.oc with ⟨_, g⟩ | ⟨n, h1, h2, h3, h4⟩
  · exact absurd (by simpa using g) hne
  · exact ⟨n, by simpa using h1, h3, h4⟩
/-- A jump's place is set. -/
theorem Cm.patch {nc ml : Nat} {h : Heap} {c : Nat} {names : List Str} {code : List Ln} {stk : List Bk} {nv cv bv : AV} (C : Cm nc ml h c names code stk nv cv bv) {n i : Nat} {l : Ln} (hcv : cv = .sl n 5 0 code.length) (hi : code[i]? = some l) (k : Int) :
    Cm nc ml (h.put n (some ⟨5, (code.map Ln.row).set i [I l.kind, I l.nm, I k, I l.wd, l.pv], some 52⟩)) c names (code.set i { l with to := k }) stk nv cv bv := by
  have hnb : h n = some ⟨5, code.map Ln.row, some 52⟩ := by
    obtain ⟨n', h1, h2, h3⟩ := C.codeAt (fun e => by rw [e] at hi; simp at hi)
    rw [hcv] at h1
    cases h1
    exact h3
  have hlt := (C.oc.ty (by rw [hcv]; rfl)).1
  have hk : ∀ {m : Nat} {x : Blk}, h m = some x → x.ty ≠ some 52 → (h.put n (some ⟨5, (code.map Ln.row).set i [I l.kind, I l.nm, I k, I l.wd, l.pv], some 52⟩)) m = h m := by
    intro m x hm ht
    have a1 : m ≠ n := ne_ty hm hnb ht
    rw [put_get, if_neg a1]
  have hrow : (code.map Ln.row).set i [I l.kind, I l.nm, I k, I l.wd, l.pv] = (code.set i { l with to := k }).map Ln.row := by
    rw [List.map_set]
    rfl
  refine ⟨C.nbc, C.mlc, ?_, ?_, ?_, ?_, ?_, fun x hx => ?_, fun x hx => ?_, C.nd⟩
  · rw [hk C.mp (by simp [mpBlk]), C.mp]
  · rw [hk C.blk (by simp), C.blk]
  · refine C.on.frame (Nat.le_refl _) fun m hm _ => ?_
    obtain ⟨_, y, hy, ht⟩ := C.on.ty hm
    exact hk hy (by rw [ht]; decide)
  · refine .inr ⟨n, by rw [hcv]; simp, ?_, hlt, by rw [hrow]; simp⟩
    intro e
    have := congrArg List.length e
    have h5 := (List.getElem?_eq_some_iff.1 hi).1
    simp at this
    rw [this] at h5
    simp at h5
  · refine C.ob.frame (Nat.le_refl _) fun m hm _ => ?_
    obtain ⟨_, y, hy, ht⟩ := C.ob.ty hm
    exact hk hy (by rw [ht]; decide)
  · have hp : OutG 1 66 h c x.pv (bodR x.bodies) := by
      rcases List.mem_or_eq_of_mem_set hx with hx | rfl
      · exact C.parts x hx
      · exact C.parts l (List.mem_of_getElem? hi)
    refine hp.frame (Nat.le_refl _) fun m hm _ => ?_
    obtain ⟨_, y, hy, ht⟩ := hp.ty hm
    exact hk hy (by rw [ht]; decide)
  · obtain ⟨b1, b2⟩ := C.blks x hx
    exact ⟨b1, by rw [hk b2 (by simp [Bk.blk]), b2]⟩
/-- The innermost block is shut. -/
theorem Cm.pop {nc ml : Nat} {h : Heap} {c : Nat} {names : List Str} {code : List Ln} {stk0 : List Bk} {b : Bk} {nv cv bv : AV} (C : Cm nc ml h c names code (stk0 ++ [b]) nv cv bv) {n : Nat} (hbv : bv = .sl n 1 0 (stk0.length + 1)) :
    Cm nc ml (h.put nc (some ⟨4, [[nv, .mp ml, cv, .sl n 1 0 stk0.length]], some 58⟩)) c names code stk0 nv cv (.sl n 1 0 stk0.length) := by
  obtain ⟨n', rest, h1, h2, h3⟩ := C.top
  rw [hbv] at h1
  cases h1
  have hk : ∀ {m : Nat} {x : Blk}, h m = some x → x.ty ≠ some 58 → (h.put nc (some ⟨4, [[nv, .mp ml, cv, .sl n 1 0 stk0.length]], some 58⟩)) m = h m := by
    intro m x hm ht
    have a1 : m ≠ nc := ne_ty hm C.blk ht
    rw [put_get, if_neg a1]
  refine ⟨C.nbc, C.mlc, ?_, by simp, ?_, ?_, ?_, fun x hx => ?_, fun x hx => ?_, ?_⟩
  · rw [hk C.mp (by simp [mpBlk]), C.mp]
  · refine C.on.frame (Nat.le_refl _) fun m hm _ => ?_
    obtain ⟨_, y, hy, ht⟩ := C.on.ty hm
    exact hk hy (by rw [ht]; decide)
  · refine C.oc.frame (Nat.le_refl _) fun m hm _ => ?_
    obtain ⟨_, y, hy, ht⟩ := C.oc.ty hm
    exact hk hy (by rw [ht]; decide)
  · exact .inr ⟨n, [.ptr b.n 0 0] :: rest, by simp, h2, by rw [hk h3 (by simp), h3]⟩
  · refine (C.parts x hx).frame (Nat.le_refl _) fun m hm _ => ?_
    obtain ⟨_, y, hy, ht⟩ := (C.parts x hx).ty hm
    exact hk hy (by rw [ht]; decide)
  · obtain ⟨b1, b2⟩ := C.blks x (by simp [hx])
    exact ⟨b1, by rw [hk b2 (by simp [Bk.blk]), b2]⟩
  · have := C.nd
    rw [List.map_append, List.nodup_append] at this
    exact this.1
/-- The blocks lead into the code. -/
def StkOk (code : List Ln) (stk : List Bk) : Prop := ∀ b ∈ stk, (∃ (k : Nat) (l : Ln), b.at_ = k ∧ code[k]? = some l ∧ l.kind = 2) ∧ (b.ot = -1 ∨ ∃ (k : Nat) (l : Ln), b.ot = k ∧ code[k]? = some l ∧ l.kind = 1)
/-- AN ELSE. -/
theorem else_ev {nc ml : Nat} {h : Heap} {c : Nat} {names : List Str} {code : List Ln} {stk : List Bk} {nv cv bv : AV} (C : Cm nc ml h c names code stk nv cv bv) (K : StkOk code stk) (hcl : code.length ≤ 100000) (hsl : stk.length ≤ 100000) :
    ∃ (e : Int) (h' : Heap) (c' : Nat), callA mZ (run Tryz.prog mZ) 49 [.ptr nc 0 0] h c = some (E e, h', c') ∧ c ≤ c' ∧ Keep h c h' ∧
      (e = 0 → ∃ (stk0 : List Bk) (b : Bk) (k : Nat) (l : Ln) (cv' : AV), stk = stk0 ++ [b] ∧ b.ot < 0 ∧ b.at_ = (k : Int) ∧ code[k]? = some l ∧ l.kind = 2 ∧ Cm nc ml h' c' names ((code ++ [(⟨1, -1, 0, 0, .ro true [], []⟩ : Ln)]).set k { l with to := (code.length + 1 : Nat) }) (stk0 ++ [{ b with ot := code.length }]) nv cv' bv) := by
  rw [call_heap rfl, run_eq (show mZ 49 = some .heap from rfl) rfl, Tryz.func49]
  have hb := C.blk
  have hnb := C.nbc
  rcases List.eq_nil_or_concat stk with rfl | ⟨stk0, b, hstk⟩
  · refine ⟨14, h, c, ?_, Nat.le_refl _, Keep.refl _ _, fun e => by cases e⟩
    rcases C.ob with ⟨rfl, _⟩ | ⟨n, rest, rfl, _⟩
    · simp -implicitDefEqProofs [Tryz.f49, hb, -decide_eq_true_eq, -decide_eq_false_iff_not, -List.any_eq_true, -List.any_eq_false, -bne_iff_ne, -beq_iff_eq, -beq_eq_false_iff_ne, -bne_eq_false_iff_eq]
    · simp -implicitDefEqProofs [Tryz.f49, hb, -decide_eq_true_eq, -decide_eq_false_iff_not, -List.any_eq_true, -List.any_eq_false, -bne_iff_ne, -beq_iff_eq, -beq_eq_false_iff_ne, -bne_eq_false_iff_eq]
  · rw [List.concat_eq_append] at hstk
    subst hstk
    obtain ⟨n, rest, hbv, hn, hh⟩ := C.top
    have hbb := (C.blks b (by simp)).2
    obtain ⟨⟨k, l, hat, hl, hlk⟩, _⟩ := K b (by simp)
    have hB : b.blk = ⟨3, [[I b.at_, I b.ot, B b.lp]], some 134⟩ := rfl
    rw [hB] at hbb
    have kw : IntKind.i64.wrap (((stk0.length + 1 : Nat) : Int) - 1) = (stk0.length : Int) := by rw [wrap_id (by simp at hsl; omega) (by simp at hsl; omega)]; omega
    have kw2 : (((stk0.length + 1 : Nat) : Int) == 0) = false := by simp; omega
    have hx : (ptrs stk0 ++ ([.ptr b.n 0 0] :: rest))[stk0.length]? = some [.ptr b.n 0 0] := at_top _ _ _
    have hx0 : stk0.length < stk0.length + 1 := by omega
    generalize ptrs stk0 ++ ([.ptr b.n 0 0] :: rest) = rows at hh hx
    obtain ⟨p, hp⟩ : ∃ p, p = stk0.length + 1 := ⟨_, rfl⟩
    rw [← hp] at kw kw2 hbv hx0
    subst hbv
    have hx1 : (stk0.length : Int) < (p : Int) := by omega
    cases g1 : b.lp
    rotate_left
    · rw [g1] at hbb
      refine ⟨14, h, c, ?_, Nat.le_refl _, Keep.refl _ _, fun e => by cases e⟩
      simp -implicitDefEqProofs [Tryz.f49, hb, kw, kw2, hh, hx, hx0, hx1, hbb, g1, -decide_eq_true_eq, -decide_eq_false_iff_not, -List.any_eq_true, -List.any_eq_false, -bne_iff_ne, -beq_iff_eq, -beq_eq_false_iff_ne, -bne_eq_false_iff_eq]
    · rw [g1] at hbb
      cases g2 : decide (0 ≤ b.ot)
      rotate_left
      · refine ⟨14, h, c, ?_, Nat.le_refl _, Keep.refl _ _, fun e => by cases e⟩
        simp -implicitDefEqProofs [Tryz.f49, hb, kw, kw2, hh, hx, hx0, hx1, hbb, g1, g2, -decide_eq_true_eq, -decide_eq_false_iff_not, -List.any_eq_true, -List.any_eq_false, -bne_iff_ne, -beq_iff_eq, -beq_eq_false_iff_ne, -bne_eq_false_iff_eq]
      · have g2' : b.ot < 0 := by rw [decide_eq_false_iff_not] at g2; omega
        have hcne : code ≠ [] := fun e => by rw [e] at hl; simp at hl
        obtain ⟨m, hcv, hm, hmm⟩ := C.codeAt hcne
        have C1 := C.setTop (b' := { b with ot := code.length }) rfl
        have hB1 : ({ b with ot := code.length } : Bk).blk = ⟨3, [[I b.at_, I code.length, B false]], some 134⟩ := by rw [← g1]; rfl
        have hbn : b.n ≠ nc := ne_ty hbb hb (by simp)
        obtain ⟨h2, c2, cv2, e2, C2, hc2, hkp⟩ := add_ev C1 ⟨1, -1, 0, 0, .ro true [], []⟩ (.inl ⟨rfl, rfl⟩) hcl
        have hb2 := C2.blk
        have hbb2 : h2 b.n = some ({ b with ot := code.length } : Bk).blk := (C2.blks { b with ot := code.length } (by simp)).2
        rw [hB1, hat] at hbb2
        obtain ⟨m2, hcv2, hm2, hmm2⟩ := C2.codeAt (by simp)
        have hkl := (List.getElem?_eq_some_iff.1 hl).1
        have hl2 : (code ++ [(⟨1, -1, 0, 0, .ro true [], []⟩ : Ln)] : List Ln)[k]? = some l := by rw [List.getElem?_append_left hkl]; exact hl
        have C3 := C2.patch hcv2 hl2 ((code.length + 1 : Nat) : Int)
        refine ⟨0, _, c2, ?_, hc2, ((Keep.put hbb (by simp) (by simp) _).trans (Nat.le_refl _) (Keep.add hkp)).trans hc2 (Keep.put hmm2 (by simp) (by simp) _), fun _ => ⟨stk0, b, k, l, cv2, rfl, g2', hat, hl, hlk, C3⟩⟩
        rw [hB1, hat] at e2
        simp only [Ln.row] at e2
        subst hcv2
        have hrow : ((code ++ [(⟨1, -1, 0, 0, .ro true [], []⟩ : Ln)] : List Ln).map Ln.row)[k]? = some [I l.kind, I l.nm, I l.to, I l.wd, l.pv] := by rw [List.getElem?_map, hl2]; rfl
        have hlen2 : (code ++ [(⟨1, -1, 0, 0, .ro true [], []⟩ : Ln)] : List Ln).length = code.length + 1 := by simp
        rw [hlen2] at hb2
        generalize ((code ++ [(⟨1, -1, 0, 0, .ro true [], []⟩ : Ln)] : List Ln).map Ln.row) = rows2 at hrow hmm2
        obtain ⟨q, hq⟩ : ∃ q, q = code.length + 1 := ⟨_, rfl⟩
        rw [← hq] at hb2 ⊢
        have hkq : k < q := by omega
        have hkq1 : (k : Int) < (q : Int) := by omega
        simp -implicitDefEqProofs [Tryz.f49, hb, kw, kw2, hh, hx, hx0, hx1, hbb, g1, g2, hcv, hbn, e2, hb2, hbb2, hat, hmm2, hrow, hkq, hkq1, -decide_eq_true_eq, -decide_eq_false_iff_not, -List.any_eq_true, -List.any_eq_false, -bne_iff_ne, -beq_iff_eq, -beq_eq_false_iff_ne, -bne_eq_false_iff_eq]
end Go.Proofs.YtmpcjfkfgjpebaaGreatDoor.AM
namespace Go.Proofs.YtmpcjfkfgjpebaaGreatDoor.AM
open Go Go.Proofs
attribute [local simp] fieldAddrA ld setCells stA skipV appendA hd makeA bnd kindA freshA killOk loadsAt edgesOn Region.binds newT empT lay_get allocA buildA buildRow lenA els indexAddrA isNil opA evA lit_int lit_bool lit_nil lit_nilf yldA binI unA pickA boolV intV fieldA mk eqs nilC mayP
/-- What an end makes of the code. -/
def EndP (code : List Ln) (b : Bk) (code' : List Ln) : Prop :=
  (b.lp = true ∧ ∃ (k : Nat) (l : Ln), code[k]? = some l ∧ l.kind = 2 ∧ code' = (code ++ [(⟨1, -1, (k : Int), 0, .ro true [], []⟩ : Ln)]).set k { l with to := ((code.length + 1 : Nat) : Int) }) ∨
  (∃ (k : Nat) (l : Ln), code[k]? = some l ∧ (l.kind = 1 ∨ l.kind = 2) ∧ code' = code.set k { l with to := ((code.length : Nat) : Int) })
/-- AN END. -/
theorem end_ev {nc ml : Nat} {h : Heap} {c : Nat} {names : List Str} {code : List Ln} {stk : List Bk} {nv cv bv : AV} (C : Cm nc ml h c names code stk nv cv bv) (K : StkOk code stk) (hcl : code.length ≤ 100000) (hsl : stk.length ≤ 100000) :
    ∃ (e : Int) (h' : Heap) (c' : Nat), callA mZ (run Tryz.prog mZ) 50 [.ptr nc 0 0] h c = some (E e, h', c') ∧ c ≤ c' ∧ Keep h c h' ∧
      (e = 0 → ∃ (stk0 : List Bk) (b : Bk) (code' : List Ln) (cv' bv' : AV), stk = stk0 ++ [b] ∧ Cm nc ml h' c' names code' stk0 nv cv' bv' ∧ EndP code b code') := by
  rw [call_heap rfl, run_eq (show mZ 50 = some .heap from rfl) rfl, Tryz.func50]
  have hb := C.blk
  have hnb := C.nbc
  rcases List.eq_nil_or_concat stk with rfl | ⟨stk0, b, hstk⟩
  · refine ⟨14, h, c, ?_, Nat.le_refl _, Keep.refl _ _, fun e => by cases e⟩
    rcases C.ob with ⟨rfl, _⟩ | ⟨n, rest, rfl, _⟩
    · simp -implicitDefEqProofs [Tryz.f50, hb, -decide_eq_true_eq, -decide_eq_false_iff_not, -List.any_eq_true, -List.any_eq_false, -bne_iff_ne, -beq_iff_eq, -beq_eq_false_iff_ne, -bne_eq_false_iff_eq]
    · simp -implicitDefEqProofs [Tryz.f50, hb, -decide_eq_true_eq, -decide_eq_false_iff_not, -List.any_eq_true, -List.any_eq_false, -bne_iff_ne, -beq_iff_eq, -beq_eq_false_iff_ne, -bne_eq_false_iff_eq]
  · rw [List.concat_eq_append] at hstk
    subst hstk
    obtain ⟨n, rest, hbv, hn, hh⟩ := C.top
    have hbb := (C.blks b (by simp)).2
    obtain ⟨⟨k, l, hat, hl, hlk⟩, hot⟩ := K b (by simp)
    have hB : b.blk = ⟨3, [[I b.at_, I b.ot, B b.lp]], some 134⟩ := rfl
    rw [hB, hat] at hbb
    have kw : IntKind.i64.wrap (((stk0.length + 1 : Nat) : Int) - 1) = (stk0.length : Int) := by rw [wrap_id (by simp at hsl; omega) (by simp at hsl; omega)]; omega
    have kw2 : (((stk0.length + 1 : Nat) : Int) == 0) = false := by simp; omega
    have hx : (ptrs stk0 ++ ([.ptr b.n 0 0] :: rest))[stk0.length]? = some [.ptr b.n 0 0] := at_top _ _ _
    have hx0 : stk0.length < stk0.length + 1 := by omega
    have C1 := C.pop hbv
    generalize ptrs stk0 ++ ([.ptr b.n 0 0] :: rest) = rows at hh hx
    obtain ⟨p, hp⟩ : ∃ p, p = stk0.length + 1 := ⟨_, rfl⟩
    rw [← hp] at kw kw2 hbv hx0
    subst hbv
    have hx1 : (stk0.length : Int) < (p : Int) := by omega
    have hx2 : (stk0.length : Int) ≤ (p : Int) := by omega
    have hx3 : stk0.length ≤ p := by omega
    have hx4 : (0 : Nat) < stk0.length ∨ True := .inr trivial
    have hnn : n ≠ nc := ne_ty hh hb (by simp)
    have hbn : b.n ≠ nc := ne_ty hbb hb (by simp)
    have hcne : code ≠ [] := fun e => by rw [e] at hl; simp at hl
    have hb1 := C1.blk
    obtain ⟨h1, hh1⟩ : ∃ h1, h1 = h.put nc (some ⟨4, [[nv, .mp ml, cv, .sl n 1 0 stk0.length]], some 58⟩) := ⟨_, rfl⟩
    have hk1 : Keep h c h1 := by rw [hh1]; exact Keep.put hb (by simp) (by simp) _
    rw [← hh1] at C1 hb1
    have hbb1 : h1 b.n = some ⟨3, [[I (k : Nat), I b.ot, B b.lp]], some 134⟩ := by rw [hh1, put_get, if_neg hbn, hbb]
    obtain ⟨m, hcv, hm, hmm⟩ := C1.codeAt hcne
    have hkl := (List.getElem?_eq_some_iff.1 hl).1
    cases g1 : b.lp
    rotate_left
    · rw [g1] at hbb hbb1
      obtain ⟨h2, c2, cv2, e2, C2, hc2, hkeep⟩ := add_ev C1 ⟨1, -1, k, 0, .ro true [], []⟩ (.inl ⟨rfl, rfl⟩) hcl
      have hb2 := C2.blk
      have hbn1 : ∀ m, m < c → nm cv ≠ some m → m ≠ nc → True := fun _ _ _ _ => trivial
      obtain ⟨m2, hcv2, hm2, hmm2⟩ := C2.codeAt (by simp)
      have hl2 : (code ++ [(⟨1, -1, (k : Int), 0, .ro true [], []⟩ : Ln)])[k]? = some l := by rw [List.getElem?_append_left hkl]; exact hl
      have C3 := C2.patch hcv2 hl2 ((code.length + 1 : Nat) : Int)
      refine ⟨0, _, c2, ?_, hc2, (hk1.trans (Nat.le_refl _) (Keep.add hkeep)).trans hc2 (Keep.put hmm2 (by simp) (by simp) _), fun _ => ⟨stk0, b, _, _, _, rfl, C3, .inl ⟨g1, k, l, hl, hlk, rfl⟩⟩⟩
      simp only [Ln.row] at e2
      subst hcv2
      have hrow : ((code ++ [(⟨1, -1, (k : Int), 0, .ro true [], []⟩ : Ln)]).map Ln.row)[k]? = some [I l.kind, I l.nm, I l.to, I l.wd, l.pv] := by rw [List.getElem?_map, hl2]; rfl
      have hlen2 : (code ++ [(⟨1, -1, (k : Int), 0, .ro true [], []⟩ : Ln)]).length = code.length + 1 := by simp
      rw [hlen2] at hb2
      have hbb2 : h2 b.n = some ⟨3, [[I (k : Nat), I b.ot, B true]], some 134⟩ := by rw [hkeep b.n _ (C.blks b (by simp)).1 hbb1 (by simp) (by simp), hbb1]
      generalize ((code ++ [(⟨1, -1, (k : Int), 0, .ro true [], []⟩ : Ln)]).map Ln.row) = rows2 at hrow hmm2
      obtain ⟨q, hq⟩ : ∃ q, q = code.length + 1 := ⟨_, rfl⟩
      rw [← hq] at hb2 ⊢
      have hkq : k < q := by omega
      have hkq1 : (k : Int) < (q : Int) := by omega
      rw [hh1] at e2
      simp -implicitDefEqProofs [Tryz.f50, hb, kw, kw2, hh, hx, hx0, hx1, hx2, hx3, hbb, hbn, hnn, sliceA, e2, hb2, hbb2, hmm2, hrow, hkq, hkq1, -decide_eq_true_eq, -decide_eq_false_iff_not, -List.any_eq_true, -List.any_eq_false, -bne_iff_ne, -beq_iff_eq, -beq_eq_false_iff_ne, -bne_eq_false_iff_eq]
    · rw [g1] at hbb hbb1
      have hrow : (code.map Ln.row)[k]? = some [I l.kind, I l.nm, I l.to, I l.wd, l.pv] := by rw [List.getElem?_map, hl]; rfl
      have hmn : m ≠ nc := ne_ty hmm hb1 (by simp)
      have hmm0 : h m = some ⟨5, code.map Ln.row, some 52⟩ := by rw [hh1, put_get, if_neg hmn] at hmm; exact hmm
      have hkq1 : (k : Int) < (code.length : Int) := by omega
      cases g2 : decide (0 ≤ b.ot)
      · have C3 := C1.patch hcv hl ((code.length : Nat) : Int)
        refine ⟨0, _, c, ?_, Nat.le_refl _, hk1.trans (Nat.le_refl _) (Keep.put hmm (by simp) (by simp) _), fun _ => ⟨stk0, b, _, _, _, rfl, C3, .inr ⟨k, l, hl, .inr hlk, rfl⟩⟩⟩
        generalize code.map Ln.row = rows2 at hrow hmm hmm0
        rw [hh1]
        simp -implicitDefEqProofs [Tryz.f50, hb, kw, kw2, hh, hx, hx0, hx1, hx2, hx3, hbb, hbn, hnn, sliceA, g2, hcv, hmn, hmm0, hrow, hkl, hkq1, -decide_eq_true_eq, -decide_eq_false_iff_not, -List.any_eq_true, -List.any_eq_false, -bne_iff_ne, -beq_iff_eq, -beq_eq_false_iff_ne, -bne_eq_false_iff_eq]
      · rcases hot with hot | ⟨k2, l2, hot, hl2, hlk2⟩
        · rw [hot] at g2
          cases g2
        · have hkl2 := (List.getElem?_eq_some_iff.1 hl2).1
          have hrow2 : (code.map Ln.row)[k2]? = some [I l2.kind, I l2.nm, I l2.to, I l2.wd, l2.pv] := by rw [List.getElem?_map, hl2]; rfl
          have hkq2 : (k2 : Int) < (code.length : Int) := by omega
          have C3 := C1.patch hcv hl2 ((code.length : Nat) : Int)
          refine ⟨0, _, c, ?_, Nat.le_refl _, hk1.trans (Nat.le_refl _) (Keep.put hmm (by simp) (by simp) _), fun _ => ⟨stk0, b, _, _, _, rfl, C3, .inr ⟨k2, l2, hl2, .inl hlk2, rfl⟩⟩⟩
          generalize code.map Ln.row = rows2 at hrow hrow2 hmm hmm0
          rw [hh1]
          rw [hot] at hbb
          have g3 : decide ((0 : Int) ≤ (k2 : Int)) = true := by simp
          simp -implicitDefEqProofs [Tryz.f50, hb, kw, kw2, hh, hx, hx0, hx1, hx2, hx3, hbb, hbn, hnn, sliceA, hcv, hmn, hmm0, hrow2, hkl2, hkq2, -decide_eq_true_eq, -decide_eq_false_iff_not, -List.any_eq_true, -List.any_eq_false, -bne_iff_ne, -beq_iff_eq, -beq_eq_false_iff_ne, -bne_eq_false_iff_eq]
end Go.Proofs.YtmpcjfkfgjpebaaGreatDoor.AM
