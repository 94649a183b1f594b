/- Texts of the proof: part Z19. -/
import Derived.Test.YtmpcjfkfgjpebaaGreatDoorZM1
set_option maxHeartbeats 0
set_option maxRecDepth 8000
set_option linter.unusedSimpArgs false
set_option linter.unusedVariables false
set_option linter.unusedSectionVars false
namespace Go.Proofs.YtmpcjfkfgjpebaaGreatDoor.AM
open Go Go.Proofs
attribute [local simp] fieldAddrA ld setCells stA skipV appendA hd makeA bnd kindA freshA killOk loadsAt edgesOn Region.binds newT empT lay_get allocA buildA buildRow lenA els indexAddrA isNil opA evA lit_int lit_bool lit_nil lit_nilf yldA binI unA pickA boolV intV fieldA mk eqs nilC mayP
@[simp] theorem bne_ss (a b : Nat) : ((some a : Option Nat) != some b) = (a != b) := by
  show (!(some a == some b)) = !(a == b)
  rfl
@[simp] theorem bne_ns (b : Nat) : ((none : Option Nat) != some b) = true := rfl
@[simp] theorem beq_ss (a b : Nat) : ((some a : Option Nat) == some b) = (a == b) := rfl
@[simp] theorem beq_ns (b : Nat) : ((none : Option Nat) == some b) = false := rfl
/-- An element of a program under way. -/
structure Ln where
  kind : Int
  nm : Int
  to : Int
  wd : Int
  pv : AV
  bodies : List (List (Int × Int))
def Ln.row (l : Ln) : List AV := [I l.kind, I l.nm, I l.to, I l.wd, l.pv]
abbrev bodR (bs : List (List (Int × Int))) : List (List AV) := bs.map fun b => [.ro false (opsE b)]
/-- A block that is open. -/
structure Bk where
  n : Nat
  at_ : Int
  ot : Int
  lp : Bool
def Bk.blk (b : Bk) : Blk := ⟨3, [[I b.at_, I b.ot, B b.lp]], some 134⟩
abbrev ptrs (stk : List Bk) : List (List AV) := stk.map fun b => [.ptr b.n 0 0]
/-- A row that may be the head of what lies in its block. -/
def OutS (z e : Nat) (h : Heap) (c : Nat) (v : AV) (es : List (List AV)) : Prop := (v = .ro true [] ∧ es = []) ∨ ∃ n rest, v = .sl n z 0 es.length ∧ n < c ∧ h n = some ⟨z, es ++ rest, some e⟩
theorem OutG.toS {z e : Nat} {h : Heap} {c : Nat} {v : AV} {es : List (List AV)} (O : OutG z e h c v es) : OutS z e h c v es := by
  rcases O with h | ⟨n, h1, h2, h3, h4⟩
  · exact .inl h
  · exact .inr ⟨n, [], h1, h3, by simpa using h4⟩
theorem OutS.nopan {z e : Nat} {h : Heap} {c : Nat} {v : AV} {es : List (List AV)} (O : OutS z e h c v es) : v.isPan = false ∧ okc v = true ∧ v.cells = [v] := by
  rcases O with ⟨rfl, _⟩ | ⟨n, _, rfl, _⟩ <;> exact ⟨rfl, rfl, rfl⟩
theorem OutS.frame {z e : Nat} {h h' : Heap} {c c' : Nat} {v : AV} {es : List (List AV)} (O : OutS z e h c v es) (hc : c ≤ c') (hh : ∀ m, nm v = some m → m < c → h' m = h m) : OutS z e h' c' v es := by
  rcases O with h | ⟨n, rest, rfl, h1, h2⟩
  · exact .inl h
  · exact .inr ⟨n, rest, rfl, by omega, by rw [hh n rfl h1, h2]⟩
/-- What lies under a row's name. -/
theorem OutS.ty {z e : Nat} {h : Heap} {c : Nat} {v : AV} {es : List (List AV)} (O : OutS z e h c v es) {m : Nat} (hm : nm v = some m) : m < c ∧ ∃ b, h m = some b ∧ b.ty = some e := by
  rcases O with ⟨rfl, _⟩ | ⟨n, rest, rfl, h1, h2⟩
  · cases hm
  · cases hm; exact ⟨h1, _, h2, rfl⟩
theorem OutG.ty {z e : Nat} {h : Heap} {c : Nat} {v : AV} {es : List (List AV)} (O : OutG z e h c v es) {m : Nat} (hm : nm v = some m) : m < c ∧ ∃ b, h m = some b ∧ b.ty = some e := O.toS.ty hm
/-- Blocks of other types have other names. -/
theorem ne_ty {h : Heap} {a b : Nat} {x y : Blk} (ha : h a = some x) (hb : h b = some y) (hne : x.ty ≠ y.ty) : a ≠ b := by
  intro e
  subst e
  rw [ha] at hb
  cases hb
  exact hne rfl
/-- The names and their places, as rows of a map. -/
def rowsN (names : List Str) : List (List AV) := names.zipIdx.map fun p => [S p.1, I (p.2 : Nat)]
/-- What a compiler works at. -/
structure Cm (nc ml : Nat) (h : Heap) (c : Nat) (names : List Str) (code : List Ln) (stk : List Bk) (nv cv bv : AV) : Prop where
  nbc : nc < c
  mlc : ml < c
  mp : h ml = some (mpBlk (rowsN names))
  blk : h nc = some ⟨4, [[nv, .mp ml, cv, bv]], some 58⟩
  on : OutG 1 9 h c nv (strs names)
  oc : OutG 5 52 h c cv (code.map Ln.row)
  ob : OutS 1 132 h c bv (ptrs stk)
  parts : ∀ l ∈ code, OutG 1 66 h c l.pv (bodR l.bodies)
  blks : ∀ b ∈ stk, b.n < c ∧ h b.n = some b.blk
  nd : (stk.map (·.n)).Nodup
/-- Elsewhere the memory turns. -/
theorem Cm.frame {nc ml : Nat} {h h' : Heap} {c c' : Nat} {names : List Str} {code : List Ln} {stk : List Bk} {nv cv bv : AV} (C : Cm nc ml h c names code stk nv cv bv) (hc : c ≤ c') (hh : ∀ m, m < c → h' m = h m) : Cm nc ml h' c' names code stk nv cv bv :=
  ⟨by have := C.nbc; omega, by have := C.mlc; omega, by rw [hh _ C.mlc, C.mp], by rw [hh _ C.nbc, C.blk], C.on.frame hc fun m _ hm => hh m hm, C.oc.frame hc fun m _ hm => hh m hm, C.ob.frame hc fun m _ hm => hh m hm,
    fun l hl => (C.parts l hl).frame hc fun m _ hm => hh m hm, fun b hb => ⟨by have := (C.blks b hb).1; omega, by rw [hh _ (C.blks b hb).1, (C.blks b hb).2]⟩, C.nd⟩
/-- The code has turned. -/
theorem Cm.code' {nc ml : Nat} {h h' : Heap} {c c' : Nat} {names : List Str} {code code2 : List Ln} {stk : List Bk} {nv cv bv cv2 : AV} (C : Cm nc ml h c names code stk nv cv bv) (hc : c ≤ c') (hh : ∀ m, m < c → nm cv ≠ some m → h' m = h m)
    (O : OutG 5 52 h' c' cv2 (code2.map Ln.row)) (hnew : ∀ m, nm cv2 = some m → nm cv = some m ∨ c ≤ m) (hp : ∀ l ∈ code2, OutG 1 66 h c l.pv (bodR l.bodies)) :
    Cm nc ml (h'.put nc (some ⟨4, [[nv, .mp ml, cv2, bv]], some 58⟩)) c' names code2 stk nv cv2 bv := by
  have hk : ∀ {m : Nat} {b : Blk}, m < c → h m = some b → b.ty ≠ some 52 → b.ty ≠ some 58 → (h'.put nc (some ⟨4, [[nv, .mp ml, cv2, bv]], some 58⟩)) m = h m := by
    intro m b hm hb h1 h2
    have a1 : m ≠ nc := ne_ty hb C.blk h2
    rw [put_get, if_neg a1]
    refine hh m hm fun e => ?_
    obtain ⟨_, b', hb', ht⟩ := C.oc.ty e
    rw [hb] at hb'
    cases hb'
    exact h1 ht
  have hnb := C.nbc
  refine ⟨by omega, by have := C.mlc; omega, ?_, by simp, ?_, ?_, ?_, fun l hl => ?_, fun b hb => ?_, C.nd⟩
  · rw [hk C.mlc C.mp (by simp [mpBlk]) (by simp [mpBlk]), C.mp]
  · refine C.on.frame hc fun m hm hmc => ?_
    obtain ⟨_, b, hb, ht⟩ := C.on.ty hm
    exact hk hmc hb (by rw [ht]; decide) (by rw [ht]; decide)
  · refine O.frame (Nat.le_refl _) fun m hm _ => ?_
    have : m ≠ nc := by
      rcases hnew m hm with h3 | h3
      · obtain ⟨_, b, hb, ht⟩ := C.oc.ty h3
        exact ne_ty hb C.blk (by rw [ht]; simp)
      · omega
    rw [put_get, if_neg this]
  · refine C.ob.frame hc fun m hm hmc => ?_
    obtain ⟨_, b, hb, ht⟩ := C.ob.ty hm
    exact hk hmc hb (by rw [ht]; decide) (by rw [ht]; decide)
  · refine (hp l hl).frame hc fun m hm hmc => ?_
    obtain ⟨_, b, hb, ht⟩ := (hp l hl).ty hm
    exact hk hmc hb (by rw [ht]; decide) (by rw [ht]; decide)
  · obtain ⟨b1, b2⟩ := C.blks b hb
    exact ⟨by omega, by rw [hk b1 b2 (by simp [Bk.blk]) (by simp [Bk.blk]), b2]⟩
/-- The callers' cells stay. -/
def Keep (h : Heap) (c : Nat) (h' : Heap) : Prop := ∀ m x, m < c → h m = some x → x.ty = some 26 ∨ x.ty = some 54 → h' m = h m
theorem Keep.refl (h : Heap) (c : Nat) : Keep h c h := fun _ _ _ _ _ => rfl
theorem Keep.trans {h h1 h2 : Heap} {c c1 : Nat} (a : Keep h c h1) (hc : c ≤ c1) (b : Keep h1 c1 h2) : Keep h c h2 := fun m x hm hx ht => by
  have e := a m x hm hx ht
  rw [b m x (by omega) (by rw [e, hx]) ht, e]
theorem Keep.fresh {h h' : Heap} {c : Nat} (hh : ∀ m, m < c → h' m = h m) : Keep h c h' := fun m _ hm _ _ => hh m hm
theorem Keep.add {h h' : Heap} {c : Nat} (hk : ∀ m x, m < c → h m = some x → x.ty ≠ some 52 → x.ty ≠ some 58 → h' m = h m) : Keep h c h' := fun m x hm hx ht => hk m x hm hx (by rcases ht with h | h <;> (rw [h]; decide)) (by rcases ht with h | h <;> (rw [h]; decide))
theorem Keep.put {h : Heap} {c n : Nat} {x : Blk} (hn : h n = some x) (h1 : x.ty ≠ some 26) (h2 : x.ty ≠ some 54) (b : Option Blk) : Keep h c (h.put n b) := fun m y _ hy ht => by
  have : m ≠ n := by
    intro e
    subst e
    rw [hn] at hy
    cases hy
    rcases ht with h | h
    · exact h1 h
    · exact h2 h
  rw [put_get, if_neg this]
theorem Keep.grow {z e : Nat} {h h' : Heap} {c c' : Nat} {v v' : AV} {es : List (List AV)} (O : OutS z e h c v es) (h1 : e ≠ 26) (h2 : e ≠ 54) (G : Grown h c v h' c' v') : Keep h c h' := fun m x hm hx ht => G.get m hm fun e' => by
  obtain ⟨_, b, hb, hbt⟩ := O.ty e'
  rw [hx] at hb
  cases hb
  rw [hbt] at ht
  simp at ht
  omega
/-- AN ELEMENT MORE. -/
theorem add_ev {nc ml : Nat} {h : Heap} {c : Nat} {names : List Str} {code : List Ln} {stk : List Bk} {nv cv bv : AV} (C : Cm nc ml h c names code stk nv cv bv) (l : Ln) (hl : OutG 1 66 h c l.pv (bodR l.bodies)) (hn : code.length ≤ 100000) :
    ∃ (h' : Heap) (c' : Nat) (cv' : AV), callA mZ (run Tryz.prog mZ) 51 [.ptr nc 0 0, .agg l.row] h c = some (.tup [], h', c') ∧ Cm nc ml h' c' names (code ++ [l]) stk nv cv' bv ∧ c ≤ c' ∧ ∀ m x, m < c → h m = some x → x.ty ≠ some 52 → x.ty ≠ some 58 → h' m = h m := by
  rw [call_heap rfl, run_eq (show mZ 51 = some .heap from rfl) rfl, Tryz.func51]
  have hb := C.blk
  have hnb := C.nbc
  obtain ⟨p1, p2, p3⟩ := hl.nopan
  have O1 : OutG 5 52 (h.put c (some ⟨5, [l.row], some 52⟩)) (c + 1) cv (code.map Ln.row) := C.oc.frame (by omega) fun m _ hm => by simp; omega
  obtain ⟨v', h', c', e, O', G⟩ := outG_one (t := 24) (sz := 5) (by_ := 56) (z := [I 0, I 0, I 0, I 0, .ro true []]) O1 l.row (some 52) rfl (by simp) (by simp) (by simp) (by simp) rfl (by simp; omega) (by simp; omega)
  obtain ⟨q1, q2, q3⟩ := O'.nopan
  obtain ⟨k, m1, t1, w1, pv, bodies⟩ := l
  simp only [Ln.row] at *
  have hle := G.le
  have hcn : nm cv ≠ some c := fun e => by have := (C.oc.ty e).1; omega
  have hnn : nm cv ≠ some nc := fun e => by
    obtain ⟨_, b, hb2, ht⟩ := C.oc.ty e
    rw [hb] at hb2
    cases hb2
    simp at ht
  have hb2 : h' nc = some ⟨4, [[nv, .mp ml, cv, bv]], some 58⟩ := by rw [G.get nc (by omega) hnn]; simp [hb]; omega
  have hnc : nc ≠ c := by omega
  have hnc1 : nc ≠ c + 1 := by omega
  have hkill : ∀ n z f g, cv = .sl n z f g → (c != n) = true := by
    rintro n z f g rfl
    simp
    intro e
    exact hcn (by rw [e]; rfl)
  refine ⟨h'.put nc (some ⟨4, [[nv, .mp ml, v', bv]], some 58⟩), c', v', ?_, ?_, by omega, fun m x hm hx h52 h58 => ?_⟩
  · rcases C.oc with ⟨rfl, _⟩ | ⟨n, rfl, _⟩
    · simp -implicitDefEqProofs [Tryz.f51, hb, hnc, hnc1, p2, lay_put, -appendA, e, q1, q2, q3, hb2, -decide_eq_true_eq, -decide_eq_false_iff_not, -List.any_eq_true, -List.any_eq_false, -bne_iff_ne, -beq_iff_eq, -beq_eq_false_iff_ne, -bne_eq_false_iff_eq]
    · have hk2 := hkill n _ _ _ rfl
      simp only [List.length_map] at e
      simp -implicitDefEqProofs [Tryz.f51, hb, hnc, hnc1, p2, lay_put, -appendA, e, q1, q2, q3, hb2, hk2, -decide_eq_true_eq, -decide_eq_false_iff_not, -List.any_eq_true, -List.any_eq_false, -bne_iff_ne, -beq_iff_eq, -beq_eq_false_iff_ne, -bne_eq_false_iff_eq]
  · refine C.code' (by omega) (fun m hm hne => ?_) (by simpa [Ln.row] using O') (fun m hm => ?_) (fun l2 hl2 => ?_)
    · rw [G.get m (by omega) hne]
      simp
      omega
    · rcases G.new m hm with h3 | h3
      · exact .inl h3
      · exact .inr (by omega)
    · rcases List.mem_append.1 hl2 with hl2 | hl2
      · exact C.parts l2 hl2
      · simp at hl2
        subst hl2
        exact hl
  · have a1 : m ≠ nc := ne_ty hx hb h58
    rw [put_get, if_neg a1, G.get m (by omega) (fun e => by
      obtain ⟨_, y, hy, ht⟩ := C.oc.ty e
      rw [hx] at hy
      cases hy
      exact h52 ht)]
    simp
    omega
theorem frzS {h : Heap} {n : Nat} (l : List Str) : (strs l).mapM (fun (e : List AV) => e.mapM (frz h (n + 1))) = some (strs l) := by
  induction l with
  | nil => rfl
  | cons x l ih =>
    simp only [strs, List.map_cons, List.mapM_cons] at ih ⊢
    rw [ih]
    rfl
theorem frzE {h : Heap} {n : Nat} (l : List (Int × Int)) : (opsE l).mapM (fun (e : List AV) => e.mapM (frz h (n + 1))) = some (opsE l) := by
  induction l with
  | nil => rfl
  | cons x l ih =>
    simp only [opsE, List.map_cons, List.mapM_cons] at ih ⊢
    rw [ih]
    rfl
theorem okE {h : Heap} {n : Nat} (l : List (Int × Int)) : ((opsE l).all fun (e : List AV) => e.all (okO h (n + 1))) = true := by
  rw [List.all_eq_true]
  intro e he
  obtain ⟨p, _, rfl⟩ := List.mem_map.1 he
  rfl
/-- What an expression is. -/
def ExpOk (na : Nat) (bv : AV) (e : Int) : Prop := (e = 0 ∧ ∃ ops, bv = .ro false (opsE ops) ∧ Bal na ops ∧ ops.length ≤ 60) ∨ e ≠ 0
/-- AN EXPRESSION is read: the memory stays. -/
theorem expression_ev {nc ml : Nat} {h : Heap} {c : Nat} {names : List Str} {code : List Ln} {stk : List Bk} {nv cv bv : AV} (C : Cm nc ml h c names code stk nv cv bv) (h0 : 0 < names.length) (hn : names.length ≤ 100000) (hs : ∀ s ∈ names, s.length ≤ 1000000) (s : Str) (hl : s.length ≤ 1000000) :
    ∃ (b : AV) (e : Int), callA mZ (run Tryz.prog mZ) 85 [.ptr nc 0 0, S s] h c = some (.tup [b, E e], h, c) ∧ ExpOk (min names.length 16) b e ∧ okc b = true ∧ b.isPan = false ∧ b.cells = [b] := by
  rw [call_heap rfl, run_eq (show mZ 85 = some .heap from rfl) rfl, Tryz.func85]
  have hb := C.blk
  obtain ⟨k, hk⟩ : ∃ k, k = min names.length 16 := ⟨_, rfl⟩
  obtain ⟨v, e, h', c', e1, H⟩ := expr_call false (names.take k) (by simp; omega) (fun s hs' => hs s (List.mem_of_mem_take hs')) s hl
  have hlen : (names.take k).length = k := by simp; omega
  rw [hlen] at H
  rcases C.on with ⟨_, g⟩ | ⟨n, rfl, g0, g1, g2⟩
  · exfalso
    have : names = [] := by simpa using g
    rw [this] at h0
    simp at h0
  have hmk : IntKind.i64.wrap (k : Int) = k := wrap_id (by omega) (by omega)
  have ha : ([.ro true [], .sl n 1 0 k, S s] : List AV).mapM (frz h depth) = some [.ro true [], .ro false (strs (names.take k)), S s] := by
    have h1 : els h (.sl n 1 0 k) = some (strs (names.take k)) := by
      simp only [els, g2, Option.bind_some]
      rw [if_pos (by simp; omega)]
      simp
    have h2 : frz h depth (.sl n 1 0 k) = some (.ro false (strs (names.take k))) := by
      show ((els h (.sl n 1 0 k)).bind fun es => (es.mapM fun (e : List AV) => e.mapM (frz h 11)).map (AV.ro false)) = _
      rw [h1, Option.bind_some, frzS]
      rfl
    simp only [List.mapM_cons, List.mapM_nil, frz_ro, frz_S12, h2]
    rfl
  obtain ⟨b, hb1, hb2, hb3, hb4, hb5⟩ : ∃ b, frz h' depth (.tup [v, E e]) = some (.tup [b, E e]) ∧ okO h' depth (.tup [v, E e]) = true ∧ ExpOk k b e ∧ okc b = true ∧ (b.isPan = false ∧ b.cells = [b]) := by
    rcases H with ⟨rfl, ops, O, B, q⟩ | ⟨he, rfl⟩
    · rcases O with ⟨rfl, h1⟩ | ⟨m, rfl, h1, h2, h3⟩
      · have : ops = [] := by simpa using h1
        subst this
        have := B 0
        simp [hgt] at this
      · have hel : els h' (.sl m 2 0 (opsE ops).length) = some (opsE ops) := by
          simp only [els, h3, Option.bind_some]
          rw [if_pos (by simp), List.drop_zero, List.take_length]
        refine ⟨.ro false (opsE ops), ?_, ?_, .inl ⟨rfl, ops, rfl, B, q⟩, rfl, rfl, rfl⟩
        · have h2 : frz h' 11 (.sl m 2 0 (opsE ops).length) = some (.ro false (opsE ops)) := by
            show ((els h' (.sl m 2 0 (opsE ops).length)).bind fun es => (es.mapM fun (e : List AV) => e.mapM (frz h' 10)).map (AV.ro false)) = _
            rw [hel, Option.bind_some, frzE]
            rfl
          show (([.sl m 2 0 (opsE ops).length, E 0] : List AV).mapM (frz h' 11)).map AV.tup = _
          simp only [List.mapM_cons, List.mapM_nil, h2]
          rfl
        · show ([.sl m 2 0 (opsE ops).length, E 0] : List AV).all (okO h' 11) = true
          have h2 : okO h' 11 (.sl m 2 0 (opsE ops).length) = true := by
            show (match els h' (.sl m 2 0 (opsE ops).length) with | some es => es.all fun (e : List AV) => e.all (okO h' 10) | none => false) = true
            rw [hel]
            exact okE ops
          simp only [List.all_cons, h2, List.all_nil]
          rfl
    · exact ⟨.ro true [], rfl, rfl, .inr he, rfl, rfl, rfl⟩
  have e2 : callA mZ (run Tryz.prog mZ) 120 [.ro true [], .sl n 1 0 k, S s] h c = some (.tup [b, E e], h, c) := by
    rw [call_pure _ _ _ _ _ _ rfl, ha, Option.bind_some, e1, Option.bind_some, hb1, Option.bind_some, hb2]
    simp
  refine ⟨b, e, ?_, by rw [← hk]; exact hb3, hb4, hb5.1, hb5.2⟩
  have hmin : (if (16 : Int) < (names.length : Int) then (16 : Int) else (names.length : Int)) = (k : Int) := by
    have hk' : (k = names.length ∧ names.length ≤ 16) ∨ (k = 16 ∧ 16 < names.length) := by
      rw [hk, Nat.min_def]
      split
      · exact .inl ⟨rfl, by assumption⟩
      · exact .inr ⟨rfl, by omega⟩
    clear hk
    rcases hk' with ⟨h1, h2⟩ | ⟨h1, h2⟩
    · rw [if_neg (by omega), h1]
    · rw [if_pos (by omega), h1]; rfl
  have hkl : k ≤ names.length := by omega
  have hkl2 : (k : Int) ≤ (names.length : Int) := by omega
  have hmb : ∀ (ts : List TypeId) (h : Heap) (c : Nat), builtinA Tryz.prog .min ts h c [I (names.length : Nat), I 16] = some (I (k : Nat), h, c) := by
    intro ts h c
    rw [← hmin]
    rfl
  simp -implicitDefEqProofs [Tryz.f85, hb, hmb, sliceA, hkl, hkl2, e2, -decide_eq_true_eq, -decide_eq_false_iff_not, -List.any_eq_true, -List.any_eq_false, -bne_iff_ne, -beq_iff_eq, -beq_eq_false_iff_ne, -bne_eq_false_iff_eq]
end Go.Proofs.YtmpcjfkfgjpebaaGreatDoor.AM
