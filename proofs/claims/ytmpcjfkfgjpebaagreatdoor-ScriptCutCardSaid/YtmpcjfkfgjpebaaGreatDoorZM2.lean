/- Parts of the proof: Z29, Z30, Z31, Z32, Z33, Z34, Z35. -/
import Derived.Test.YtmpcjfkfgjpebaaGreatDoorZ28
set_option maxHeartbeats 0
set_option maxRecDepth 8000
set_option linter.unusedSimpArgs false
set_option linter.unusedVariables false
set_option linter.unusedSectionVars false
namespace Go.Proofs.YtmpcjfkfgjpebaaGreatDoor.AM
open Go Go.Proofs
attribute [local simp] fieldAddrA ld setCells stA skipV appendA hd makeA bnd kindA freshA killOk loadsAt edgesOn Region.binds newT empT lay_get allocA buildA buildRow lenA els indexAddrA isNil opA evA lit_int lit_bool lit_nil lit_nilf yldA binI unA pickA boolV intV fieldA mk eqs nilC mayP
theorem tel_nil : telB [] = false := by kernel_rfl
theorem cut_head (x : UInt8) (r : Str) (hx : x ≠ 32) : ∃ r', (cutP (x :: r)).1 = x :: r' := by
  have h1 : Lib.indexByte (x :: r) 32 = if Lib.indexByte r 32 == -1 then -1 else Lib.indexByte r 32 + 1 := by
    show (if x == 32 then (0 : Int) else _) = _
    rw [if_neg (by simpa using hx)]
  unfold cutP
  split
  · rename_i g
    have h2 := idx_ge r 32
    rw [h1] at g ⊢
    split at g
    · omega
    · rename_i g2
      rw [if_neg g2]
      obtain ⟨n, hn⟩ : ∃ n : Nat, Lib.indexByte r 32 + 1 = ((n + 1 : Nat) : Int) := ⟨(Lib.indexByte r 32).toNat, by
        simp at g2
        omega⟩
      rw [hn]
      exact ⟨r.take n, by simp⟩
  · exact ⟨r, rfl⟩
theorem tel_hash (r : Str) : telB (35 :: r) = false := by
  obtain ⟨r', h⟩ := cut_head 35 r (by decide)
  refine tel_no ?_ ?_ <;> rw [h] <;> cases h2 : ((35 :: r' : Str) == _) <;> first | rfl | (simp at h2)
/-- A program that is right. -/
structure ValidP (names : List Str) (code : List Ln) : Prop where
  n16 : names.length ≤ 16
  res : names[0]? = some wRes
  nd : names.Nodup
  nms : ∀ n ∈ names, nameP n = true
  c200 : code.length ≤ 200
  lns : ∀ l ∈ code, LnP names.length code.length l
theorem telN_name {s : Str} (h : telB s = true) : nameP (telN s) = true := by
  unfold telB at h
  simp only [Bool.and_eq_true] at h
  exact h.1
theorem insN_mem {names : List Str} {x y : Str} : y ∈ insN names x ↔ y ∈ names ∨ y = x := by
  unfold insN
  split
  · rename_i g
    have := hasP_iff.1 g
    constructor
    · exact .inl
    · rintro (h | rfl)
      · exact h
      · exact this
  · simp
theorem insN_nodup {names : List Str} {x : Str} (h : names.Nodup) : (insN names x).Nodup := by
  unfold insN
  split
  · exact h
  · rename_i g
    rw [List.nodup_append]
    refine ⟨h, by simp, fun a ha b hb e => ?_⟩
    simp at hb
    subst hb
    subst e
    exact g (hasP_iff.2 ha)
theorem told_mem {names : List Str} {ls : List Str} {y : Str} (h : y ∈ told names ls) : y ∈ names ∨ ∃ s ∈ ls, telB s = true ∧ telN s = y := by
  induction ls generalizing names with
  | nil => exact .inl h
  | cons s ls ih =>
    simp only [told] at h
    rcases ih h with h | ⟨s', h1, h2⟩
    · split at h
      · rename_i g
        rcases insN_mem.1 h with h | h
        · exact .inl h
        · exact .inr ⟨s, by simp, g, h.symm⟩
      · exact .inl h
    · exact .inr ⟨s', by simp [h1], h2⟩
theorem told_nodup {names : List Str} {ls : List Str} (h : names.Nodup) : (told names ls).Nodup := by
  induction ls generalizing names with
  | nil => exact h
  | cons s ls ih =>
    simp only [told]
    refine ih ?_
    split
    · exact insN_nodup h
    · exact h
theorem told_first {names : List Str} {ls : List Str} {x : Str} (h : names[0]? = some x) : (told names ls)[0]? = some x := by
  induction ls generalizing names with
  | nil => exact h
  | cons s ls ih =>
    simp only [told]
    refine ih ?_
    split
    · unfold insN
      split
      · exact h
      · rw [List.getElem?_append_left (List.getElem?_eq_some_iff.1 h).1]
        exact h
    · exact h
/-- All names that are told are names. -/
theorem told_ok (ls : List Str) : (told [wRes] ls).Nodup ∧ (told [wRes] ls)[0]? = some wRes ∧ ∀ n ∈ told [wRes] ls, nameP n = true := by
  refine ⟨told_nodup (by simp), told_first rfl, fun n hn => ?_⟩
  rcases told_mem hn with h | ⟨s, _, h2, rfl⟩
  · simp at h
    rw [h]
    exact name_res
  · exact telN_name h2
theorem told_16 {ls : List Str} (h : ∀ s ∈ ls, LineQ (told [wRes] ls) s) : (told [wRes] ls).length ≤ 16 := by
  obtain ⟨h1, h2, _⟩ := told_ok ls
  generalize hN : told [wRes] ls = N at *
  by_cases g : N.length ≤ 16
  · exact g
  · exfalso
    obtain ⟨x, hx⟩ : ∃ x, N[16]? = some x := ⟨N[16], by simp⟩
    have hm : x ∈ N := List.mem_of_getElem? hx
    rw [← hN] at hm
    rcases told_mem hm with h3 | ⟨s, hs, ht, rfl⟩
    · simp at h3
      subst h3
      have := (List.getElem?_inj (i := 0) (j := 16) (by omega) h1).1 (h2.trans hx.symm)
      omega
    · rw [hN] at hm
      obtain ⟨k, hk, hk2⟩ := h s hs ht hm
      have := (List.getElem?_inj (i := k) (j := 16) (by omega) h1).1 (hk2.trans hx.symm)
      omega
end Go.Proofs.YtmpcjfkfgjpebaaGreatDoor.AM
namespace Go.Proofs.YtmpcjfkfgjpebaaGreatDoor.AM
open Go Go.Proofs
attribute [local simp] fieldAddrA ld setCells stA skipV appendA hd makeA bnd kindA freshA killOk loadsAt edgesOn Region.binds newT empT lay_get allocA buildA buildRow lenA els indexAddrA isNil opA evA lit_int lit_bool lit_nil lit_nilf yldA binI unA pickA boolV intV fieldA mk eqs nilC mayP
def KInv (b : Bool) (ls : List Str) (names : List Str) (kk : Nat) (st : St) : Prop := ∃ (i : Nat) (code : List Ln) (stk : List Bk) (nv cv bv : AV), kk = ls.length - i ∧ st.t 2 = .ptr 0 0 0 ∧ st.t 5 = .ro b (strs ls) ∧ st.t 6 = .ptr 4 0 0 ∧ st.t 58 = .ro b (strs ls) ∧ st.t 59 = I ls.length ∧ st.t 60 = I i ∧ i ≤ ls.length ∧
  Cm 3 2 st.h st.c names code stk nv cv bv ∧ Good2 names.length code stk ∧ stk.length ≤ i ∧ code.length ≤ 200 ∧ st.h 0 = some ⟨2, [[.ro true [], .ro true []]], some 26⟩ ∧ st.h 4 = some ⟨1, [[.ptr 3 0 0]], some 54⟩ ∧ 7 ≤ st.c ∧ ∀ s ∈ ls.take i, LineQ names s
def KEnd (b : Bool) (ls : List Str) (names : List Str) (e : Ex) (st : St) : Prop := (e = .exit 2 ∧ ∃ (code : List Ln) (stk : List Bk) (nv cv bv : AV), st.t 2 = .ptr 0 0 0 ∧ st.t 5 = .ro b (strs ls) ∧ st.t 6 = .ptr 4 0 0 ∧
  Cm 3 2 st.h st.c names code stk nv cv bv ∧ Good2 names.length code stk ∧ stk.length ≤ ls.length ∧ code.length ≤ 200 ∧ st.h 0 = some ⟨2, [[.ro true [], .ro true []]], some 26⟩ ∧ st.h 4 = some ⟨1, [[.ptr 3 0 0]], some 54⟩ ∧ 7 ≤ st.c ∧ ∀ s ∈ ls, LineQ names s) ∨
  (e = .ret ∧ st.t 2 = .ptr 0 0 0 ∧ st.h 0 = some ⟨2, [[.ro true [], .ro true []]], some 26⟩ ∧ ∃ (line e : Int), st.t 3 = I line ∧ st.t 4 = E e ∧ e ≠ 0)
/-- What Compile comes to. -/
def KOut (o : Option (AV × Heap × Nat)) : Prop := ∃ (pv : AV) (line e : Int) (h' : Heap) (c' : Nat), o = some (.tup [pv, I line, E e], h', c') ∧
  ((e ≠ 0 ∧ pv = .agg [.ro true [], .ro true []]) ∨ (e = 0 ∧ ∃ (names : List Str) (code : List Ln) (nv cv : AV), pv = .agg [nv, cv] ∧ OutG 1 9 h' c' nv (strs names) ∧ OutG 5 52 h' c' cv (code.map Ln.row) ∧ (∀ l ∈ code, OutG 1 66 h' c' l.pv (bodR l.bodies)) ∧ ValidP names code))
theorem name_len {s : Str} (h : nameP s = true) : s.length ≤ 12 := by
  unfold nameP at h
  simp only [Bool.and_eq_true, decide_eq_true_eq] at h
  exact h.1.2
theorem bind_to {α β : Type} {P : Option β → Prop} {x : Option α} {k : α → Option β} (Q : α → Prop) (hx : ∃ y, x = some y ∧ Q y) (hk : ∀ y, Q y → P (k y)) : P (x.bind k) := by
  obtain ⟨y, rfl, hy⟩ := hx
  exact hk y hy
def QH (b : Bool) (ls : List Str) (y : Ex × St) : Prop := y.1 = .normal ∧ y.2.t 2 = .ptr 0 0 0 ∧ y.2.t 5 = .ro b (strs ls) ∧ y.2.t 6 = .ptr 4 0 0 ∧ 7 ≤ y.2.c ∧ (∃ nv, Cm 3 2 y.2.h y.2.c (told [wRes] ls) [] [] nv (.ro true []) (.ro true [])) ∧ y.2.h 0 = some ⟨2, [[.ro true [], .ro true []]], some 26⟩ ∧ y.2.h 4 = some ⟨1, [[.ptr 3 0 0]], some 54⟩
theorem heads_c {b : Bool} {ls : List Str} {t : Nat → AV} {h : Heap} (h2 : t 2 = .ptr 0 0 0) (h5 : t 5 = .ro b (strs ls)) (h6 : t 6 = .ptr 4 0 0) (hls : ls.length ≤ 200000) (hx : ∀ x ∈ ls, x.length ≤ 100000)
    (a0 : h 0 = some ⟨2, [[.ro true [], .ro true []]], some 26⟩) (a1 : h 1 = some ⟨1, strs [wRes], some 9⟩) (a2 : h 2 = some (mpBlk (rowsN [wRes]))) (a3 : h 3 = some ⟨4, [[.sl 1 1 0 1, .mp 2, .ro true [], .ro true []]], some 58⟩)
    (a4 : h 4 = some ⟨1, [[.ptr 3 0 0]], some 54⟩) (a5 : h 5 = some ⟨1, [[.ro b (strs ls)]], some 23⟩) :
    ∃ y, rngA mZ (run Tryz.prog mZ) (.fn 47 [.ptr 5 0 0]) [26] cmpA cmpB ⟨t, h, 6⟩ = some y ∧ QH b ls y := by
  have W : HI b ls (LPc t) (h.put 6 (some (LPc t).blk)) 7 [wRes] := by
    refine ⟨⟨.sl 1 1 0 1, by omega, by omega, by simp [a2], by simp [a3], .inr ⟨1, rfl, by simp, by omega, by simp [a1]⟩, .inl ⟨rfl, rfl⟩, .inl ⟨rfl, rfl⟩, by simp, by simp, by simp⟩, by simp [a0], by simp [a4], by simp [a5], by simp, by omega, by simp⟩
  obtain ⟨h', c', e, hc, hC, b0, b4⟩ := rng_c W h6 (by simp) hls hx
  exact ⟨_, e, rfl, h2, h5, h6, hc, hC, b0, b4⟩
theorem compile_ev (s : Str) (hs : s.length ≤ 100000) : KOut (run Tryz.prog mZ 7 [S s] Heap.none 0) := by
  rw [run_eq (show mZ 7 = some .pure from rfl) rfl, Tryz.func7]
  cases g0 : decide (20000 < (s.length : Int))
  rotate_left
  · simp -implicitDefEqProofs [Tryz.f7, g0, -decide_eq_true_eq, -decide_eq_false_iff_not, -List.any_eq_true, -List.any_eq_false, -bne_iff_ne, -beq_iff_eq, -beq_eq_false_iff_ne, -bne_eq_false_iff_eq]
    exact ⟨_, _, _, _, _, rfl, .inl ⟨by decide, rfl⟩⟩
  have g0' : s.length ≤ 20000 := by simp at g0; omega
  obtain ⟨b, ls, e1, hls, hlx⟩ := lines_c s hs
  obtain ⟨tn, tf, tm⟩ := told_ok ls
  have tl := told_len [wRes] ls
  have t16 := @told_16 ls
  have e47 : ∀ (es : List (List AV)) (h : Heap) (c : Nat), callA mZ (run Tryz.prog mZ) 23 [.ro b es] h c = some (.fn 47 [.ptr c 0 0], h.put c (some ⟨1, [[.ro b es]], some 23⟩), c + 1) := by
    intro es h c
    rw [call_heap rfl, run_eq (show mZ 23 = some .heap from rfl) rfl, Tryz.func23]
    simp -implicitDefEqProofs [Tryz.f23, -decide_eq_true_eq, -decide_eq_false_iff_not, -List.any_eq_true, -List.any_eq_false, -bne_iff_ne, -beq_iff_eq, -beq_eq_false_iff_ne, -bne_eq_false_iff_eq]
  have hS : S [114, 101, 115, 117, 108, 116] = .val (.string ⟨#[114, 101, 115, 117, 108, 116]⟩) := rfl
  simp -implicitDefEqProofs [Tryz.f7, g0, e1, e47, hS, mpSet, mpOf_blk, Option.bind_assoc, -decide_eq_true_eq, -decide_eq_false_iff_not, -List.any_eq_true, -List.any_eq_false, -bne_iff_ne, -beq_iff_eq, -beq_eq_false_iff_ne, -bne_eq_false_iff_eq]
  refine bind_to (QH b ls) (heads_c (by simp) (by simp) (by simp) (by omega) (fun x hx => by have := hlx x hx; omega) (by simp) (by simp; rfl) (by simp; rfl) (by simp) (by simp) (by simp)) ?_
  rintro ⟨e, t, h, c⟩ ⟨rfl, a2, a5, a6, hc, ⟨nv, C⟩, b0, b4⟩
  simp only at a2 a5 a6 hc C b0 b4
  generalize hN : told [wRes] ls = names at *
  have hnl : ∀ s ∈ names, s.length ≤ 1000000 := fun x hx => by have := name_len (tm x hx); omega
  have hnp : 0 < names.length := (List.getElem?_eq_some_iff.1 tf).1
  have hnn : names.length ≤ 100000 := by simp at tl; omega
  simp -implicitDefEqProofs [a2, a5, a6, Option.bind_assoc, -decide_eq_true_eq, -decide_eq_false_iff_not, -List.any_eq_true, -List.any_eq_false, -bne_iff_ne, -beq_iff_eq, -beq_eq_false_iff_ne, -bne_eq_false_iff_eq]
  refine loop_to (R := KOut) (KInv b ls names) (KEnd b ls names) ?_ ?_ ls.length _ ?_
  · rintro kk ⟨t1, h1, c1⟩ ⟨i, code, stk, nv, cv, bv, rfl, a2, a5, a6, a58, a59, a60, hi, C1, K1, hsk, hcl, b0, b4, hc7, hq⟩
    simp only at a2 a5 a6 a58 a59 a60 C1 b0 b4 hc7
    by_cases g : i < ls.length
    · have g1 : decide (i < ls.length) = true := by simp [g]
      have w2 : IntKind.i64.wrap ((i : Int) + 1) = ((i + 1 : Nat) : Int) := wrap_succ (by omega)
      obtain ⟨y, hy⟩ : ∃ y, ls[i]? = some y := ⟨ls[i], by simp [g]⟩
      have hym : y ∈ ls := List.mem_of_getElem? hy
      have hyl := hlx y hym
      have hyr : (strs ls)[i]? = some [S y] := by simp [hy]
      have htk : ls.take (i + 1) = ls.take i ++ [y] := by rw [List.take_add_one, hy]; rfl
      have hq2 : LineQ names y → ∀ s ∈ ls.take (i + 1), LineQ names s := fun h1 s hs => by
        rw [htk] at hs
        rcases List.mem_append.1 hs with h2 | h2
        · exact hq s h2
        · simp at h2
          rw [h2]
          exact h1
      have skip : telB y = false → ∀ (t : Nat → AV), t 2 = .ptr 0 0 0 → t 5 = .ro b (strs ls) → t 6 = .ptr 4 0 0 → t 58 = .ro b (strs ls) → t 59 = I ls.length → t 60 = I ((i + 1 : Nat) : Int) → KInv b ls names (ls.length - (i + 1)) ⟨t, h1, c1⟩ := by
        intro ht t a b1 d f k l
        exact ⟨i + 1, code, stk, nv, cv, bv, rfl, a, b1, d, f, k, l, by omega, C1, K1, by omega, hcl, b0, b4, hc7, hq2 fun h => by rw [ht] at h; cases h⟩
      by_cases gy : y = []
      · subst gy
        simp -implicitDefEqProofs [a2, a5, a6, a58, a59, a60, g1, hy, w2, to_normal, to_exit, to_ret, -decide_eq_true_eq, -decide_eq_false_iff_not, -List.any_eq_true, -List.any_eq_false, -bne_iff_ne, -beq_iff_eq, -beq_eq_false_iff_ne, -bne_eq_false_iff_eq]
        exact ⟨ls.length - (i + 1), by omega, skip tel_nil _ (by simp [a2]) (by simp [a5]) (by simp [a6]) (by simp [a58]) (by simp [a59]) (by simp)⟩
      obtain ⟨x, r, rfl⟩ : ∃ x r, y = x :: r := by
        cases y with
        | nil => exact absurd rfl gy
        | cons x r => exact ⟨x, r, rfl⟩
      by_cases gx : x = 35
      · subst gx
        simp -implicitDefEqProofs [a2, a5, a6, a58, a59, a60, g1, hy, w2, to_normal, to_exit, to_ret, -decide_eq_true_eq, -decide_eq_false_iff_not, -List.any_eq_true, -List.any_eq_false, -bne_iff_ne, -beq_iff_eq, -beq_eq_false_iff_ne, -bne_eq_false_iff_eq]
        exact ⟨ls.length - (i + 1), by omega, skip (tel_hash r) _ (by simp [a2]) (by simp [a5]) (by simp [a6]) (by simp [a58]) (by simp [a59]) (by simp)⟩
      have gx' : ((x.toNat : Int) == 35) = false := by
        rw [beq_eq_false_iff_ne]
        intro h
        exact gx (UInt8.toNat_inj.1 (by simpa using (by omega : x.toNat = 35)))
      obtain ⟨e, h2, c2, e2, hc2, hk2, H⟩ := line_ev C1 K1 hnp hnn hnl (x :: r) (by omega) (by omega) (by omega)
      have k0 : h2 0 = _ := (hk2 0 _ (by omega) b0 (.inl rfl)).trans b0
      have k4 : h2 4 = _ := (hk2 4 _ (by omega) b4 (.inr rfl)).trans b4
      by_cases ge : e = 0
      · subst ge
        obtain ⟨code', stk', cv', bv', C2, K2, hl2, hs2, hQ⟩ := H rfl
        have gb := C2.blk
        obtain ⟨q1, q2, q3⟩ := C2.oc.nopan
        have hlen : ∀ h c, builtinA Tryz.prog .len [24] h c [cv'] = some (I code'.length, h, c) := by
          intro h c
          rcases C2.oc with ⟨rfl, h⟩ | ⟨n, rfl, _⟩
          · have : code' = [] := by simpa using h
            subst this; rfl
          · simp
        cases gl : decide (200 < (code'.length : Int))
        · simp -implicitDefEqProofs [a2, a5, a6, a58, a59, a60, g1, hy, w2, gx', b0, b4, e2, k0, k4, gb, q1, q2, q3, hlen, gl, to_normal, to_exit, to_ret, -decide_eq_true_eq, -decide_eq_false_iff_not, -List.any_eq_true, -List.any_eq_false, -bne_iff_ne, -beq_iff_eq, -beq_eq_false_iff_ne, -bne_eq_false_iff_eq]
          simp at gl
          exact ⟨ls.length - (i + 1), by omega, i + 1, code', stk', nv, cv', bv', rfl, by simp [a2], by simp [a5], by simp [a6], by simp [a58], by simp [a59], by simp, by omega, C2, K2, by omega, by omega, k0, k4, by simp only; omega, hq2 hQ⟩
        · simp -implicitDefEqProofs [a2, a5, a6, a58, a59, a60, g1, hy, w2, gx', b0, b4, e2, k0, k4, gb, q1, q2, q3, hlen, gl, to_normal, to_exit, to_ret, -decide_eq_true_eq, -decide_eq_false_iff_not, -List.any_eq_true, -List.any_eq_false, -bne_iff_ne, -beq_iff_eq, -beq_eq_false_iff_ne, -bne_eq_false_iff_eq]
          exact .inr ⟨rfl, by simp [a2], by simp, _, _, by simp; rfl, by simp; rfl, by decide⟩
      · have ge' : (e == 0) = false := by simpa using ge
        have ge2 : (e != 0) = true := by simpa using ge
        simp -implicitDefEqProofs [a2, a5, a6, a58, a59, a60, g1, hy, w2, gx', b0, b4, e2, ge', ge2, k0, k4, to_normal, to_exit, to_ret, -decide_eq_true_eq, -decide_eq_false_iff_not, -List.any_eq_true, -List.any_eq_false, -bne_iff_ne, -beq_iff_eq, -beq_eq_false_iff_ne, -bne_eq_false_iff_eq]
        exact .inr ⟨rfl, by simp [a2], by simp, _, e, (by simp; rfl), by simp, ge⟩
    · have g1 : decide (i < ls.length) = false := by simp; omega
      have hie : ls.take i = ls := List.take_of_length_le (by omega)
      rw [hie] at hq
      simp -implicitDefEqProofs [a2, a5, a6, a58, a59, a60, g1, to_normal, to_exit, to_ret, -decide_eq_true_eq, -decide_eq_false_iff_not, -List.any_eq_true, -List.any_eq_false, -bne_iff_ne, -beq_iff_eq, -beq_eq_false_iff_ne, -bne_eq_false_iff_eq]
      exact .inl ⟨rfl, code, stk, nv, cv, bv, by simp [a2], by simp [a5], by simp [a6], C1, K1, by omega, hcl, b0, b4, hc7, hq⟩
  · rintro e ⟨t1, h1, c1⟩ (⟨rfl, code, stk, nv, cv, bv, a2, a5, a6, C1, K1, hsk, hcl, b0, b4, hc7, hq⟩ | ⟨rfl, a2, b0, line, e, a3, a4, he⟩)
    · simp only at a2 a5 a6 C1 b0 b4 hc7
      have gb := C1.blk
      have hlen : ∀ h c, builtinA Tryz.prog .len [56] h c [bv] = some (I stk.length, h, c) := by
        intro h c
        rcases C1.ob with ⟨rfl, h⟩ | ⟨n, rest, rfl, _⟩
        · have : stk = [] := by simpa using h
          subst this; rfl
        · simp
      obtain ⟨q1, q2, q3⟩ := C1.on.nopan
      obtain ⟨r1, r2, r3⟩ := C1.oc.nopan
      obtain ⟨s1, s2, s3⟩ := C1.ob.nopan
      have bad : ∀ {z e : Nat} {v : AV} {es : List (List AV)}, OutG z e h1 c1 v es → v.isBad = false := by
        intro z e v es O
        rcases O with ⟨rfl, _⟩ | ⟨n, rfl, _⟩ <;> rfl
      have q4 := bad C1.on
      have r4 := bad C1.oc
      cases stk with
      | cons bk stk =>
        have gl : decide (0 < ((bk :: stk).length : Int)) = true := by simp
        simp -implicitDefEqProofs [a2, a5, a6, b0, b4, gb, q1, q2, q3, r1, r2, r3, s1, s2, s3, hlen, gl, -decide_eq_true_eq, -decide_eq_false_iff_not, -List.any_eq_true, -List.any_eq_false, -bne_iff_ne, -beq_iff_eq, -beq_eq_false_iff_ne, -bne_eq_false_iff_eq]
        exact ⟨_, _, _, _, _, rfl, .inl ⟨by decide, rfl⟩⟩
      | nil =>
        simp -implicitDefEqProofs [a2, a5, a6, b0, b4, gb, q1, q2, q3, q4, r1, r2, r3, r4, s1, s2, s3, hlen, -decide_eq_true_eq, -decide_eq_false_iff_not, -List.any_eq_true, -List.any_eq_false, -bne_iff_ne, -beq_iff_eq, -beq_eq_false_iff_ne, -bne_eq_false_iff_eq]
        have hk : ∀ {z e : Nat} {v : AV} {es : List (List AV)}, OutG z e h1 c1 v es → e ≠ 26 → ∀ b, OutG z e (h1.put 0 b) c1 v es := by
          intro z e v es O he b
          refine O.frame (Nat.le_refl _) fun m hm hmc => ?_
          obtain ⟨_, x, hx, ht⟩ := O.ty hm
          have : m ≠ 0 := ne_ty hx b0 (by rw [ht]; simpa using he)
          rw [put_get, if_neg this]
        exact ⟨_, _, _, _, _, rfl, .inr ⟨rfl, names, code, nv, cv, rfl, hk C1.on (by decide) _, hk C1.oc (by decide) _, fun l hl => hk (C1.parts l hl) (by decide) _, t16 hq, tf, tn, tm, hcl, K1.1⟩⟩
    · simp only at a2 b0 a3 a4
      simp -implicitDefEqProofs [a2, b0, a3, a4, he, -decide_eq_true_eq, -decide_eq_false_iff_not, -List.any_eq_true, -List.any_eq_false, -bne_iff_ne, -beq_iff_eq, -beq_eq_false_iff_ne, -bne_eq_false_iff_eq]
      exact ⟨_, _, _, _, _, rfl, .inl ⟨he, rfl⟩⟩
  · exact ⟨0, [], [], nv, _, _, by simp, by simp [a2], by simp [a5], by simp [a6], by simp, by simp, by simp, by omega, C, ⟨by simp, fun b hb => by cases hb⟩, by simp, by simp, b0, b4, hc, by simp⟩
end Go.Proofs.YtmpcjfkfgjpebaaGreatDoor.AM
namespace Go.Proofs.YtmpcjfkfgjpebaaGreatDoor.AM
open Go Go.Proofs
attribute [local simp] fieldAddrA ld setCells stA skipV appendA hd makeA bnd kindA freshA killOk loadsAt edgesOn Region.binds newT empT lay_get allocA buildA buildRow lenA els indexAddrA isNil opA evA lit_int lit_bool lit_nil lit_nilf yldA binI unA pickA boolV intV fieldA mk eqs nilC mayP
theorem frz_I (h : Heap) (n : Nat) (i : Int) : frz h (n + 1) (I i) = some (I i) := rfl
theorem frz_agg (h : Heap) (n : Nat) (cs : List AV) : frz h (n + 1) (.agg cs) = (cs.mapM (frz h n)).map .agg := rfl
theorem frz_tup (h : Heap) (n : Nat) (cs : List AV) : frz h (n + 1) (.tup cs) = (cs.mapM (frz h n)).map .tup := rfl
theorem frz_out {z e : Nat} {h : Heap} {c : Nat} {v : AV} {es es2 : List (List AV)} (O : OutG z e h c v es) {n : Nat} (hm : es.mapM (fun (e : List AV) => e.mapM (frz h n)) = some es2) (h0 : es = [] → es2 = []) : ∃ b, frz h (n + 1) v = some (.ro b es2) := by
  rcases O with ⟨rfl, h1⟩ | ⟨m, rfl, h1, h2, h3⟩
  · exact ⟨true, by rw [h0 h1]; rfl⟩
  · refine ⟨false, ?_⟩
    have hel : els h (.sl m z 0 es.length) = some es := by
      simp only [els, h3, Option.bind_some]
      simp
    show ((els h (.sl m z 0 es.length)).bind fun es => (es.mapM fun (e : List AV) => e.mapM (frz h n)).map (AV.ro false)) = some (AV.ro false es2)
    rw [hel, Option.bind_some, hm]
    rfl
theorem frz_bod {h : Heap} {n : Nat} (bs : List (List (Int × Int))) : (bodR bs).mapM (fun (e : List AV) => e.mapM (frz h (n + 1))) = some (bodR bs) := by
  induction bs with
  | nil => rfl
  | cons x l ih =>
    simp only [bodR, List.map_cons, List.mapM_cons] at ih ⊢
    rw [ih]
    rfl
/-- A code of frozen rows. -/
def FrzC (code : List Ln) : Prop := ∀ l ∈ code, ∃ b, l.pv = .ro b (bodR l.bodies)
theorem frz_code {h : Heap} {c n : Nat} : ∀ (code : List Ln), (∀ l ∈ code, OutG 1 66 h c l.pv (bodR l.bodies)) →
    ∃ code2 : List Ln, (code.map Ln.row).mapM (fun (e : List AV) => e.mapM (frz h (n + 2))) = some (code2.map Ln.row) ∧ code2.length = code.length ∧ FrzC code2 ∧ ∀ l2 ∈ code2, ∃ l ∈ code, ∃ v, l2 = { l with pv := v }
  | [], _ => ⟨[], rfl, rfl, (fun l hl => by cases hl), (fun l hl => by cases hl)⟩
  | l :: code, H => by
    obtain ⟨code2, e1, e2, e3, e4⟩ := frz_code (n := n) code fun l hl => H l (by simp [hl])
    obtain ⟨b, hb⟩ := frz_out (n := n + 1) (H l (by simp)) (frz_bod l.bodies) id
    refine ⟨{ l with pv := .ro b (bodR l.bodies) } :: code2, ?_, by simp [e2], ?_, ?_⟩
    · simp only [List.map_cons, List.mapM_cons]
      rw [e1]
      have : l.row.mapM (frz h (n + 2)) = some (Ln.row { l with pv := .ro b (bodR l.bodies) }) := by
        simp only [Ln.row, List.mapM_cons, List.mapM_nil, frz_I, hb]
        rfl
      rw [this]
      rfl
    · intro x hx
      rcases List.mem_cons.1 hx with rfl | hx
      · exact ⟨b, rfl⟩
      · exact e3 x hx
    · intro x hx
      rcases List.mem_cons.1 hx with rfl | hx
      · exact ⟨l, by simp, _, rfl⟩
      · obtain ⟨l', h1, h2⟩ := e4 x hx
        exact ⟨l', by simp [h1], h2⟩
/-- A program's value. -/
abbrev progV (nb cb : Bool) (names : List Str) (code : List Ln) : AV := .agg [.ro nb (strs names), .ro cb (code.map Ln.row)]
/-- What a text is compiled to. -/
def CompR (o : AV) : Prop := ∃ (pv : AV) (line e : Int), o = .tup [pv, I line, E e] ∧ ((e ≠ 0 ∧ pv = .agg [.ro true [], .ro true []]) ∨ (e = 0 ∧ ∃ nb cb names code, pv = progV nb cb names code ∧ FrzC code ∧ ValidP names code))
theorem compile_c (s : Str) (hs : s.length ≤ 100000) : ∃ o, CompR o ∧ ∀ h c, callA mZ (run Tryz.prog mZ) 7 [S s] h c = some (o, h, c) := by
  obtain ⟨pv, line, e, h', c', e1, H⟩ := compile_ev s hs
  have key : ∃ o, CompR o ∧ frz h' depth (.tup [pv, I line, E e]) = some o := by
    rcases H with ⟨he, rfl⟩ | ⟨rfl, names, code, nv, cv, rfl, O1, O2, OB, V⟩
    · exact ⟨_, ⟨_, line, e, rfl, .inl ⟨he, rfl⟩⟩, rfl⟩
    · obtain ⟨b1, f1⟩ := frz_out (n := 9) O1 (frzS names) id
      obtain ⟨code2, f2, f3, f4, f5⟩ := frz_code (n := 7) code OB
      obtain ⟨b2, f6⟩ := frz_out (n := 9) O2 f2 (fun h => by
        have : code = [] := by simpa using h
        subst this
        have : code2 = [] := by simpa using f3
        rw [this]
        rfl)
      refine ⟨.tup [progV b1 b2 names code2, I line, E 0], ⟨_, line, 0, rfl, .inr ⟨rfl, b1, b2, names, code2, rfl, f4, ⟨V.n16, V.res, V.nd, V.nms, by rw [f3]; exact V.c200, fun l2 hl2 => ?_⟩⟩⟩, ?_⟩
      · obtain ⟨l, hl, v, rfl⟩ := f5 l2 hl2
        rw [f3]
        exact V.lns l hl
      · show (([.agg [nv, cv], I line, E 0] : List AV).mapM (frz h' 11)).map AV.tup = _
        have : frz h' 11 (.agg [nv, cv]) = some (progV b1 b2 names code2) := by
          rw [frz_agg]
          simp only [List.mapM_cons, List.mapM_nil, f1, f6]
          rfl
        simp only [List.mapM_cons, List.mapM_nil, this]
        rfl
  obtain ⟨o, hC, ho⟩ := key
  refine ⟨o, hC, fun h c => ?_⟩
  rw [call_pure _ _ _ _ _ _ rfl]
  have hm : ([S s] : List AV).mapM (frz h depth) = some [S s] := rfl
  rw [hm, Option.bind_some, e1, Option.bind_some]
  simp only [ho, Option.bind_some]
  rw [if_pos (by rw [show lf.lfs ([S s] : List AV) = true from rfl]; rfl)]
end Go.Proofs.YtmpcjfkfgjpebaaGreatDoor.AM
namespace Go.Proofs.YtmpcjfkfgjpebaaGreatDoor.AM
open Go Go.Proofs
attribute [local simp] fieldAddrA ld setCells stA skipV appendA hd makeA bnd kindA freshA killOk loadsAt edgesOn Region.binds newT empT lay_get allocA buildA buildRow lenA els indexAddrA isNil opA evA lit_int lit_bool lit_nil lit_nilf yldA binI unA pickA boolV intV fieldA mk eqs nilC mayP
abbrev nums (l : List Int) : List (List AV) := l.map fun n => [I n]
theorem known_ev (na : Nat) (q : Int × Int) : ∃ h c, run Tryz.prog mZ 93 [.agg [I q.1, I q.2], I 0, I na] Heap.none 0 = some (B (knownP na q), h, c) := by
  obtain ⟨k, v⟩ := q
  rw [run_eq (show mZ 93 = some .pure from rfl) rfl, Tryz.func93]
  simp only
  by_cases h0 : k = 0
  · subst h0
    have e : knownP na (0, v) = (decide (-2147483647 ≤ v) && decide (v ≤ 2147483647)) := rfl
    rw [e]
    cases g : decide (-2147483647 ≤ v)
    · simp -implicitDefEqProofs [Tryz.f93, g, -decide_eq_true_eq, -decide_eq_false_iff_not, -List.any_eq_true, -List.any_eq_false, -bne_iff_ne, -beq_iff_eq, -beq_eq_false_iff_ne, -bne_eq_false_iff_eq]
    · cases g2 : decide (v ≤ 2147483647) <;> simp -implicitDefEqProofs [Tryz.f93, g, g2, -decide_eq_true_eq, -decide_eq_false_iff_not, -List.any_eq_true, -List.any_eq_false, -bne_iff_ne, -beq_iff_eq, -beq_eq_false_iff_ne, -bne_eq_false_iff_eq]
  have b0 : (k == 0) = false := by simpa using h0
  by_cases h1 : k = 1
  · subst h1
    have e : knownP na (1, v) = (decide (0 ≤ v) && decide (v < (na : Int))) := rfl
    rw [e]
    cases g : decide (0 ≤ v)
    · simp -implicitDefEqProofs [Tryz.f93, g, -decide_eq_true_eq, -decide_eq_false_iff_not, -List.any_eq_true, -List.any_eq_false, -bne_iff_ne, -beq_iff_eq, -beq_eq_false_iff_ne, -bne_eq_false_iff_eq]
    · cases g2 : decide (v < (na : Int)) <;> simp -implicitDefEqProofs [Tryz.f93, g, g2, -decide_eq_true_eq, -decide_eq_false_iff_not, -List.any_eq_true, -List.any_eq_false, -bne_iff_ne, -beq_iff_eq, -beq_eq_false_iff_ne, -bne_eq_false_iff_eq]
  have b1 : (k == 1) = false := by simpa using h1
  by_cases h10 : k = 10
  · subst h10
    have e : knownP na (10, v) = false := rfl
    rw [e]
    cases g : decide (0 ≤ v)
    · simp -implicitDefEqProofs [Tryz.f93, g, -decide_eq_true_eq, -decide_eq_false_iff_not, -List.any_eq_true, -List.any_eq_false, -bne_iff_ne, -beq_iff_eq, -beq_eq_false_iff_ne, -bne_eq_false_iff_eq]
    · have g2 : decide (v < 0) = false := by simp at g ⊢; omega
      simp -implicitDefEqProofs [Tryz.f93, g, g2, -decide_eq_true_eq, -decide_eq_false_iff_not, -List.any_eq_true, -List.any_eq_false, -bne_iff_ne, -beq_iff_eq, -beq_eq_false_iff_ne, -bne_eq_false_iff_eq]
  have b10 : (k == 10) = false := by simpa using h10
  have e : knownP na (k, v) = (decide (0 < k) && decide (k < 13) && decide (v = 0)) := by
    unfold knownP
    simp only [if_neg h0, if_neg h1, if_neg h10]
  rw [e]
  have e2 : decide (v = 0) = (v == 0) := rfl
  rw [e2]
  cases g : decide (0 < k)
  · simp -implicitDefEqProofs [Tryz.f93, b0, b1, b10, g, -decide_eq_true_eq, -decide_eq_false_iff_not, -List.any_eq_true, -List.any_eq_false, -bne_iff_ne, -beq_iff_eq, -beq_eq_false_iff_ne, -bne_eq_false_iff_eq]
  · cases g2 : decide (k < 13)
    · simp -implicitDefEqProofs [Tryz.f93, b0, b1, b10, g, g2, -decide_eq_true_eq, -decide_eq_false_iff_not, -List.any_eq_true, -List.any_eq_false, -bne_iff_ne, -beq_iff_eq, -beq_eq_false_iff_ne, -bne_eq_false_iff_eq]
    · cases g3 : (v == 0) <;> simp -implicitDefEqProofs [Tryz.f93, b0, b1, b10, g, g2, g3, -decide_eq_true_eq, -decide_eq_false_iff_not, -List.any_eq_true, -List.any_eq_false, -bne_iff_ne, -beq_iff_eq, -beq_eq_false_iff_ne, -bne_eq_false_iff_eq]
theorem known_c (na : Nat) (q : Int × Int) (h : Heap) (c : Nat) : callA mZ (run Tryz.prog mZ) 93 [.agg [I q.1, I q.2], I 0, I na] h c = some (B (knownP na q), h, c) := by
  obtain ⟨h', c', e⟩ := known_ev na q
  exact call_of rfl rfl e rfl rfl
theorem pops_ev (q : Int × Int) (hk : q.1 ≠ 10) : ∃ h c, run Tryz.prog mZ 94 [.ro true [], .agg [I q.1, I q.2]] Heap.none 0 = some (I (popsP q.1), h, c) := by
  obtain ⟨k, v⟩ := q
  simp only at hk ⊢
  rw [run_eq (show mZ 94 = some .pure from rfl) rfl, Tryz.func94]
  have b10 : (k == 10) = false := by simpa using hk
  by_cases h0 : k = 0
  · subst h0
    simp -implicitDefEqProofs [Tryz.f94, popsP, -decide_eq_true_eq, -decide_eq_false_iff_not, -List.any_eq_true, -List.any_eq_false, -bne_iff_ne, -beq_iff_eq, -beq_eq_false_iff_ne, -bne_eq_false_iff_eq]
  have b0 : (k == 0) = false := by simpa using h0
  by_cases h1 : k = 1
  · subst h1
    simp -implicitDefEqProofs [Tryz.f94, popsP, -decide_eq_true_eq, -decide_eq_false_iff_not, -List.any_eq_true, -List.any_eq_false, -bne_iff_ne, -beq_iff_eq, -beq_eq_false_iff_ne, -bne_eq_false_iff_eq]
  have b1 : (k == 1) = false := by simpa using h1
  by_cases h9 : k = 9
  · subst h9
    simp -implicitDefEqProofs [Tryz.f94, popsP, -decide_eq_true_eq, -decide_eq_false_iff_not, -List.any_eq_true, -List.any_eq_false, -bne_iff_ne, -beq_iff_eq, -beq_eq_false_iff_ne, -bne_eq_false_iff_eq]
  have b9 : (k == 9) = false := by simpa using h9
  simp -implicitDefEqProofs [Tryz.f94, popsP, b0, b1, b9, b10, h0, h1, h9, -decide_eq_true_eq, -decide_eq_false_iff_not, -List.any_eq_true, -List.any_eq_false, -bne_iff_ne, -beq_iff_eq, -beq_eq_false_iff_ne, -bne_eq_false_iff_eq]
theorem pops_c (q : Int × Int) (hk : q.1 ≠ 10) (h : Heap) (c : Nat) : callA mZ (run Tryz.prog mZ) 94 [.ro true [], .agg [I q.1, I q.2]] h c = some (I (popsP q.1), h, c) := by
  obtain ⟨h', c', e⟩ := pops_ev q hk
  exact call_of rfl rfl e rfl rfl
theorem known_10 {na : Nat} {q : Int × Int} (h : knownP na q = true) : q.1 ≠ 10 := by
  intro e
  unfold knownP at h
  rw [e] at h
  simp at h
theorem pops_3 (k : Int) : popsP k ≤ 3 := by unfold popsP; split <;> (try split) <;> omega
def SOut (o : Option (AV × Heap × Nat)) : Prop := ∃ h c, o = some (B true, h, c)
theorem hgt_drop {na : Nat} {b : List (Int × Int)} {i n : Nat} {q : Int × Int} (hq : b[i]? = some q) (h : hgt na (b.drop i) n = some 1) : knownP na q = true ∧ popsP q.1 ≤ n ∧ hgt na (b.drop (i + 1)) (n + 1 - popsP q.1) = some 1 := by
  have hi := (List.getElem?_eq_some_iff.1 hq)
  obtain ⟨h1, h2⟩ := hi
  rw [List.drop_eq_getElem_cons h1, h2, hgt] at h
  split at h
  · rename_i g
    exact ⟨g.1, g.2, h⟩
  · cases h
theorem sound_ev (nb : Bool) (na : Nat) (b : List (Int × Int)) (hB : Bal na b) (hl : b.length ≤ 60) : SOut (run Tryz.prog mZ 60 [.ro true [], I 0, I na, .ro nb (opsE b)] Heap.none 0) := by
  rw [run_eq (show mZ 60 = some .pure from rfl) rfl, Tryz.func60]
  simp -implicitDefEqProofs [Tryz.f60, Option.bind_assoc, -decide_eq_true_eq, -decide_eq_false_iff_not, -List.any_eq_true, -List.any_eq_false, -bne_iff_ne, -beq_iff_eq, -beq_eq_false_iff_ne, -bne_eq_false_iff_eq]
  refine loop_to (R := SOut) (fun kk st => ∃ i n : Nat, kk = b.length - i ∧ i ≤ b.length ∧ n ≤ i ∧ st.t 0 = .ro true [] ∧ st.t 1 = I 0 ∧ st.t 2 = I na ∧ st.t 3 = .ro nb (opsE b) ∧ st.t 9 = I n ∧ st.t 12 = .ro nb (opsE b) ∧ st.t 13 = I b.length ∧ st.t 14 = I i ∧ hgt na (b.drop i) n = some 1)
    (fun e st => e = .exit 0 ∧ st.t 3 = .ro nb (opsE b) ∧ st.t 9 = I 1) ?_ ?_ b.length _ ?_
  · rintro kk ⟨t, h, c⟩ ⟨i, n, rfl, hi, hn, a0, a1, a2, a3, a9, a12, a13, a14, H⟩
    simp only at a0 a1 a2 a3 a9 a12 a13 a14
    by_cases g : i < b.length
    · have g1 : decide (i < b.length) = true := by simp [g]
      have w2 : IntKind.i64.wrap ((i : Int) + 1) = ((i + 1 : Nat) : Int) := wrap_succ (by omega)
      obtain ⟨q, hq⟩ : ∃ q, b[i]? = some q := ⟨b[i], by simp [g]⟩
      obtain ⟨h1, h2, h3⟩ := hgt_drop hq H
      have e1 := fun h c => known_c na q h c
      rw [h1] at e1
      have e2 := fun h c => pops_c q (known_10 h1) h c
      have p3 := pops_3 q.1
      have w3 : IntKind.i64.wrap (1 - (popsP q.1 : Int)) = 1 - (popsP q.1 : Int) := wrap_id (by omega) (by omega)
      have w4 : IntKind.i64.wrap ((n : Int) + (1 - (popsP q.1 : Int))) = ((n + 1 - popsP q.1 : Nat) : Int) := by rw [wrap_id (by omega) (by omega)]; omega
      have g2 : decide ((n : Int) < (popsP q.1 : Int)) = false := by simp; omega
      have g2' : decide (n < popsP q.1) = false := by simp; omega
      simp -implicitDefEqProofs [a0, a1, a2, a3, a9, a12, a13, a14, g1, hq, e1, e2, w2, w3, w4, g2, g2', to_normal, to_exit, to_ret, -decide_eq_true_eq, -decide_eq_false_iff_not, -List.any_eq_true, -List.any_eq_false, -bne_iff_ne, -beq_iff_eq, -beq_eq_false_iff_ne, -bne_eq_false_iff_eq]
      exact ⟨b.length - (i + 1), by omega, i + 1, rfl, by omega, n + 1 - popsP q.1, by omega, rfl, by omega, h3⟩
    · have g1 : decide (i < b.length) = false := by simp; omega
      rw [List.drop_eq_nil_of_le (by omega)] at H
      have : n = 1 := by simpa [hgt] using H
      subst this
      simp -implicitDefEqProofs [a0, a1, a2, a3, a9, a12, a13, a14, g1, to_normal, to_exit, to_ret, -decide_eq_true_eq, -decide_eq_false_iff_not, -List.any_eq_true, -List.any_eq_false, -bne_iff_ne, -beq_iff_eq, -beq_eq_false_iff_ne, -bne_eq_false_iff_eq]
  · rintro e ⟨t, h, c⟩ ⟨rfl, a3, a9⟩
    simp only at a3 a9
    have g1 : decide (b.length ≤ 60) = true := by simp [hl]
    have g2 : decide ((b.length : Int) ≤ 60) = true := by simp; omega
    simp -implicitDefEqProofs [a3, a9, g1, g2, -decide_eq_true_eq, -decide_eq_false_iff_not, -List.any_eq_true, -List.any_eq_false, -bne_iff_ne, -beq_iff_eq, -beq_eq_false_iff_ne, -bne_eq_false_iff_eq]
    exact ⟨_, _, rfl⟩
  · exact ⟨0, 0, by simp, by simp, by simp, by simp, by simp, by simp, by simp, by simp, by simp, by simp, by simp, by simpa using hB 0⟩
theorem sound_c (nb : Bool) (na : Nat) (b : List (Int × Int)) (hB : Bal na b) (hl : b.length ≤ 60) (h : Heap) (c : Nat) : callA mZ (run Tryz.prog mZ) 60 [.ro true [], I 0, I na, .ro nb (opsE b)] h c = some (B true, h, c) := by
  obtain ⟨h', c', e⟩ := sound_ev nb na b hB hl
  exact call_of rfl rfl e rfl rfl
end Go.Proofs.YtmpcjfkfgjpebaaGreatDoor.AM
namespace Go.Proofs.YtmpcjfkfgjpebaaGreatDoor.AM
open Go Go.Proofs
attribute [local simp] fieldAddrA ld setCells stA skipV appendA hd makeA bnd kindA freshA killOk loadsAt edgesOn Region.binds newT empT lay_get allocA buildA buildRow lenA els indexAddrA isNil opA evA lit_int lit_bool lit_nil lit_nilf yldA binI unA pickA boolV intV fieldA mk eqs nilC mayP
/-- What a number is kept to. -/
def kept (n : Int) : Int := if (if 2147483647 < n then (2147483647 : Int) else n) > -2147483647 then (if 2147483647 < n then (2147483647 : Int) else n) else -2147483647
@[simp] theorem min_b (ts : List TypeId) (h : Heap) (c : Nat) (a b : Int) : builtinA Tryz.prog .min ts h c [I a, I b] = some (I (if b < a then b else a), h, c) := rfl
theorem kept_ev (n : Int) : ∃ h c, run Tryz.prog mZ 97 [I n] Heap.none 0 = some (I (kept n), h, c) := by
  rw [run_eq (show mZ 97 = some .pure from rfl) rfl, Tryz.func97]
  simp -implicitDefEqProofs [Tryz.f97, kept, -decide_eq_true_eq, -decide_eq_false_iff_not, -List.any_eq_true, -List.any_eq_false, -bne_iff_ne, -beq_iff_eq, -beq_eq_false_iff_ne, -bne_eq_false_iff_eq]
theorem kept_c (n : Int) (h : Heap) (c : Nat) : callA mZ (run Tryz.prog mZ) 97 [I n] h c = some (I (kept n), h, c) := by
  obtain ⟨h', c', e⟩ := kept_ev n
  exact call_of rfl rfl e rfl rfl
theorem vals1_ev (n : Int) : ∃ h c, run Tryz.prog mZ 96 [I n] Heap.none 0 = some (B (n != kept n), h, c) := by
  rw [run_eq (show mZ 96 = some .pure from rfl) rfl, Tryz.func96]
  have e1 := fun h c => kept_c n h c
  simp -implicitDefEqProofs [Tryz.f96, e1, -decide_eq_true_eq, -decide_eq_false_iff_not, -List.any_eq_true, -List.any_eq_false, -bne_iff_ne, -beq_iff_eq, -beq_eq_false_iff_ne, -bne_eq_false_iff_eq]
theorem vals1_c (n : Int) (h : Heap) (c : Nat) : callA mZ (run Tryz.prog mZ) 96 [I n] h c = some (B (n != kept n), h, c) := by
  obtain ⟨h', c', e⟩ := vals1_ev n
  exact call_of rfl rfl e rfl rfl
def okV (l : List Int) : Prop := ∀ n ∈ l, kept n = n
theorem frzN {h : Heap} {n : Nat} (l : List Int) : (nums l).mapM (fun (e : List AV) => e.mapM (frz h (n + 1))) = some (nums l) := by
  induction l with
  | nil => rfl
  | cons x l ih =>
    simp only [nums, List.map_cons, List.mapM_cons] at ih ⊢
    rw [ih]
    rfl
def MOut (o : Option (AV × Heap × Nat)) : Prop := ∃ h c, o = some (I (-1), h, c)
theorem idxf_ev (nb : Bool) (l : List Int) (hl : l.length ≤ 1000000) (ho : okV l) : MOut (run Tryz.prog mZ 132 [.ro nb (nums l), .fn 96 []] Heap.none 0) := by
  rw [run_eq (show mZ 132 = some .pure from rfl) rfl, Tryz.func132]
  simp -implicitDefEqProofs [Tryz.f132, Option.bind_assoc, -decide_eq_true_eq, -decide_eq_false_iff_not, -List.any_eq_true, -List.any_eq_false, -bne_iff_ne, -beq_iff_eq, -beq_eq_false_iff_ne, -bne_eq_false_iff_eq]
  refine loop_to (R := MOut) (fun kk st => ∃ i : Nat, kk = l.length - i ∧ i ≤ l.length ∧ st.t 0 = .ro nb (nums l) ∧ st.t 1 = .fn 96 [] ∧ st.t 7 = I l.length ∧ st.t 8 = I i)
    (fun e st => e = .exit 0) ?_ ?_ l.length _ ?_
  · rintro kk ⟨t, h, c⟩ ⟨i, rfl, hi, a0, a1, a7, a8⟩
    simp only at a0 a1 a7 a8
    by_cases g : i < l.length
    · have g1 : decide (i < l.length) = true := by simp [g]
      have w2 : IntKind.i64.wrap ((i : Int) + 1) = ((i + 1 : Nat) : Int) := wrap_succ (by omega)
      obtain ⟨q, hq⟩ : ∃ q, l[i]? = some q := ⟨l[i], by simp [g]⟩
      have e1 := fun h c => vals1_c q h c
      have : (q != kept q) = false := by rw [ho q (List.mem_of_getElem? hq)]; simp
      rw [this] at e1
      simp -implicitDefEqProofs [a0, a1, a7, a8, g1, hq, e1, w2, to_normal, to_exit, to_ret, -decide_eq_true_eq, -decide_eq_false_iff_not, -List.any_eq_true, -List.any_eq_false, -bne_iff_ne, -beq_iff_eq, -beq_eq_false_iff_ne, -bne_eq_false_iff_eq]
      exact ⟨l.length - (i + 1), by omega, i + 1, rfl, by omega, by omega⟩
    · have g1 : decide (i < l.length) = false := by simp; omega
      simp -implicitDefEqProofs [a0, a1, a7, a8, g1, to_normal, to_exit, to_ret, -decide_eq_true_eq, -decide_eq_false_iff_not, -List.any_eq_true, -List.any_eq_false, -bne_iff_ne, -beq_iff_eq, -beq_eq_false_iff_ne, -bne_eq_false_iff_eq]
  · rintro e ⟨t, h, c⟩ rfl
    simp -implicitDefEqProofs [-decide_eq_true_eq, -decide_eq_false_iff_not, -List.any_eq_true, -List.any_eq_false, -bne_iff_ne, -beq_iff_eq, -beq_eq_false_iff_ne, -bne_eq_false_iff_eq]
    exact ⟨_, _, rfl⟩
  · exact ⟨0, by simp, by simp, by simp, by simp, by simp, by simp⟩
theorem idxf_c (nb : Bool) (l : List Int) (hl : l.length ≤ 1000000) (ho : okV l) (h : Heap) (c : Nat) : callA mZ (run Tryz.prog mZ) 132 [.ro nb (nums l), .fn 96 []] h c = some (I (-1), h, c) := by
  obtain ⟨h', c', e⟩ := idxf_ev nb l hl ho
  exact call_of rfl rfl e rfl rfl
theorem conf_ev (nb : Bool) (l : List Int) (hl : l.length ≤ 1000000) (ho : okV l) : ∃ h c, run Tryz.prog mZ 95 [.ro nb (nums l), .fn 96 []] Heap.none 0 = some (B false, h, c) := by
  rw [run_eq (show mZ 95 = some .pure from rfl) rfl, Tryz.func95]
  have e1 := fun h c => idxf_c nb l hl ho h c
  simp -implicitDefEqProofs [Tryz.f95, e1, -decide_eq_true_eq, -decide_eq_false_iff_not, -List.any_eq_true, -List.any_eq_false, -bne_iff_ne, -beq_iff_eq, -beq_eq_false_iff_ne, -bne_eq_false_iff_eq]
theorem conf_c (nb : Bool) (l : List Int) (hl : l.length ≤ 1000000) (ho : okV l) (h : Heap) (c : Nat) : callA mZ (run Tryz.prog mZ) 95 [.ro nb (nums l), .fn 96 []] h c = some (B false, h, c) := by
  obtain ⟨h', c', e⟩ := conf_ev nb l hl ho
  exact call_of rfl rfl e rfl rfl
theorem vals_ev (nb : Bool) (l : List Int) (hl : l.length ≤ 1000000) (ho : okV l) : ∃ h c, run Tryz.prog mZ 61 [.ro nb (nums l)] Heap.none 0 = some (B true, h, c) := by
  rw [run_eq (show mZ 61 = some .pure from rfl) rfl, Tryz.func61]
  have e1 := fun h c => conf_c nb l hl ho h c
  simp -implicitDefEqProofs [Tryz.f61, e1, -decide_eq_true_eq, -decide_eq_false_iff_not, -List.any_eq_true, -List.any_eq_false, -bne_iff_ne, -beq_iff_eq, -beq_eq_false_iff_ne, -bne_eq_false_iff_eq]
theorem vals_c (nb : Bool) (l : List Int) (hl : l.length ≤ 1000000) (ho : okV l) (h : Heap) (c : Nat) : callA mZ (run Tryz.prog mZ) 61 [.ro nb (nums l)] h c = some (B true, h, c) := by
  obtain ⟨h', c', e⟩ := vals_ev nb l hl ho
  exact call_of rfl rfl e rfl rfl
theorem run_fz {P : Program} {md : Nat → Option CMode} {n f : Nat} {args : List AV} {v : AV} (e : ((callN P md n f args Heap.none 0).bind fun r => frz r.2.1 depth r.1) = some v) : ∃ r h' c', run P md f args Heap.none 0 = some (r, h', c') ∧ frz h' depth r = some v := by
  obtain ⟨⟨r, h', c'⟩, e1, e2⟩ := Option.bind_eq_some_iff.mp e
  exact ⟨r, h', c', run_some.mpr ⟨n, e1⟩, e2⟩
/-- A pure call of arguments that lead nowhere. -/
theorem call_fz {md : Nat → Option CMode} {f : Nat} {args vs : List AV} {r v : AV} {h h' : Heap} {c c' : Nat} (hm : md f = some .pure) (ha : args.mapM (frz h depth) = some vs) (hl : lf.lfs args = true)
    (e : run Tryz.prog md f vs Heap.none 0 = some (r, h', c')) (fr : frz h' depth r = some v) : callA md (run Tryz.prog md) f args h c = some (v, h, c) := by
  rw [call_pure _ _ _ _ _ _ hm, ha, Option.bind_some, e, Option.bind_some]
  simp only [fr, Option.bind_some, hl, Bool.true_or, if_true]
theorem costs_0 : ((callN Tryz.prog mZ 40 62 [.ro true []] Heap.none 0).bind fun r => frz r.2.1 depth r.1) = some (.ro false []) := by kernel_rfl
theorem costs_c (h : Heap) (c : Nat) : callA mZ (run Tryz.prog mZ) 62 [.ro true []] h c = some (.ro false [], h, c) := by
  obtain ⟨r, h', c', e, f⟩ := run_fz costs_0
  exact call_fz rfl rfl rfl e f
def ZOut (m : Nat) (b : Option Blk) (o : Option (AV × Heap × Nat)) : Prop := ∃ h' c', o = some (.tup [I 0, B false], h', c') ∧ h' m = b
/-- No steps are left. -/
theorem run0_ev {m : Nat} {h : Heap} {c : Nat} {b1 b2 : Bool} {q : Int × Int} {r : List (Int × Int)} {vs : List Int} (hm : h m = some ⟨3, [[.ro true [], .ro false [], I 0]], some 103⟩) (hmc : m < c) (hk : q.1 ≠ 10) :
    ZOut m (some ⟨3, [[.ro true [], .ro false [], I 0]], some 103⟩) (callA mZ (run Tryz.prog mZ) 63 [.ptr m 0 0, .ro b1 (opsE (q :: r)), .ro b2 (nums vs)] h c) := by
  obtain ⟨k, v⟩ := q
  have hk' : (k == 10) = false := by simpa using hk
  have e1 : ∀ (h : Heap) (c : Nat), h m = some ⟨3, [[.ro true [], .ro false [], I 0]], some 103⟩ → m < c → ∃ h' c', callA mZ (run Tryz.prog mZ) 99 [.ptr m 0 0, .agg [I k, I v]] h c = some (B false, h', c') ∧ h' m = h m := by
    intro h c hm hmc
    rw [call_heap rfl, run_eq (show mZ 99 = some .heap from rfl) rfl, Tryz.func99]
    have hn : m ≠ c := by omega
    simp -implicitDefEqProofs [Tryz.f99, hk', hm, hn, -decide_eq_true_eq, -decide_eq_false_iff_not, -List.any_eq_true, -List.any_eq_false, -bne_iff_ne, -beq_iff_eq, -beq_eq_false_iff_ne, -bne_eq_false_iff_eq]
  rw [call_heap rfl, run_eq (show mZ 63 = some .heap from rfl) rfl, Tryz.func63]
  simp -implicitDefEqProofs [Tryz.f63, Option.bind_assoc, -decide_eq_true_eq, -decide_eq_false_iff_not, -List.any_eq_true, -List.any_eq_false, -bne_iff_ne, -beq_iff_eq, -beq_eq_false_iff_ne, -bne_eq_false_iff_eq]
  refine loop_to (R := ZOut m _) (fun kk st => st.t 0 = .ptr m 0 0 ∧ st.t 13 = .ro b1 (opsE ((k, v) :: r)) ∧ (∃ n : Nat, st.t 14 = I (n + 1 : Nat)) ∧ st.t 15 = I 0 ∧ st.h m = some ⟨3, [[.ro true [], .ro false [], I 0]], some 103⟩ ∧ m < st.c)
    (fun e st => e = .ret ∧ st.t 6 = I 0 ∧ st.t 7 = B false ∧ st.h m = some ⟨3, [[.ro true [], .ro false [], I 0]], some 103⟩) ?_ ?_ 0 _ ?_
  · rintro kk ⟨t, h, c⟩ ⟨a0, a13, ⟨n, a14⟩, a15, hm, hmc⟩
    simp only at a0 a13 a14 a15 hm hmc
    have hn : m ≠ c := by omega
    obtain ⟨h2, c2, e2, e3⟩ := e1 ((h.put c (some ⟨2, [[I 0, I 0]], some 108⟩)).put c (some ⟨2, [[I k, I v]], some 108⟩)) (c + 1) (by simp [hn, hm]) (by omega)
    have e4 : h2 m = some ⟨3, [[.ro true [], .ro false [], I 0]], some 103⟩ := by rw [e3]; simp [hn, hm]
    have g1 : decide ((0 : Int) < ((n + 1 : Nat) : Int)) = true := by simp
    simp -implicitDefEqProofs [a0, a13, a14, a15, g1, e2, e4, to_normal, to_exit, to_ret, -decide_eq_true_eq, -decide_eq_false_iff_not, -List.any_eq_true, -List.any_eq_false, -bne_iff_ne, -beq_iff_eq, -beq_eq_false_iff_ne, -bne_eq_false_iff_eq]
  · rintro e ⟨t, h, c⟩ ⟨rfl, a6, a7, hm⟩
    simp only at a6 a7 hm
    simp -implicitDefEqProofs [a6, a7, -decide_eq_true_eq, -decide_eq_false_iff_not, -List.any_eq_true, -List.any_eq_false, -bne_iff_ne, -beq_iff_eq, -beq_eq_false_iff_ne, -bne_eq_false_iff_eq]
    exact ⟨_, _, rfl, hm⟩
  · exact ⟨by simp, by simp, ⟨r.length, by simp⟩, by simp, by simpa using hm, by simpa using hmc⟩
/-- A body that is right is found right. -/
theorem trun_ev (b1 b2 : Bool) (b : List (Int × Int)) (vs : List Int) (hB : Bal vs.length b) (hl : b.length ≤ 60) (hv : okV vs) (hvl : vs.length ≤ 1000000) :
    ∃ h c, run Tryz.prog mZ 27 [.ro true [], .ro b1 (opsE b), .ro b2 (nums vs), I 0] Heap.none 0 = some (.tup [I 0, I 0, B false, E 0], h, c) := by
  rw [run_eq (show mZ 27 = some .pure from rfl) rfl, Tryz.func27]
  have e1 := fun h c => check_c h c
  have e2 := fun h c => sound_c b1 vs.length b hB hl h c
  have e3 := fun h c => vals_c b2 vs hvl hv h c
  have e4 := fun h c => costs_c h c
  obtain ⟨q, r, rfl⟩ : ∃ q r, b = q :: r := by
    cases b with
    | nil => exact absurd (hB 0) (by simp [hgt])
    | cons q r => exact ⟨q, r, rfl⟩
  have hk : q.1 ≠ 10 := by
    have := hB 0
    simp only [hgt] at this
    split at this
    · rename_i g
      exact known_10 g.1
    · cases this
  have e5 : ∃ h' c', callA mZ (run Tryz.prog mZ) 63 [.ptr 0 0 0, .ro b1 (opsE (q :: r)), .ro b2 (nums vs)] (Heap.none.put 0 (some ⟨3, [[.ro true [], .ro false [], I 0]], some 103⟩)) 1 = some (.tup [I 0, B false], h', c') ∧ h' 0 = some ⟨3, [[.ro true [], .ro false [], I 0]], some 103⟩ := run0_ev (by simp) (by omega) hk
  obtain ⟨h', c', e5, e6⟩ := e5
  simp only [opsE, List.map_cons] at e2 e5
  have w0 : IntKind.i64.wrap 0 = 0 := by kernel_rfl
  simp -implicitDefEqProofs [Tryz.f27, e1, e2, e3, e4, e5, e6, w0, -decide_eq_true_eq, -decide_eq_false_iff_not, -List.any_eq_true, -List.any_eq_false, -bne_iff_ne, -beq_iff_eq, -beq_eq_false_iff_ne, -bne_eq_false_iff_eq]
end Go.Proofs.YtmpcjfkfgjpebaaGreatDoor.AM
namespace Go.Proofs.YtmpcjfkfgjpebaaGreatDoor.AM
open Go Go.Proofs
attribute [local simp] fieldAddrA ld setCells stA skipV appendA hd makeA bnd kindA freshA killOk loadsAt edgesOn Region.binds newT empT lay_get allocA buildA buildRow lenA els indexAddrA isNil opA evA lit_int lit_bool lit_nil lit_nilf yldA binI unA pickA boolV intV fieldA mk eqs nilC mayP
def TOut (o : Option (AV × Heap × Nat)) : Prop := ∃ (h : Heap) (c : Nat), o = some (B true, h, c)
theorem nodup_take {l : List Str} {n : Nat} {y : Str} (h : l.Nodup) (hy : l[n]? = some y) : hasP (l.take n) y = false := by
  cases g : hasP (l.take n) y with
  | false => rfl
  | true =>
    exfalso
    obtain ⟨i, hi⟩ := List.mem_iff_getElem?.1 (hasP_iff.1 g)
    have h1 : i < n := by
      have := (List.getElem?_eq_some_iff.1 hi).1
      simp at this
      omega
    rw [List.getElem?_take_of_lt h1] at hi
    have h2 := (List.getElem?_eq_some_iff.1 hi).1
    have := (List.getElem?_inj (i := i) (j := n) h2 h).1 (hi.trans hy.symm)
    omega
theorem names_ev (nb : Bool) (l : List Str) (hl : l.length ≤ 16) (hnm : ∀ n ∈ l, nameP n = true) (hnd : l.Nodup) (h0 : l[0]? = some wRes) : TOut (run Tryz.prog mZ 25 [.ro nb (strs l)] Heap.none 0) := by
  rw [run_eq (show mZ 25 = some .pure from rfl) rfl, Tryz.func25]
  simp -implicitDefEqProofs [Tryz.f25, Option.bind_assoc, -decide_eq_true_eq, -decide_eq_false_iff_not, -List.any_eq_true, -List.any_eq_false, -bne_iff_ne, -beq_iff_eq, -beq_eq_false_iff_ne, -bne_eq_false_iff_eq]
  refine loop_to (R := TOut)
    (fun k st => ∃ n : Nat, k = l.length - n ∧ st.t 0 = .ro nb (strs l) ∧ st.t 5 = .ro nb (strs l) ∧ st.t 6 = I l.length ∧ st.t 7 = I n ∧ n ≤ l.length)
    (fun e st => e = .exit 0 ∧ st.t 0 = .ro nb (strs l)) ?_ ?_ l.length _ ?_
  · rintro k ⟨t, h, c⟩ ⟨n, rfl, h0, h5, h6, h7, hn⟩
    simp only at h0 h5 h6 h7
    by_cases g : n < l.length
    · have k1 : decide (n < l.length) = true := by simp [g]
      obtain ⟨y, hy⟩ : ∃ y, l[n]? = some y := ⟨l[n], by simp [g]⟩
      have kn : IntKind.i64.wrap ((n : Int) + 1) = ((n + 1 : Nat) : Int) := wrap_succ (by omega)
      have hym := hnm y (List.mem_of_getElem? hy)
      have e2 := fun h c => name_c y (by have := name_len hym; omega) h c
      rw [hym] at e2
      have e3 := fun h c => has_c nb (l.take n) y (by simp; omega) h c
      rw [nodup_take hnd hy] at e3
      simp only [strs, List.map_take] at e3
      have hd1 : AM.hd (strs l) 1 = true := hd_strs l
      have k2 : n ≤ l.length := by omega
      have k3 : (n : Int) ≤ (l.length : Int) := by omega
      simp -implicitDefEqProofs [h0, h5, h6, h7, k1, hy, kn, e2, e3, -AM.hd, hd1, k2, k3, sliceA, to_normal, to_exit, to_ret, -decide_eq_true_eq, -decide_eq_false_iff_not, -List.any_eq_true, -List.any_eq_false, -bne_iff_ne, -beq_iff_eq, -beq_eq_false_iff_ne, -bne_eq_false_iff_eq]
      exact ⟨l.length - (n + 1), by omega, n + 1, rfl, rfl, by omega⟩
    · have k1 : decide (n < l.length) = false := by simp; omega
      simp -implicitDefEqProofs [h0, h5, h6, h7, k1, to_normal, to_exit, to_ret, -decide_eq_true_eq, -decide_eq_false_iff_not, -List.any_eq_true, -List.any_eq_false, -bne_iff_ne, -beq_iff_eq, -beq_eq_false_iff_ne, -bne_eq_false_iff_eq]
  · rintro e ⟨t, h, c⟩ ⟨rfl, a0⟩
    simp only at a0
    have hp := (List.getElem?_eq_some_iff.1 h0).1
    have g1 : decide (0 < l.length) = true := by simp [hp]
    have g2 : decide (0 < (l.length : Int)) = true := by simp; omega
    have g3 : (wRes == [114, 101, 115, 117, 108, 116]) = true := by decide
    have g4 : (wRes : Str) = [114, 101, 115, 117, 108, 116] := rfl
    simp -implicitDefEqProofs [a0, h0, g1, g2, g3, -decide_eq_true_eq, -decide_eq_false_iff_not, -List.any_eq_true, -List.any_eq_false, -bne_iff_ne, -beq_iff_eq, -beq_eq_false_iff_ne, -bne_eq_false_iff_eq]
    exact ⟨_, _, rfl⟩
  · exact ⟨0, by simp, by simp, by simp, by simp, by simp, Nat.zero_le _⟩
theorem names_c (nb : Bool) (l : List Str) (hl : l.length ≤ 16) (hnm : ∀ n ∈ l, nameP n = true) (hnd : l.Nodup) (h0 : l[0]? = some wRes) (h : Heap) (c : Nat) : callA mZ (run Tryz.prog mZ) 25 [.ro nb (strs l)] h c = some (B true, h, c) := by
  obtain ⟨h', c', e⟩ := names_ev nb l hl hnm hnd h0
  exact call_of rfl rfl e rfl rfl
theorem frz_progV (h : Heap) (nb cb : Bool) (names : List Str) (code : List Ln) : frz h depth (progV nb cb names code) = some (progV nb cb names code) := rfl
theorem formed_ev (nb cb : Bool) (names : List Str) (code : List Ln) (l : Ln) (b : Bool) (hv : l.pv = .ro b (bodR l.bodies)) (hL : LnP names.length code.length l) : TOut (run Tryz.prog mZ 26 [progV nb cb names code, .agg l.row] Heap.none 0) := by
  obtain ⟨k, nm, to, wd, pv, bodies⟩ := l
  simp only at hv
  subst hv
  obtain ⟨a1, a2, a3, a4, a5, a6, a7, a8, a9, a10, _⟩ := hL
  simp only at a1 a2 a3 a4 a5 a6 a7 a8 a9 a10
  rw [run_eq (show mZ 26 = some .pure from rfl) rfl, Tryz.func26]
  have hk : k = 0 ∨ k = 1 ∨ k = 2 ∨ k = 3 ∨ k = 4 ∨ k = 5 ∨ k = 6 := by omega
  have hlen : (bodR bodies).length = bodies.length := by simp
  simp only [Ln.row]
  have gnm : 0 ≤ nm → decide (nm < 0) = false := fun h => by simp; omega
  have gnm2 : nm < names.length → decide ((names.length : Int) ≤ nm) = false := fun h => by simp; omega
  have gto : 0 ≤ to → decide (to < 0) = false := fun h => by simp; omega
  have gto2 : to ≤ code.length → decide ((code.length : Int) < to) = false := fun h => by simp; omega
  have gwd : 0 ≤ wd → decide (wd < 0) = false := fun h => by simp; omega
  have gwd2 : wd ≤ 99 → decide (99 < wd) = false := fun h => by simp; omega
  have gb : bodies.length ≤ 6 → decide (bodies.length ≤ 6) = true := fun h => by simp; omega
  have gb2 : bodies.length ≤ 6 → decide ((bodies.length : Int) ≤ 6) = true := fun h => by simp; omega
  have z1 : decide ((code.length : Int) < 0) = false := by simp
  rcases hk with rfl | hk
  · obtain ⟨b1, b2⟩ := a3 (by decide)
    have b3 := a6 (by decide)
    subst b3
    have b5 := a8 (by decide)
    subst b5
    have b8 := a10 (by decide)
    simp -implicitDefEqProofs [TOut, Tryz.f26, gnm b1, gnm2 b2, z1, b8, -decide_eq_true_eq, -decide_eq_false_iff_not, -List.any_eq_true, -List.any_eq_false, -bne_iff_ne, -beq_iff_eq, -beq_eq_false_iff_ne, -bne_eq_false_iff_eq]
  rcases hk with rfl | hk
  · have b1 := a4 (by decide)
    subst b1
    obtain ⟨b3, b4⟩ := a5 (by decide)
    have b5 := a8 (by decide)
    subst b5
    have b8 := a9 (by decide)
    subst b8
    simp -implicitDefEqProofs [TOut, Tryz.f26, gto b3, gto2 b4, -decide_eq_true_eq, -decide_eq_false_iff_not, -List.any_eq_true, -List.any_eq_false, -bne_iff_ne, -beq_iff_eq, -beq_eq_false_iff_ne, -bne_eq_false_iff_eq]
  rcases hk with rfl | hk
  · have b1 := a4 (by decide)
    subst b1
    obtain ⟨b3, b4⟩ := a5 (by decide)
    have b5 := a8 (by decide)
    subst b5
    have b8 := a10 (by decide)
    simp -implicitDefEqProofs [TOut, Tryz.f26, gto b3, gto2 b4, b8, -decide_eq_true_eq, -decide_eq_false_iff_not, -List.any_eq_true, -List.any_eq_false, -bne_iff_ne, -beq_iff_eq, -beq_eq_false_iff_ne, -bne_eq_false_iff_eq]
  rcases hk with rfl | hk
  · have b1 := a4 (by decide)
    subst b1
    have b3 := a6 (by decide)
    subst b3
    obtain ⟨b5, b6, b7⟩ := a7 (by decide)
    simp -implicitDefEqProofs [TOut, Tryz.f26, z1, gwd b5, gwd2 b6, gb b7, gb2 b7, -decide_eq_true_eq, -decide_eq_false_iff_not, -List.any_eq_true, -List.any_eq_false, -bne_iff_ne, -beq_iff_eq, -beq_eq_false_iff_ne, -bne_eq_false_iff_eq]
  rcases hk with rfl | hk
  · obtain ⟨b1, b2⟩ := a3 (by decide)
    have b3 := a6 (by decide)
    subst b3
    obtain ⟨b5, b6, b7⟩ := a7 (by decide)
    simp -implicitDefEqProofs [TOut, Tryz.f26, gnm b1, gnm2 b2, z1, gwd b5, gwd2 b6, gb b7, gb2 b7, -decide_eq_true_eq, -decide_eq_false_iff_not, -List.any_eq_true, -List.any_eq_false, -bne_iff_ne, -beq_iff_eq, -beq_eq_false_iff_ne, -bne_eq_false_iff_eq]
  rcases hk with rfl | hk
  · have b1 := a4 (by decide)
    subst b1
    have b3 := a6 (by decide)
    subst b3
    have b5 := a8 (by decide)
    subst b5
    have b8 := a10 (by decide)
    simp -implicitDefEqProofs [TOut, Tryz.f26, z1, b8, -decide_eq_true_eq, -decide_eq_false_iff_not, -List.any_eq_true, -List.any_eq_false, -bne_iff_ne, -beq_iff_eq, -beq_eq_false_iff_ne, -bne_eq_false_iff_eq]
  subst hk
  have b1 := a4 (by decide)
  subst b1
  have b3 := a6 (by decide)
  subst b3
  have b5 := a8 (by decide)
  subst b5
  have b8 := a9 (by decide)
  subst b8
  simp -implicitDefEqProofs [TOut, Tryz.f26, z1, -decide_eq_true_eq, -decide_eq_false_iff_not, -List.any_eq_true, -List.any_eq_false, -bne_iff_ne, -beq_iff_eq, -beq_eq_false_iff_ne, -bne_eq_false_iff_eq]
theorem formed_c (nb cb : Bool) (names : List Str) (code : List Ln) (l : Ln) (b : Bool) (hv : l.pv = .ro b (bodR l.bodies)) (hL : LnP names.length code.length l) (h : Heap) (c : Nat) : callA mZ (run Tryz.prog mZ) 26 [progV nb cb names code, .agg l.row] h c = some (B true, h, c) := by
  obtain ⟨h', c', e⟩ := formed_ev nb cb names code l b hv hL
  refine call_of rfl ?_ e rfl rfl
  obtain ⟨k, nm, to, wd, pv, bodies⟩ := l
  simp only at hv
  subst hv
  rfl
end Go.Proofs.YtmpcjfkfgjpebaaGreatDoor.AM
namespace Go.Proofs.YtmpcjfkfgjpebaaGreatDoor.AM
open Go Go.Proofs
attribute [local simp] fieldAddrA ld setCells stA skipV appendA hd makeA bnd kindA freshA killOk loadsAt edgesOn Region.binds newT empT lay_get allocA buildA buildRow lenA els indexAddrA isNil opA evA lit_int lit_bool lit_nil lit_nilf yldA binI unA pickA boolV intV fieldA mk eqs nilC mayP
abbrev zeros (n : Nat) : List Int := List.replicate n 0
theorem make_c (q : Nat) (hq : q ≤ 1000000) (h : Heap) (c : Nat) : makeA Tryz.prog 30 h c (I (q : Nat)) (I (q : Nat)) = some (.sl c 1 0 q, h.put c (some ⟨1, nums (zeros q), some 3⟩), c + 1) := by
  have hc : (0 : Int) ≤ (q : Int) ∧ (q : Int) ≤ (q : Int) ∧ (q : Int) * ((8 : Nat) : Int) ≤ ((room : Nat) : Int) ∧ (q : Int) ≤ ((room : Nat) : Int) ∧ ([I 0] : List AV).length = 1 ∧ 0 < 1 := by
    have : (room : Nat) = 140737488355328 := rfl
    rw [this]
    refine ⟨by omega, by omega, by omega, by omega, rfl, by omega⟩
  have hrep : (List.replicate q [I 0] : List (List AV)) = nums (zeros q) := by
    show _ = (List.replicate q (0 : Int)).map fun n => [I n]
    rw [List.map_replicate]
  unfold makeA
  have t1 : slT Tryz.prog 30 = some 3 := by simp
  have t2 : szT Tryz.prog 3 = some 1 := by simp
  have t3 : byT Tryz.prog 3 = some 8 := by simp
  have t4 : zeT Tryz.prog 3 = some [I 0] := by kernel_rfl
  simp only [t1, t2, t3, t4, Option.bind_some]
  rw [if_pos hc]
  simp only [Int.toNat_natCast, hrep]
theorem okV_zeros (n : Nat) : okV (zeros n) := fun x hx => by
  obtain ⟨_, rfl⟩ := List.mem_replicate.1 hx
  rfl
theorem frz_sl {h : Heap} {n : Nat} (l : List Int) (hn : h n = some ⟨1, nums l, some 3⟩) : frz h depth (.sl n 1 0 l.length) = some (.ro false (nums l)) := by
  have hel : els h (.sl n 1 0 l.length) = some (nums l) := by
    simp only [els, hn, Option.bind_some]
    have : (nums l).length = l.length := by simp
    simp only [List.drop_zero, Nat.zero_add]
    rw [List.take_of_length_le (by simp)]
    simp
  show ((els h (.sl n 1 0 l.length)).bind fun es => (es.mapM fun (e : List AV) => e.mapM (frz h 11)).map (AV.ro false)) = some (AV.ro false (nums l))
  rw [hel, Option.bind_some, frzN]
  rfl
/-- A body, tried at no values. -/
theorem trun_c (b : Bool) (b1 : List (Int × Int)) (q : Nat) (hq : q ≤ 1000000) (hB : Bal q b1) (hl : b1.length ≤ 60) {h : Heap} {n : Nat} (hn : h n = some ⟨1, nums (zeros q), some 3⟩) (c : Nat) :
    callA mZ (run Tryz.prog mZ) 27 [.ro true [], .ro b (opsE b1), .sl n 1 0 q, I 0] h c = some (.tup [I 0, I 0, B false, E 0], h, c) := by
  have hz : (zeros q).length = q := by simp
  obtain ⟨h', c', e⟩ := trun_ev b false b1 (zeros q) (by rw [hz]; exact hB) hl (okV_zeros q) (by rw [hz]; exact hq)
  refine call_of rfl ?_ e rfl rfl
  have h1 := frz_sl (zeros q) hn
  rw [hz] at h1
  have h2 : frz h depth (.ro true []) = some (.ro true []) := rfl
  have h3 : frz h depth (.ro b (opsE b1)) = some (.ro b (opsE b1)) := rfl
  have h4 : frz h depth (I 0) = some (I 0) := rfl
  simp only [List.mapM_cons, List.mapM_nil, h1, h2, h3, h4]
  rfl
def EOut (o : Option (AV × Heap × Nat)) : Prop := ∃ (h : Heap) (c : Nat), o = some (E 0, h, c)
section
variable {nb cb : Bool} {names : List Str} {code : List Ln}
def V1 (nb cb : Bool) (names : List Str) (code : List Ln) (kk : Nat) (st : St) : Prop := ∃ i : Nat, kk = code.length - i ∧ i ≤ code.length ∧ st.t 1 = .ptr 0 0 0 ∧ st.t 29 = .ro cb (code.map Ln.row) ∧ st.t 30 = I code.length ∧ st.t 31 = I i ∧ st.h 0 = some ⟨2, [[.ro nb (strs names), .ro cb (code.map Ln.row)]], some 26⟩ ∧ 1 ≤ st.c
def V1E (nb cb : Bool) (names : List Str) (code : List Ln) (e : Ex) (st : St) : Prop := e = .exit 0 ∧ st.t 1 = .ptr 0 0 0 ∧ st.h 0 = some ⟨2, [[.ro nb (strs names), .ro cb (code.map Ln.row)]], some 26⟩ ∧ 1 ≤ st.c
def V2 (cb : Bool) (names : List Str) (code : List Ln) (kk : Nat) (st : St) : Prop := ∃ i n0 : Nat, kk = code.length - i ∧ i ≤ code.length ∧ st.t 5 = .sl n0 1 0 names.length ∧ st.t 45 = .ro cb (code.map Ln.row) ∧ st.t 46 = I code.length ∧ st.t 47 = I i ∧ st.h n0 = some ⟨1, nums (zeros names.length), some 3⟩ ∧ n0 < st.c
def V3 (cb : Bool) (names : List Str) (code : List Ln) (i : Nat) (l : Ln) (b : Bool) (kk : Nat) (st : St) : Prop := ∃ j n0 : Nat, kk = l.bodies.length - j ∧ j ≤ l.bodies.length ∧ st.t 5 = .sl n0 1 0 names.length ∧ st.t 45 = .ro cb (code.map Ln.row) ∧ st.t 46 = I code.length ∧ st.t 47 = I i ∧ st.h n0 = some ⟨1, nums (zeros names.length), some 3⟩ ∧ n0 < st.c ∧
  st.t 52 = .ro b (bodR l.bodies) ∧ st.t 53 = I l.bodies.length ∧ st.t 54 = I j
def V3E (cb : Bool) (names : List Str) (code : List Ln) (i : Nat) (e : Ex) (st : St) : Prop := e = .exit 4 ∧ ∃ n0 : Nat, st.t 5 = .sl n0 1 0 names.length ∧ st.t 45 = .ro cb (code.map Ln.row) ∧ st.t 46 = I code.length ∧ st.t 47 = I i ∧ st.h n0 = some ⟨1, nums (zeros names.length), some 3⟩ ∧ n0 < st.c
theorem row_ro {l : Ln} {b : Bool} (hv : l.pv = .ro b (bodR l.bodies)) : l.row = [I l.kind, I l.nm, I l.to, I l.wd, .ro b (bodR l.bodies)] := by
  unfold Ln.row
  rw [hv]
theorem validate_ev (F : FrzC code) (V : ValidP names code) : EOut (run Tryz.prog mZ 9 [progV nb cb names code] Heap.none 0) := by
  rw [run_eq (show mZ 9 = some .pure from rfl) rfl, Tryz.func9]
  have g1 : decide (200 < code.length) = false := by simp; exact V.c200
  have g1' : decide ((200 : Int) < (code.length : Int)) = false := by have := V.c200; simp; omega
  have g2 : decide (16 < names.length) = false := by simp; exact V.n16
  have g2' : decide ((16 : Int) < (names.length : Int)) = false := by have := V.n16; simp; omega
  have hn16 := V.n16
  have hc2 := V.c200
  have e1 := fun h c => names_c nb names V.n16 V.nms V.nd V.res h c
  simp -implicitDefEqProofs [Tryz.f9, g1, g1', g2, g2', e1, Option.bind_assoc, -decide_eq_true_eq, -decide_eq_false_iff_not, -List.any_eq_true, -List.any_eq_false, -bne_iff_ne, -beq_iff_eq, -beq_eq_false_iff_ne, -bne_eq_false_iff_eq]
  refine loop_to (R := EOut) (V1 nb cb names code) (V1E nb cb names code) ?_ ?_ code.length _ ?_
  · rintro kk ⟨t, h, c⟩ ⟨i, rfl, hi, a1, a29, a30, a31, b0, hc⟩
    simp only at a1 a29 a30 a31 b0 hc
    by_cases g : i < code.length
    · have g1 : decide (i < code.length) = true := by simp [g]
      have w2 : IntKind.i64.wrap ((i : Int) + 1) = ((i + 1 : Nat) : Int) := wrap_succ (by omega)
      obtain ⟨l, hy⟩ : ∃ l, code[i]? = some l := ⟨code[i], by simp [g]⟩
      have hm := List.mem_of_getElem? hy
      obtain ⟨b, hv⟩ := F l hm
      have e2 := fun h c => formed_c nb cb names code l b hv (V.lns l hm) h c
      have hr := row_ro hv
      rw [hr] at e2
      have hc0 : (0 : Nat) ≠ c := by omega
      have hc0' : (c : Nat) ≠ 0 := by omega
      simp -implicitDefEqProofs [a1, a29, a30, a31, b0, g1, hy, hr, e2, hc0, hc0', w2, to_normal, to_exit, to_ret, -decide_eq_true_eq, -decide_eq_false_iff_not, -List.any_eq_true, -List.any_eq_false, -bne_iff_ne, -beq_iff_eq, -beq_eq_false_iff_ne, -bne_eq_false_iff_eq]
      exact ⟨code.length - (i + 1), by omega, i + 1, rfl, by omega, by simp [a1], by simp [a29], by simp [a30], by simp, by simp [hc0, b0], by simp only; omega⟩
    · have g1 : decide (i < code.length) = false := by simp; omega
      simp -implicitDefEqProofs [a1, a29, a30, a31, b0, g1, to_normal, to_exit, to_ret, -decide_eq_true_eq, -decide_eq_false_iff_not, -List.any_eq_true, -List.any_eq_false, -bne_iff_ne, -beq_iff_eq, -beq_eq_false_iff_ne, -bne_eq_false_iff_eq]
      exact ⟨rfl, by simp [a1], b0, hc⟩
  · rintro e ⟨t, h, c⟩ ⟨rfl, a1, b0, hc⟩
    simp only at a1 b0 hc
    have hmk := fun h c => make_c names.length (by omega) h c
    have hc0 : (0 : Nat) ≠ c := by omega
    simp -implicitDefEqProofs [a1, b0, -makeA, hmk, hc0, Option.bind_assoc, -decide_eq_true_eq, -decide_eq_false_iff_not, -List.any_eq_true, -List.any_eq_false, -bne_iff_ne, -beq_iff_eq, -beq_eq_false_iff_ne, -bne_eq_false_iff_eq]
    refine loop_to (R := EOut) (V2 cb names code) (fun e st => e = .exit 2) ?_ ?_ code.length _ ?_
    · rintro kk ⟨t, h, c⟩ ⟨i, n0, rfl, hi, a5, a45, a46, a47, bn, hc⟩
      simp only at a5 a45 a46 a47 bn hc
      by_cases g : i < code.length
      · have g1 : decide (i < code.length) = true := by simp [g]
        have w2 : IntKind.i64.wrap ((i : Int) + 1) = ((i + 1 : Nat) : Int) := wrap_succ (by omega)
        obtain ⟨l, hy⟩ : ∃ l, code[i]? = some l := ⟨code[i], by simp [g]⟩
        have hm := List.mem_of_getElem? hy
        obtain ⟨b, hv⟩ := F l hm
        have hr := row_ro hv
        have hL := V.lns l hm
        have hBo := hL.2.2.2.2.2.2.2.2.2.2
        have hb6 : l.bodies.length ≤ 6 := by
          obtain ⟨x1, x2, x3, x4, x5, x6, x7, x8, x9, x10, x11⟩ := hL
          have : l.kind = 0 ∨ l.kind = 1 ∨ l.kind = 2 ∨ l.kind = 3 ∨ l.kind = 4 ∨ l.kind = 5 ∨ l.kind = 6 := by omega
          rcases this with e | e | e | e | e | e | e
          · have := x10 (by omega); omega
          · have := x9 (by omega); simp [this]
          · have := x10 (by omega); omega
          · exact (x7 (by omega)).2.2
          · exact (x7 (by omega)).2.2
          · have := x10 (by omega); omega
          · have := x9 (by omega); simp [this]
        have hc0 : n0 ≠ c := by omega
        have hc0' : c ≠ n0 := by omega
        simp -implicitDefEqProofs [a5, a45, a46, a47, bn, g1, hy, hr, hc0, hc0', w2, Option.bind_assoc, -decide_eq_true_eq, -decide_eq_false_iff_not, -List.any_eq_true, -List.any_eq_false, -bne_iff_ne, -beq_iff_eq, -beq_eq_false_iff_ne, -bne_eq_false_iff_eq]
        refine loop_to (R := RoundTo (V2 cb names code) (fun e st => e = .exit 2) (code.length - i)) (V3 cb names code i l b) (V3E cb names code i) ?_ ?_ l.bodies.length _ ?_
        · rintro kk ⟨t, h, c⟩ ⟨j, n0, rfl, hj, a5, a45, a46, a47, bn, hc, a52, a53, a54⟩
          simp only at a5 a45 a46 a47 bn hc a52 a53 a54
          by_cases g : j < l.bodies.length
          · have g1 : decide (j < l.bodies.length) = true := by simp [g]
            have w2 : IntKind.i64.wrap ((j : Int) + 1) = ((j + 1 : Nat) : Int) := wrap_succ (by omega)
            obtain ⟨b1, hb1⟩ : ∃ b1, l.bodies[j]? = some b1 := ⟨l.bodies[j], by simp [g]⟩
            obtain ⟨B1, B2⟩ := hBo b1 (List.mem_of_getElem? hb1)
            have hmin : min names.length 16 = names.length := by omega
            rw [hmin] at B1
            have e3 := fun c => trun_c false b1 names.length (by omega) B1 B2 bn c
            simp only [opsE] at e3
            simp -implicitDefEqProofs [a5, a45, a46, a47, a52, a53, a54, g1, hb1, e3, w2, to_normal, to_exit, to_ret, -decide_eq_true_eq, -decide_eq_false_iff_not, -List.any_eq_true, -List.any_eq_false, -bne_iff_ne, -beq_iff_eq, -beq_eq_false_iff_ne, -bne_eq_false_iff_eq]
            exact ⟨l.bodies.length - (j + 1), by omega, j + 1, n0, rfl, by omega, by simp [a5], by simp [a45], by simp [a46], by simp [a47], bn, hc, by simp [a52], by simp [a53], by simp⟩
          · have g1 : decide (j < l.bodies.length) = false := by simp; omega
            simp -implicitDefEqProofs [a52, a53, a54, g1, to_normal, to_exit, to_ret, -decide_eq_true_eq, -decide_eq_false_iff_not, -List.any_eq_true, -List.any_eq_false, -bne_iff_ne, -beq_iff_eq, -beq_eq_false_iff_ne, -bne_eq_false_iff_eq]
            exact ⟨rfl, n0, by simp [a5], by simp [a45], by simp [a46], by simp [a47], bn, hc⟩
        · rintro e ⟨t, h, c⟩ ⟨rfl, n0, a5, a45, a46, a47, bn, hc⟩
          simp only at a5 a45 a46 a47 bn hc
          simp -implicitDefEqProofs [a5, a45, a46, a47, w2, to_normal, to_exit, to_ret, -decide_eq_true_eq, -decide_eq_false_iff_not, -List.any_eq_true, -List.any_eq_false, -bne_iff_ne, -beq_iff_eq, -beq_eq_false_iff_ne, -bne_eq_false_iff_eq]
          exact ⟨code.length - (i + 1), by omega, i + 1, n0, rfl, by omega, by simp [a5], by simp [a45], by simp [a46], by simp, bn, hc⟩
        · exact ⟨0, n0, by simp, by simp, by simp [a5], by simp [a45], by simp [a46], by simp [a47], by simp [hc0, bn], by simp only; omega, by simp, by simp, by simp⟩
      · have g1 : decide (i < code.length) = false := by simp; omega
        simp -implicitDefEqProofs [a5, a45, a46, a47, g1, to_normal, to_exit, to_ret, -decide_eq_true_eq, -decide_eq_false_iff_not, -List.any_eq_true, -List.any_eq_false, -bne_iff_ne, -beq_iff_eq, -beq_eq_false_iff_ne, -bne_eq_false_iff_eq]
    · rintro e ⟨t, h, c⟩ rfl
      simp -implicitDefEqProofs [-decide_eq_true_eq, -decide_eq_false_iff_not, -List.any_eq_true, -List.any_eq_false, -bne_iff_ne, -beq_iff_eq, -beq_eq_false_iff_ne, -bne_eq_false_iff_eq]
      exact ⟨_, _, rfl⟩
    · exact ⟨0, c, by simp, by simp, by simp, by simp, by simp, by simp, by simp, by simp⟩
  · exact ⟨0, by simp, by simp, by simp, by simp, by simp, by simp, by simp, by simp⟩
theorem validate_c (F : FrzC code) (V : ValidP names code) (h : Heap) (c : Nat) : callA mZ (run Tryz.prog mZ) 9 [progV nb cb names code] h c = some (E 0, h, c) := by
  obtain ⟨h', c', e⟩ := validate_ev (nb := nb) (cb := cb) F V
  exact call_of rfl rfl e rfl rfl
/-- A run's value. -/
abbrev runV (at_ : Int) (vb : Bool) (vs : List Int) (x y : Int) (z : Bool) : AV := .agg [I at_, .ro vb (nums vs), I x, I y, B z]
theorem start_ev (F : FrzC code) (V : ValidP names code) : ∃ (h : Heap) (c : Nat), run Tryz.prog mZ 8 [progV nb cb names code] Heap.none 0 = some (.tup [.agg [I 0, .sl 2 1 0 names.length, I 0, I 0, B false], E 0], h, c) ∧ h 2 = some ⟨1, nums (zeros names.length), some 3⟩ := by
  rw [run_eq (show mZ 8 = some .pure from rfl) rfl, Tryz.func8]
  have e1 := fun h c => validate_c (nb := nb) (cb := cb) F V h c
  have hn16 := V.n16
  have hmk := fun h c => make_c names.length (by omega) h c
  simp -implicitDefEqProofs [Tryz.f8, e1, -makeA, hmk, -decide_eq_true_eq, -decide_eq_false_iff_not, -List.any_eq_true, -List.any_eq_false, -bne_iff_ne, -beq_iff_eq, -beq_eq_false_iff_ne, -bne_eq_false_iff_eq]
theorem start_c (F : FrzC code) (V : ValidP names code) (h : Heap) (c : Nat) : callA mZ (run Tryz.prog mZ) 8 [progV nb cb names code] h c = some (.tup [runV 0 false (zeros names.length) 0 0 false, E 0], h, c) := by
  obtain ⟨h', c', e, hn⟩ := start_ev (nb := nb) (cb := cb) F V
  refine call_fz rfl rfl rfl e ?_
  have h1 : frz h' 10 (.sl 2 1 0 (zeros names.length).length) = some (.ro false (nums (zeros names.length))) := by
    have hel : els h' (.sl 2 1 0 (zeros names.length).length) = some (nums (zeros names.length)) := by
      simp only [els, hn, Option.bind_some, List.drop_zero, Nat.zero_add]
      rw [List.take_of_length_le (by simp)]
      simp
    show ((els h' (.sl 2 1 0 (zeros names.length).length)).bind fun es => (es.mapM fun (e : List AV) => e.mapM (frz h' 9)).map (AV.ro false)) = some (AV.ro false (nums (zeros names.length)))
    rw [hel, Option.bind_some, frzN]
    rfl
  rw [show (zeros names.length).length = names.length by simp] at h1
  show (([.agg [I 0, .sl 2 1 0 names.length, I 0, I 0, B false], E 0] : List AV).mapM (frz h' 11)).map AV.tup = _
  have h2 : frz h' 11 (.agg [I 0, .sl 2 1 0 names.length, I 0, I 0, B false]) = some (runV 0 false (zeros names.length) 0 0 false) := by
    rw [frz_agg]
    simp only [List.mapM_cons, List.mapM_nil, h1]
    rfl
  simp only [List.mapM_cons, List.mapM_nil, h2]
  rfl
end
end Go.Proofs.YtmpcjfkfgjpebaaGreatDoor.AM
