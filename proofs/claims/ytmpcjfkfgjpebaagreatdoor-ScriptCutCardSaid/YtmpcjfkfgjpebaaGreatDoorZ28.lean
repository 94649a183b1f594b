/- Texts of the proof: part Z28. -/
import Derived.Test.YtmpcjfkfgjpebaaGreatDoorZ27
set_option maxHeartbeats 0
set_option maxRecDepth 8000
set_option linter.unusedSimpArgs false
set_option linter.unusedVariables false
set_option linter.unusedSectionVars false
namespace Go.Proofs.YtmpcjfkfgjpebaaGreatDoor.AM
open Go Go.Proofs
attribute [local simp] fieldAddrA ld setCells stA skipV appendA hd makeA bnd kindA freshA killOk loadsAt edgesOn Region.binds newT empT lay_get allocA buildA buildRow lenA els indexAddrA isNil opA evA lit_int lit_bool lit_nil lit_nilf yldA binI unA pickA boolV intV fieldA mk eqs nilC mayP
abbrev wRes : Str := [114, 101, 115, 117, 108, 116]
theorem name_res : nameP wRes = true := by kernel_rfl
theorem names_set (x : Str) (m : Nat) : ∀ (names : List Str) (i : Nat), x ∉ names → mpSet ⟨x.toArray⟩ (I (m : Nat)) ((names.zipIdx i).map fun p => [S p.1, I (p.2 : Nat)]) = some (((names.zipIdx i).map fun p => [S p.1, I (p.2 : Nat)]) ++ [[S x, I (m : Nat)]])
  | [], i, _ => rfl
  | y :: names, i, h => by
    simp only [List.zipIdx_cons, List.map_cons]
    have hS : S y = .val (.string ⟨y.toArray⟩) := rfl
    rw [hS]
    simp only [mpSet, bytes_of_beq]
    cases g : (y == x)
    · simp only [Bool.false_eq_true, if_false]
      rw [names_set x m names (i + 1) (fun h' => h (by simp [h']))]
      rfl
    · exfalso
      have : y = x := by simpa using g
      exact h (by simp [this])
theorem rowsN_app (names : List Str) (x : Str) : rowsN (names ++ [x]) = rowsN names ++ [[S x, I (names.length : Nat)]] := by
  unfold rowsN
  rw [List.zipIdx_append]
  simp
/-- A name more. -/
theorem Cm.addName {nc ml : Nat} {h h2 : Heap} {c c2 : Nat} {names : List Str} {code : List Ln} {stk : List Bk} {nv cv bv nv2 : AV} (C : Cm nc ml h c names code stk nv cv bv) (x : Str)
    (O : OutG 1 9 h2 c2 nv2 (strs (names ++ [x]))) (G : Grown (h.put ml (some (mpBlk (rowsN (names ++ [x]))))) c nv h2 c2 nv2) :
    Cm nc ml (h2.put nc (some ⟨4, [[nv2, .mp ml, cv, bv]], some 58⟩)) c2 (names ++ [x]) code stk nv2 cv bv := by
  have hmn : ml ≠ nc := ne_ty C.mp C.blk (by simp [mpBlk])
  have hk : ∀ {m : Nat} {b : Blk}, m < c → h m = some b → b.ty ≠ some 9 → b.ty ≠ some 58 → b.ty ≠ none → (h2.put nc (some ⟨4, [[nv2, .mp ml, cv, bv]], some 58⟩)) m = h m := by
    intro m b hm hb h1 h3 h4
    have a1 : m ≠ nc := ne_ty hb C.blk h3
    have a2 : m ≠ ml := ne_ty hb C.mp h4
    rw [put_get, if_neg a1, G.get m hm (fun e => by
      obtain ⟨_, b', hb', ht⟩ := C.on.ty e
      rw [hb] at hb'
      cases hb'
      exact h1 ht), put_get, if_neg a2]
  have hnb := C.nbc
  have hle := G.le
  refine ⟨by omega, by have := C.mlc; omega, ?_, by simp, ?_, ?_, ?_, fun l hl => ?_, fun b hb => ?_, C.nd⟩
  · rw [put_get, if_neg hmn, G.get ml C.mlc (fun e => by
      obtain ⟨_, b', hb', ht⟩ := C.on.ty e
      rw [C.mp] at hb'
      cases hb'
      cases ht)]
    simp
  · refine O.frame (Nat.le_refl _) fun m hm _ => ?_
    have : m ≠ nc := by
      rcases G.new m hm with h3 | h3
      · obtain ⟨_, b, hb, ht⟩ := C.on.ty h3
        exact ne_ty hb C.blk (by rw [ht]; simp)
      · omega
    rw [put_get, if_neg this]
  · refine C.oc.frame hle fun m hm hmc => ?_
    obtain ⟨_, b, hb, ht⟩ := C.oc.ty hm
    exact hk hmc hb (by rw [ht]; decide) (by rw [ht]; decide) (by rw [ht]; simp)
  · refine C.ob.frame hle fun m hm hmc => ?_
    obtain ⟨_, b, hb, ht⟩ := C.ob.ty hm
    exact hk hmc hb (by rw [ht]; decide) (by rw [ht]; decide) (by rw [ht]; simp)
  · refine (C.parts l hl).frame hle fun m hm hmc => ?_
    obtain ⟨_, b, hb, ht⟩ := (C.parts l hl).ty hm
    exact hk hmc hb (by rw [ht]; decide) (by rw [ht]; decide) (by rw [ht]; simp)
  · obtain ⟨b1, b2⟩ := C.blks b hb
    exact ⟨by omega, by rw [hk b1 b2 (by simp [Bk.blk]) (by simp [Bk.blk]) (by simp [Bk.blk]), b2]⟩
noncomputable def cmpA : Code := ((Tryz.f7.body.bind rngOf).map (·.2.1)).getD .skip
noncomputable def cmpB : Code := ((Tryz.f7.body.bind rngOf).map (·.2.2)).getD .skip
noncomputable abbrev LPc (t : Nat → AV) : LP := ⟨0, .normal, rngNt [26] cmpA cmpB, t, [26], cmpA, cmpB⟩
theorem LPc_ok (t : Nat → AV) : rndOk mZ (LPc t) = true := by kernel_rfl
/-- What Compile's own cells hold while it goes through the heads. -/
structure HI (b : Bool) (ls : List Str) (p : LP) (h : Heap) (c : Nat) (names : List Str) : Prop where
  cm : ∃ nv, Cm 3 2 h c names [] [] nv (.ro true []) (.ro true [])
  h0 : h 0 = some ⟨2, [[.ro true [], .ro true []]], some 26⟩
  h4 : h 4 = some ⟨1, [[.ptr 3 0 0]], some 54⟩
  h5 : h 5 = some ⟨1, [[.ro b (strs ls)]], some 23⟩
  h6 : h 6 = some p.blk
  hc : 7 ≤ c
  pos : 0 < names.length
theorem HI.recd {b : Bool} {ls : List Str} {p : LP} {h : Heap} {c : Nat} {names : List Str} (W : HI b ls p h c names) (p' : LP) : HI b ls p' (h.put 6 (some p'.blk)) c names := by
  obtain ⟨nv, C⟩ := W.cm
  have hk : ∀ {m : Nat} {x : Blk}, h m = some x → x.sz ≠ 0 ∨ m = 2 → (h.put 6 (some p'.blk)) m = h m := by
    intro m x hx hz
    have : m ≠ 6 := by
      intro e
      subst e
      rw [W.h6] at hx
      cases hx
      rcases hz with hz | hz
      · exact hz rfl
      · cases hz
    rw [put_get, if_neg this]
  refine ⟨⟨nv, C.nbc, C.mlc, by simpa using C.mp, by simpa using C.blk, ?_, C.oc.frame (Nat.le_refl _) fun m hm => (by cases hm), C.ob.frame (Nat.le_refl _) fun m hm => (by cases hm), fun l hl => (by cases hl), fun x hx => (by cases hx), C.nd⟩, by simpa using W.h0, by simpa using W.h4, by simpa using W.h5, by simp, W.hc, W.pos⟩
  rcases C.on with h1 | ⟨n, h1, h2, h3, h4⟩
  · exact .inl h1
  · exact .inr ⟨n, h1, h2, h3, by rw [hk h4 (.inl (by simp)), h4]⟩
theorem cmpA_ev (t : Nat → AV) (h : Heap) (c : Nat) (x : Str) : exL Tryz.prog mZ cmpA ⟨setP t [26] [S x], h, c⟩ = some (.normal, ⟨upd (upd t (some 26) (S x)) (some 7) (S x), h, c⟩) := by
  simp -implicitDefEqProofs [cmpA, Tryz.f7, rngOf, setP]
/-- A name told. -/
def insN (names : List Str) (x : Str) : List Str := if hasP names x then names else names ++ [x]
theorem cmpB_ev {b : Bool} {ls : List Str} {p : LP} {t : Nat → AV} {h : Heap} {c : Nat} {names : List Str} {x : Str} (W : HI b ls p h c names) (h6 : t 6 = .ptr 4 0 0) (h7 : t 7 = S x) (hl : names.length ≤ 1000000) :
    ∃ t' h' c', exL Tryz.prog mZ cmpB ⟨t, h, c⟩ = some (.normal, ⟨t', h', c'⟩) ∧ HI b ls p h' c' (insN names x) := by
  obtain ⟨nv, C⟩ := W.cm
  have g4 := W.h4
  have gb := C.blk
  have gm := C.mp
  have hc := W.hc
  have hS : S x = .val (.string ⟨x.toArray⟩) := rfl
  obtain ⟨r, e1, hr⟩ := names_get x names 0
  have e1' : mpGet ⟨x.toArray⟩ (rowsN names) = some r := e1
  rcases hr with ⟨rfl, hno⟩ | ⟨k, rfl, hk⟩
  rotate_left
  · have hin : insN names x = names := by unfold insN; rw [if_pos (hasP_iff.2 (List.mem_of_getElem? hk))]
    rw [hin]
    rw [hS] at h7
    have key : ∃ t', exL Tryz.prog mZ cmpB ⟨t, h, c⟩ = some (.normal, ⟨t', h, c⟩) := by
      simp -implicitDefEqProofs [cmpB, Tryz.f7, rngOf, h6, h7, g4, gb, gm, e1', mpOf_blk, -decide_eq_true_eq, -decide_eq_false_iff_not, -List.any_eq_true, -List.any_eq_false, -bne_iff_ne, -beq_iff_eq, -beq_eq_false_iff_ne, -bne_eq_false_iff_eq]
    obtain ⟨t', key⟩ := key
    exact ⟨t', h, c, key, W⟩
  · have hin : insN names x = names ++ [x] := by
      unfold insN
      rw [if_neg]
      intro h'
      exact hno (hasP_iff.1 h')
    rw [hin]
    obtain ⟨q, hq⟩ : ∃ q, q = rowsN (names ++ [x]) := ⟨_, rfl⟩
    have e2 : mpSet ⟨x.toArray⟩ (I (names.length : Nat)) (rowsN names) = some q := by
      rw [hq, rowsN_app]
      exact names_set x names.length names 0 hno
    have O1 : OutG 1 9 (h.put 2 (some (mpBlk q))) c nv (strs names) := C.on.frame (Nat.le_refl _) fun m hm _ => by
      have : m ≠ 2 := by
        obtain ⟨_, y, hy, ht⟩ := C.on.ty hm
        exact ne_ty hy gm (by rw [ht]; simp [mpBlk])
      rw [put_get, if_neg this]
    obtain ⟨nv2, h2, c2, e3, O2, G⟩ := outG_one (t := 23) (sz := 1) (by_ := 16) (z := [.val (.string ⟨#[]⟩)]) O1 [S x] (some 9) rfl (by simp) (by simp) (by simp) (by simp) rfl (by simp; omega) (by simp; omega)
    obtain ⟨q1, q2, q3⟩ := O2.nopan
    have hnb := C.nbc
    have hn3 : ∀ m, nm nv = some m → m ≠ 3 ∧ m ≠ 4 ∧ m ≠ 0 ∧ m ≠ 5 ∧ m ≠ 6 := fun m hm => by
      obtain ⟨_, y, hy, ht⟩ := C.on.ty hm
      refine ⟨ne_ty hy gb (by rw [ht]; simp), ne_ty hy g4 (by rw [ht]; simp), ne_ty hy W.h0 (by rw [ht]; simp), ne_ty hy W.h5 (by rw [ht]; simp), ne_ty hy W.h6 (by rw [ht]; simp [LP.blk])⟩
    have hne : ∀ k, k = 3 ∨ k = 4 ∨ k = 0 ∨ k = 5 ∨ k = 6 → nm nv ≠ some k := fun k hk e => by
      have := hn3 k e
      omega
    have gb2 : h2 3 = some ⟨4, [[nv, .mp 2, .ro true [], .ro true []]], some 58⟩ := by rw [G.get 3 (by omega) (hne 3 (by omega))]; simpa using gb
    have g42 : h2 4 = some ⟨1, [[.ptr 3 0 0]], some 54⟩ := by rw [G.get 4 (by omega) (hne 4 (by omega))]; simpa using g4
    have hle := G.le
    have hc3 : (3 : Nat) ≠ c := by omega
    have hc4 : (4 : Nat) ≠ c := by omega
    have O2' : OutG 1 9 h2 c2 nv2 (strs (names ++ [x])) := by simpa using O2
    have G' : Grown (h.put 2 (some (mpBlk (rowsN (names ++ [x]))))) c nv h2 c2 nv2 := by rw [← hq]; exact G
    have C2 := C.addName x O2' G'
    have key : ∃ t', exL Tryz.prog mZ cmpB ⟨t, h, c⟩ = some (.normal, ⟨t', h2.put 3 (some ⟨4, [[nv2, .mp 2, .ro true [], .ro true []]], some 58⟩), c2⟩) := by
      rw [hS] at h7 e3
      rcases C.on with ⟨rfl, hemp⟩ | ⟨n, rfl, _⟩
      · exfalso
        have : names = [] := by simpa using hemp
        have hp := W.pos
        rw [this] at hp
        simp at hp
      · simp only [List.length_map] at e3
        have hk4 : ((4 : Nat) != n) = true := by
          have := (hn3 n rfl).2.1
          simp
          omega
        simp -implicitDefEqProofs [cmpB, Tryz.f7, rngOf, h6, h7, g4, gb, gm, e1', e2, mpOf_blk, hc3, hc4, hk4, lay_put, -appendA, e3, q1, q2, q3, gb2, g42, -decide_eq_true_eq, -decide_eq_false_iff_not, -List.any_eq_true, -List.any_eq_false, -bne_iff_ne, -beq_iff_eq, -beq_eq_false_iff_ne, -bne_eq_false_iff_eq]
    obtain ⟨t', key⟩ := key
    refine ⟨t', _, c2, key, ⟨nv2, C2⟩, ?_, ?_, ?_, ?_, by omega, by simp⟩
    · rw [put_get, if_neg (by decide), G.get 0 (by omega) (hne 0 (by omega))]; simpa using W.h0
    · rw [put_get, if_neg (by decide)]; exact g42
    · rw [put_get, if_neg (by decide), G.get 5 (by omega) (hne 5 (by omega))]; simpa using W.h5
    · rw [put_get, if_neg (by decide), G.get 6 (by omega) (hne 6 (by omega))]; simpa using W.h6
/-- A round. -/
theorem round_c {b : Bool} {ls : List Str} {t : Nat → AV} {h : Heap} {c : Nat} {names : List Str} (x : Str) (W : HI b ls (LPc t) h c names) (h6 : t 6 = .ptr 4 0 0) (hl : names.length ≤ 1000000) :
    ∃ h' c', run Tryz.prog mZ rndF [.yld 6, S x] h c = some (B true, h', c') ∧ HI b ls (LPc t) h' c' (insN names x) := by
  rw [run_rnd md_rnd]
  unfold rndA
  simp only [W.h6, lpOf_blk, Option.bind_some]
  rw [if_pos ⟨rfl, LPc_ok t⟩, cmpA_ev, Option.bind_some]
  unfold begR
  simp only [W.h6, lpOf_blk, Option.bind_some, if_true]
  obtain ⟨t', h', c', e, W'⟩ := cmpB_ev (t := upd (upd t (some 26) (S x)) (some 7) (S x)) (x := x) (W.recd { LPc t with st := 1 }) (by simpa using h6) (by simp) hl
  rw [e, Option.bind_some]
  unfold endR
  simp only [W'.h6, lpOf_blk, Option.map_some]
  exact ⟨_, _, rfl, W'.recd (LPc t)⟩
/-- The names that lines tell. -/
def told (names : List Str) : List Str → List Str
  | [] => names
  | s :: ls => told (if telB s then insN names (telN s) else names) ls
theorem told_app (names : List Str) (l1 : List Str) (s : Str) : told names (l1 ++ [s]) = (if telB s then insN (told names l1) (telN s) else told names l1) := by
  induction l1 generalizing names with
  | nil => rfl
  | cons a l1 ih => exact ih _
theorem insN_len (names : List Str) (x : Str) : names.length ≤ (insN names x).length ∧ (insN names x).length ≤ names.length + 1 := by
  unfold insN
  split <;> simp
theorem told_len (names : List Str) (ls : List Str) : (told names ls).length ≤ names.length + ls.length := by
  induction ls generalizing names with
  | nil => simp [told]
  | cons s ls ih =>
    have := ih (if telB s then insN names (telN s) else names)
    have h2 := insN_len names (telN s)
    simp only [told, List.length_cons]
    split at this <;> rename_i g <;> simp only [g, if_true, Bool.false_eq_true, if_false] at this ⊢ <;> omega
def CInv (b : Bool) (ls : List Str) (t0 : Nat → AV) (names0 : List Str) (kk : Nat) (st : St) : Prop := ∃ (i : Nat), kk = ls.length - i ∧ st.t 0 = .yld 6 ∧ st.t 7 = .ro b (strs ls) ∧ st.t 8 = I ls.length ∧ st.t 9 = I i ∧ i ≤ ls.length ∧ HI b ls (LPc t0) st.h st.c (told names0 (ls.take i))
def COut (b : Bool) (ls : List Str) (t0 : Nat → AV) (names0 : List Str) (o : Option (AV × Heap × Nat)) : Prop := ∃ h' c', o = some (.tup [], h', c') ∧ HI b ls (LPc t0) h' c' (told names0 ls)
theorem iter_c {b : Bool} {ls : List Str} {t : Nat → AV} {h : Heap} {c : Nat} {names : List Str} (W : HI b ls (LPc t) h c names) (h6 : t 6 = .ptr 4 0 0) (hn : names.length ≤ 100000) (hls : ls.length ≤ 200000) (hx : ∀ x ∈ ls, x.length ≤ 100000) :
    COut b ls t names (run Tryz.prog mZ 47 [.yld 6, .ptr 5 0 0] h c) := by
  rw [run_eq (show mZ 47 = some .heap from rfl) rfl, Tryz.func47]
  have g5 := W.h5
  simp -implicitDefEqProofs [Tryz.f47, g5, Option.bind_assoc, -decide_eq_true_eq, -decide_eq_false_iff_not, -List.any_eq_true, -List.any_eq_false, -bne_iff_ne, -beq_iff_eq, -beq_eq_false_iff_ne, -bne_eq_false_iff_eq]
  refine loop_to (R := COut b ls t names) (CInv b ls t names) (fun e st => e = .exit 0 ∧ HI b ls (LPc t) st.h st.c (told names ls)) ?_ ?_ ls.length _ ?_
  · rintro kk ⟨t1, h1, c1⟩ ⟨i, rfl, a0, a7, a8, a9, hi, W1⟩
    simp only at a0 a7 a8 a9 W1
    by_cases g : i < ls.length
    · have g1 : decide (i < ls.length) = true := by simp [g]
      have w2 : IntKind.i64.wrap ((i : Int) + 1) = ((i + 1 : Nat) : Int) := wrap_succ (by omega)
      obtain ⟨y, hy⟩ : ∃ y, ls[i]? = some y := ⟨ls[i], by simp [g]⟩
      have hyr : (strs ls)[i]? = some [S y] := by simp [hy]
      have e1 := fun h c => tells_c y (hx y (List.mem_of_getElem? hy)) h c
      have htk : ls.take (i + 1) = ls.take i ++ [y] := by rw [List.take_add_one, hy]; rfl
      have hto := told_app names (ls.take i) y
      rw [← htk] at hto
      have htl := told_len names (ls.take i)
      have htl2 : (ls.take i).length ≤ ls.length := by simp; omega
      have hrows : ∃ rows, rows = strs ls := ⟨_, rfl⟩
      cases gt : telB y
      · rw [gt] at e1 hto
        simp -implicitDefEqProofs [a0, a7, a8, a9, g1, hy, e1, w2, to_normal, to_exit, to_ret, -decide_eq_true_eq, -decide_eq_false_iff_not, -List.any_eq_true, -List.any_eq_false, -bne_iff_ne, -beq_iff_eq, -beq_eq_false_iff_ne, -bne_eq_false_iff_eq]
        exact ⟨ls.length - (i + 1), by omega, i + 1, rfl, by simp [a0], by simp [a7], by simp [a8], by simp, by omega, by simp only; rw [hto]; exact W1⟩
      · rw [gt] at e1 hto
        obtain ⟨h2, c2, e2, W2⟩ := round_c (telN y) W1 h6 (by omega)
        simp -implicitDefEqProofs [a0, a7, a8, a9, g1, hy, e1, md_rnd, e2, w2, to_normal, to_exit, to_ret, -decide_eq_true_eq, -decide_eq_false_iff_not, -List.any_eq_true, -List.any_eq_false, -bne_iff_ne, -beq_iff_eq, -beq_eq_false_iff_ne, -bne_eq_false_iff_eq]
        exact ⟨ls.length - (i + 1), by omega, i + 1, rfl, by simp [a0], by simp [a7], by simp [a8], by simp, by omega, by simp only; rw [hto]; exact W2⟩
    · have g1 : decide (i < ls.length) = false := by simp; omega
      simp -implicitDefEqProofs [a0, a7, a8, a9, g1, to_normal, to_exit, to_ret, -decide_eq_true_eq, -decide_eq_false_iff_not, -List.any_eq_true, -List.any_eq_false, -bne_iff_ne, -beq_iff_eq, -beq_eq_false_iff_ne, -bne_eq_false_iff_eq]
      rw [List.take_of_length_le (by omega)] at W1
      exact W1
  · rintro e ⟨t1, h1, c1⟩ ⟨rfl, W1⟩
    simp only at W1
    simp -implicitDefEqProofs [-decide_eq_true_eq, -decide_eq_false_iff_not, -List.any_eq_true, -List.any_eq_false, -bne_iff_ne, -beq_iff_eq, -beq_eq_false_iff_ne, -bne_eq_false_iff_eq]
    exact ⟨_, _, rfl, W1⟩
  · exact ⟨0, by simp, by simp, by simp, by simp, by simp, by omega, by simpa [told] using W⟩
theorem rng_c {b : Bool} {ls : List Str} {t : Nat → AV} {h : Heap} {names : List Str} (W : HI b ls (LPc t) (h.put 6 (some (LPc t).blk)) 7 names) (h6 : t 6 = .ptr 4 0 0) (hn : names.length ≤ 100000) (hls : ls.length ≤ 200000) (hx : ∀ x ∈ ls, x.length ≤ 100000) :
    ∃ (h' : Heap) (c' : Nat), rngA mZ (run Tryz.prog mZ) (.fn 47 [.ptr 5 0 0]) [26] cmpA cmpB ⟨t, h, 6⟩ = some (.normal, ⟨t, h', c'⟩) ∧ 7 ≤ c' ∧ (∃ nv, Cm 3 2 h' c' (told names ls) [] [] nv (.ro true []) (.ro true [])) ∧ h' 0 = some ⟨2, [[.ro true [], .ro true []]], some 26⟩ ∧ h' 4 = some ⟨1, [[.ptr 3 0 0]], some 54⟩ := by
  rw [rngA_fn rfl]
  obtain ⟨h', c', e, W'⟩ := iter_c W h6 hn hls hx
  simp only
  rw [e, Option.bind_some]
  simp only [W'.h6, lpOf_blk, Option.bind_some, isPan_tup, Bool.false_eq_true, if_false]
  rw [if_neg (by simp [Ex.isPan])]
  obtain ⟨nv, C⟩ := W'.cm
  refine ⟨_, c', rfl, W'.hc, ⟨nv, C.nbc, C.mlc, by simpa using C.mp, by simpa using C.blk, ?_, C.oc.frame (Nat.le_refl _) fun m hm => (by cases hm), C.ob.frame (Nat.le_refl _) fun m hm => (by cases hm), fun l hl => (by cases hl), fun x hx => (by cases hx), C.nd⟩, by simpa using W'.h0, by simpa using W'.h4⟩
  refine C.on.frame (Nat.le_refl _) fun m hm _ => ?_
  obtain ⟨_, y, hy, ht⟩ := C.on.ty hm
  have : m ≠ 6 := ne_ty hy W'.h6 (by rw [ht]; simp [LP.blk])
  simp [this]
end Go.Proofs.YtmpcjfkfgjpebaaGreatDoor.AM
