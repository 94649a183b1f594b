/- Texts of the proof: part Z23. -/
import Derived.Test.YtmpcjfkfgjpebaaGreatDoorZM7
set_option maxHeartbeats 0
set_option maxRecDepth 8000
set_option linter.unusedSimpArgs false
set_option linter.unusedVariables false
set_option linter.unusedSectionVars false
namespace Go.Proofs.YtmpcjfkfgjpebaaGreatDoor.AM
open Go Go.Proofs
attribute [local simp] fieldAddrA ld setCells stA skipV appendA hd makeA bnd kindA freshA killOk loadsAt edgesOn Region.binds newT empT lay_get allocA buildA buildRow lenA els indexAddrA isNil opA evA lit_int lit_bool lit_nil lit_nilf yldA binI unA pickA boolV intV fieldA mk eqs nilC mayP
/-- The loop over a function in a body. -/
def rngOf : Code → Option (List Nat × Code × Code)
  | .rangeFunc _ ps a b => some (ps.toList, a, b)
  | .seq a b => (rngOf a).or (rngOf b)
  | .block _ b => rngOf b
  | .cond _ a b => (rngOf a).or (rngOf b)
  | _ => none
noncomputable def seqA : Code := ((Tryz.f121.body.bind rngOf).map (·.2.1)).getD .skip
noncomputable def seqB : Code := ((Tryz.f121.body.bind rngOf).map (·.2.2)).getD .skip
noncomputable abbrev LPs (t : Nat → AV) : LP := ⟨0, .normal, rngNt [7] seqA seqB, t, [7], seqA, seqB⟩
theorem LPs_ok (t : Nat → AV) : rndOk mZ (LPs t) = true := by kernel_rfl
theorem md_rnd : mZ rndF = some .rnd := rfl
/-- Where what is collected lies. -/
structure PI (h0 : Heap) (c0 : Nat) (p : LP) (h : Heap) (c : Nat) (ls : List Str) : Prop where
  q : ∃ v, h c0 = some ⟨1, [[v]], some 23⟩ ∧ OutG 1 9 h c v (strs ls) ∧ ∀ n, nm v = some n → c0 + 2 ≤ n
  rc : h (c0 + 1) = some p.blk
  hc : c0 + 2 ≤ c
  fr : ∀ m, m < c0 → h m = h0 m
theorem PI.recd {h0 : Heap} {c0 : Nat} {p : LP} {h : Heap} {c : Nat} {ls : List Str} (W : PI h0 c0 p h c ls) (p' : LP) : PI h0 c0 p' (h.put (c0 + 1) (some p'.blk)) c ls := by
  obtain ⟨v, h1, O, hn⟩ := W.q
  refine ⟨⟨v, by simpa using h1, O.frame (Nat.le_refl _) fun m hm _ => ?_, hn⟩, by simp, W.hc, fun m hm => ?_⟩
  · have := hn m hm
    have a1 : m ≠ c0 + 1 := by omega
    simp [a1]
  · have a1 : m ≠ c0 + 1 := by omega
    simp [a1, W.fr m hm]
theorem seqA_ev (t : Nat → AV) (h : Heap) (c : Nat) (x : Str) : exL Tryz.prog mZ seqA ⟨setP t [7] [S x], h, c⟩ = some (.normal, ⟨upd (upd t (some 7) (S x)) (some 5) (S x), h, c⟩) := by
  simp -implicitDefEqProofs [seqA, Tryz.f121, rngOf, setP]
theorem seqB_ev {h0 : Heap} {c0 : Nat} {p : LP} {h : Heap} {c : Nat} {ls : List Str} {t : Nat → AV} {x : Str} (W : PI h0 c0 p h c ls) (h2 : t 2 = .ptr c0 0 0) (h5 : t 5 = S x) (hl : ls.length ≤ 1000000) :
    ∃ t' h' c', exL Tryz.prog mZ seqB ⟨t, h, c⟩ = some (.normal, ⟨t', h', c'⟩) ∧ PI h0 c0 p h' c' (ls ++ [x]) := by
  obtain ⟨v, h1, O, hn⟩ := W.q
  have hc := W.hc
  obtain ⟨v', h', c', e, O', G⟩ := outG_one (t := 23) (sz := 1) (by_ := 16) (z := [.val (.string ⟨#[]⟩)]) O [S x] (some 9) rfl (by simp) (by simp) (by simp) (by simp) rfl (by simp; omega) (by simp; omega)
  obtain ⟨q1, q2, q3⟩ := O'.nopan
  have O2 : OutG 1 9 h' c' v' (strs (ls ++ [x])) := by simpa using O'
  have hnv : nm v ≠ some c0 := fun e => by have := hn _ e; omega
  have hnr : nm v ≠ some (c0 + 1) := fun e => by have := hn _ e; omega
  have h1' : h' c0 = some ⟨1, [[v]], some 23⟩ := by rw [G.get c0 (by omega) hnv, h1]
  have hle := G.le
  have hcc : c0 ≠ c := by omega
  have hnew : ∀ n, nm v' = some n → c0 + 2 ≤ n := fun n hn' => by
    rcases G.new n hn' with h3 | h3
    · exact hn n h3
    · omega
  have key : ∃ t', exL Tryz.prog mZ seqB ⟨t, h, c⟩ = some (.normal, ⟨t', h'.put c0 (some ⟨1, [[v']], some 23⟩), c'⟩) := by
    rcases O with ⟨rfl, _⟩ | ⟨n, rfl, _⟩
    · simp -implicitDefEqProofs [seqB, Tryz.f121, rngOf, h2, h5, h1, hcc, -appendA, e, q1, q2, q3, h1', -decide_eq_true_eq, -decide_eq_false_iff_not, -List.any_eq_true, -List.any_eq_false, -bne_iff_ne, -beq_iff_eq, -beq_eq_false_iff_ne, -bne_eq_false_iff_eq]
    · simp only [List.length_map] at e
      simp -implicitDefEqProofs [seqB, Tryz.f121, rngOf, h2, h5, h1, hcc, -appendA, e, q1, q2, q3, h1', -decide_eq_true_eq, -decide_eq_false_iff_not, -List.any_eq_true, -List.any_eq_false, -bne_iff_ne, -beq_iff_eq, -beq_eq_false_iff_ne, -bne_eq_false_iff_eq]
  obtain ⟨t', key⟩ := key
  refine ⟨t', h'.put c0 (some ⟨1, [[v']], some 23⟩), c', key, ⟨v', by simp, O2.frame (Nat.le_refl _) fun m hm _ => ?_, hnew⟩, ?_, by omega, fun m hm => ?_⟩
  · have := hnew m hm
    have a1 : m ≠ c0 := by omega
    simp [a1]
  · have a1 : c0 + 1 ≠ c0 := by omega
    rw [put_get, if_neg a1, G.get _ (by omega) hnr, W.rc]
  · have a1 : m ≠ c0 := by omega
    rw [put_get, if_neg a1, G.get m (by omega) (fun e => by have := hn _ e; omega), W.fr m hm]
/-- A round. -/
theorem round_s {h0 : Heap} {c0 : Nat} {t : Nat → AV} {h : Heap} {c : Nat} {ls : List Str} (x : Str) (W : PI h0 c0 (LPs t) h c ls) (h2 : t 2 = .ptr c0 0 0) (hl : ls.length ≤ 1000000) :
    ∃ h' c', run Tryz.prog mZ rndF [.yld (c0 + 1), S x] h c = some (B true, h', c') ∧ PI h0 c0 (LPs t) h' c' (ls ++ [x]) := by
  rw [run_rnd md_rnd]
  unfold rndA
  simp only [W.rc, lpOf_blk, Option.bind_some]
  rw [if_pos ⟨rfl, LPs_ok t⟩, seqA_ev, Option.bind_some]
  unfold begR
  simp only [W.rc, lpOf_blk, Option.bind_some, if_true]
  obtain ⟨t', h', c', e, W'⟩ := seqB_ev (t := upd (upd t (some 7) (S x)) (some 5) (S x)) (x := x) (W.recd { LPs t with st := 1 }) (by simpa using h2) (by simp) hl
  rw [e, Option.bind_some]
  unfold endR
  simp only [W'.rc, lpOf_blk, Option.map_some]
  exact ⟨_, _, rfl, W'.recd (LPs t)⟩
theorem yld_c {orc : Orc} {l : Nat} {x : AV} {h : Heap} {c : Nat} {r : AV × Heap × Nat} (e : orc rndF [.yld l, x] h c = some r) : orc rndF (.yld l :: [x]) h c = some r := e
@[simp] theorem isPan_val (v : Value) : (AV.val v).isPan = false := rfl
@[simp] theorem isPan_tup (cs : List AV) : (AV.tup cs).isPan = false := rfl
def POut (h0 : Heap) (c0 : Nat) (t : Nat → AV) (s : Str) (o : Option (AV × Heap × Nat)) : Prop := ∃ (h' : Heap) (c' : Nat) (ls : List Str), o = some (.tup [], h', c') ∧ PI h0 c0 (LPs t) h' c' ls ∧ ls.length ≤ s.length + 1 ∧ ∀ x ∈ ls, x.length ≤ s.length
def PInv (h0 : Heap) (c0 p : Nat) (t : Nat → AV) (s : Str) (k : Nat) (st : St) : Prop := ∃ (i f : Nat) (d : Int) (ls : List Str), k = s.length - i ∧ st.t 0 = .yld (c0 + 1) ∧ st.t 1 = .ptr p 0 0 ∧ st.t 3 = I f ∧ st.t 4 = I d ∧ st.t 6 = S s ∧ st.t 7 = I s.length ∧ st.t 8 = I i ∧ i ≤ s.length ∧ f ≤ i ∧ -(i : Int) ≤ d ∧ d ≤ i ∧ PI h0 c0 (LPs t) st.h st.c ls ∧ ls.length ≤ i ∧ ∀ x ∈ ls, x.length ≤ s.length
def PEnd (h0 : Heap) (c0 p : Nat) (t : Nat → AV) (s : Str) (e : Ex) (st : St) : Prop := e = .exit 0 ∧ ∃ (f : Nat) (ls : List Str), st.t 0 = .yld (c0 + 1) ∧ st.t 1 = .ptr p 0 0 ∧ st.t 3 = I f ∧ f ≤ s.length ∧ PI h0 c0 (LPs t) st.h st.c ls ∧ ls.length ≤ s.length ∧ ∀ x ∈ ls, x.length ≤ s.length
theorem more_le {ls : List Str} {y : Str} {n : Nat} (hx : ∀ x ∈ ls, x.length ≤ n) (hy : y.length ≤ n) : ∀ x ∈ ls ++ [y], x.length ≤ n := by
  intro x h
  rcases List.mem_append.1 h with h | h
  · exact hx x h
  · simp at h
    subst h
    exact hy
/-- The parts of a text, one by one. -/
theorem iter_p {h0 : Heap} {c0 p : Nat} {t : Nat → AV} (h2 : t 2 = .ptr c0 0 0) {h : Heap} {c : Nat} {s : Str} (hp : p < c0) (hps : h0 p = some ⟨1, [[S s]], some 9⟩) (W : PI h0 c0 (LPs t) h c []) (hl : s.length ≤ 100000) :
    POut h0 c0 t s (run Tryz.prog mZ 122 [.yld (c0 + 1), .ptr p 0 0] h c) := by
  rw [run_eq (show mZ 122 = some .heap from rfl) rfl, Tryz.func122]
  have hp1 : h p = some ⟨1, [[S s]], some 9⟩ := by rw [W.fr p hp, hps]
  simp -implicitDefEqProofs [Tryz.f122, hp1, Option.bind_assoc, -decide_eq_true_eq, -decide_eq_false_iff_not, -List.any_eq_true, -List.any_eq_false, -bne_iff_ne, -beq_iff_eq, -beq_eq_false_iff_ne, -bne_eq_false_iff_eq]
  refine loop_to (R := POut h0 c0 t s) (PInv h0 c0 p t s) (PEnd h0 c0 p t s) ?_ ?_ s.length _ ?_
  · rintro k ⟨t1, h1, c1⟩ ⟨i, f, d, ls, rfl, a0, a1, a3, a4, a6, a7, a8, hi, hf, hd1, hd2, W1, hls, hx⟩
    simp only at a0 a1 a3 a4 a6 a7 a8 W1
    have hp1 : h1 p = some ⟨1, [[S s]], some 9⟩ := by rw [W1.fr p hp, hps]
    by_cases g : i < s.length
    · have k1 : decide (i < s.length) = true := by simp [g]
      obtain ⟨x, hxi⟩ : ∃ x, s[i]? = some x := ⟨s[i], by simp [g]⟩
      have kn : IntKind.i64.wrap ((i : Int) + 1) = ((i + 1 : Nat) : Int) := wrap_succ (by omega)
      have kd1 : IntKind.i64.wrap (d + 1) = d + 1 := wrap_id (by omega) (by omega)
      have kd2 : IntKind.i64.wrap (d - 1) = d - 1 := wrap_id (by omega) (by omega)
      cases g1 : ((x.toNat : Int) == 40)
      · cases g2 : ((x.toNat : Int) == 41)
        · cases g3 : ((x.toNat : Int) == 32)
          · simp -implicitDefEqProofs [a0, a1, a3, a4, a6, a7, a8, hp1, k1, hxi, kn, g1, g2, g3, to_normal, to_exit, to_ret, -decide_eq_true_eq, -decide_eq_false_iff_not, -List.any_eq_true, -List.any_eq_false, -bne_iff_ne, -beq_iff_eq, -beq_eq_false_iff_ne, -bne_eq_false_iff_eq]
            exact ⟨s.length - (i + 1), by omega, i + 1, f, d, ls, rfl, by simp [a0], by simp [a1], by simp [a3], by simp [a4], by simp [a6], by simp [a7], by simp, by omega, by omega, by omega, by omega, W1, by omega, hx⟩
          · cases g4 : decide (d ≤ 0)
            · simp -implicitDefEqProofs [a0, a1, a3, a4, a6, a7, a8, hp1, k1, hxi, kn, g1, g2, g3, g4, to_normal, to_exit, to_ret, -decide_eq_true_eq, -decide_eq_false_iff_not, -List.any_eq_true, -List.any_eq_false, -bne_iff_ne, -beq_iff_eq, -beq_eq_false_iff_ne, -bne_eq_false_iff_eq]
              exact ⟨s.length - (i + 1), by omega, i + 1, f, d, ls, rfl, by simp [a0], by simp [a1], by simp [a3], by simp [a4], by simp [a6], by simp [a7], by simp, by omega, by omega, by omega, by omega, W1, by omega, hx⟩
            · obtain ⟨h2', c2, e, W2⟩ := round_s ((s.take i).drop f) W1 h2 (by omega)
              have k2 : i ≤ s.length := by omega
              have k3 : (i : Int) ≤ (s.length : Int) := by omega
              have k4 : (f : Int) ≤ (i : Int) := by omega
              have hp2 : h2' p = some ⟨1, [[S s]], some 9⟩ := by rw [W2.fr p hp, hps]
              simp -implicitDefEqProofs [a0, a1, a3, a4, a6, a7, a8, hp1, k1, hxi, kn, g1, g2, g3, g4, hf, k2, k3, k4, md_rnd, e, to_normal, to_exit, to_ret, -decide_eq_true_eq, -decide_eq_false_iff_not, -List.any_eq_true, -List.any_eq_false, -bne_iff_ne, -beq_iff_eq, -beq_eq_false_iff_ne, -bne_eq_false_iff_eq]
              exact ⟨s.length - (i + 1), by omega, i + 1, i + 1, d, ls ++ [(s.take i).drop f], rfl, by simp [a0], by simp [a1], by simp, by simp [a4], by simp [a6], by simp [a7], by simp, by omega, by omega, by omega, by omega, W2, by simp; omega, more_le hx (by simp; omega)⟩
        · simp -implicitDefEqProofs [a0, a1, a3, a4, a6, a7, a8, hp1, k1, hxi, kn, kd2, g1, g2, to_normal, to_exit, to_ret, -decide_eq_true_eq, -decide_eq_false_iff_not, -List.any_eq_true, -List.any_eq_false, -bne_iff_ne, -beq_iff_eq, -beq_eq_false_iff_ne, -bne_eq_false_iff_eq]
          exact ⟨s.length - (i + 1), by omega, i + 1, f, d - 1, ls, rfl, by simp [a0], by simp [a1], by simp [a3], by simp, by simp [a6], by simp [a7], by simp, by omega, by omega, by omega, by omega, W1, by omega, hx⟩
      · simp -implicitDefEqProofs [a0, a1, a3, a4, a6, a7, a8, hp1, k1, hxi, kn, kd1, g1, to_normal, to_exit, to_ret, -decide_eq_true_eq, -decide_eq_false_iff_not, -List.any_eq_true, -List.any_eq_false, -bne_iff_ne, -beq_iff_eq, -beq_eq_false_iff_ne, -bne_eq_false_iff_eq]
        exact ⟨s.length - (i + 1), by omega, i + 1, f, d + 1, ls, rfl, by simp [a0], by simp [a1], by simp [a3], by simp, by simp [a6], by simp [a7], by simp, by omega, by omega, by omega, by omega, W1, by omega, hx⟩
    · have k1 : decide (i < s.length) = false := by simp; omega
      simp -implicitDefEqProofs [a0, a1, a3, a4, a6, a7, a8, k1, to_normal, to_exit, to_ret, -decide_eq_true_eq, -decide_eq_false_iff_not, -List.any_eq_true, -List.any_eq_false, -bne_iff_ne, -beq_iff_eq, -beq_eq_false_iff_ne, -bne_eq_false_iff_eq]
      exact ⟨rfl, f, ls, by simp [a0], by simp [a1], by simp [a3], by omega, W1, by omega, hx⟩
  · rintro e ⟨t1, h1, c1⟩ ⟨rfl, f, ls, a0, a1, a3, hf, W1, hls, hx⟩
    simp only at a0 a1 a3 W1
    have hp1 : h1 p = some ⟨1, [[S s]], some 9⟩ := by rw [W1.fr p hp, hps]
    obtain ⟨h2', c2, e, W2⟩ := round_s (s.drop f) W1 h2 (by omega)
    have k4 : (f : Int) ≤ (s.length : Int) := by omega
    have ht : List.take s.length s = s := List.take_length
    simp -implicitDefEqProofs [a0, a1, a3, hp1, hf, k4, ht, md_rnd, e, -decide_eq_true_eq, -decide_eq_false_iff_not, -List.any_eq_true, -List.any_eq_false, -bne_iff_ne, -beq_iff_eq, -beq_eq_false_iff_ne, -bne_eq_false_iff_eq]
    exact ⟨_, _, _, rfl, W2, by simp; omega, more_le hx (by simp)⟩
  · exact ⟨0, 0, 0, [], by simp, by simp, by simp, by simp, by simp, by simp, by simp, by simp, by omega, by omega, by simp, by simp, W, by simp, fun x hx => by cases hx⟩
theorem rngA_fn {md : Nat → Option CMode} {orc : Orc} {f : Nat} {caps : List AV} (hf : md f = some .heap) (ps : List Nat) (a b : Code) (s : St) : rngA md orc (.fn f caps) ps a b s =
    (orc f (.yld s.c :: caps) (s.h.put s.c (some (LP.blk ⟨0, .normal, rngNt ps a b, s.t, ps, a, b⟩))) (s.c + 1)).bind fun r =>
        if r.1.isPan then none else (lpOf (r.2.1 s.c)).bind fun p => if p.st = 1 ∨ p.j.isPan = true then none else some (p.j, ⟨s.t, r.2.1.put s.c none, r.2.2⟩) := by
  unfold rngA
  simp only [hf]
/-- All parts are collected. -/
theorem rng_p {h0 : Heap} {c0 p : Nat} {t : Nat → AV} (h2 : t 2 = .ptr c0 0 0) {h : Heap} {s : Str} (hp : p < c0) (hps : h0 p = some ⟨1, [[S s]], some 9⟩) (W : PI h0 c0 (LPs t) (h.put (c0 + 1) (some (LPs t).blk)) (c0 + 2) []) (hl : s.length ≤ 100000) :
    ∃ (h' : Heap) (c' : Nat) (ls : List Str) (v : AV), rngA mZ (run Tryz.prog mZ) (.fn 122 [.ptr p 0 0]) [7] seqA seqB ⟨t, h, c0 + 1⟩ = some (.normal, ⟨t, h', c'⟩) ∧ h' c0 = some ⟨1, [[v]], some 23⟩ ∧ OutG 1 9 h' c' v (strs ls) ∧ c0 + 2 ≤ c' ∧ (∀ m, m < c0 → h' m = h0 m) ∧ ls.length ≤ s.length + 1 ∧ ∀ x ∈ ls, x.length ≤ s.length := by
  rw [rngA_fn rfl]
  obtain ⟨h', c', ls, e, W', hls, hx⟩ := iter_p h2 hp hps W hl
  simp only
  rw [e, Option.bind_some]
  simp only [W'.rc, lpOf_blk, Option.bind_some, isPan_tup, Bool.false_eq_true, if_false]
  rw [if_neg (by simp [Ex.isPan])]
  obtain ⟨v, h1, O, hn⟩ := W'.q
  refine ⟨_, _, ls, v, rfl, by simpa using h1, O.frame (Nat.le_refl _) fun m hm _ => ?_, W'.hc, fun m hm => ?_, hls, hx⟩
  · have := hn m hm
    have a1 : m ≠ c0 + 1 := by omega
    simp [a1]
  · have a1 : m ≠ c0 + 1 := by omega
    simp [a1, W'.fr m hm]
/-- THE PARTS of a text, collected. -/
theorem collect_c {h : Heap} {c p : Nat} {s : Str} (hp : p < c) (hps : h p = some ⟨1, [[S s]], some 9⟩) (hl : s.length ≤ 100000) :
    ∃ (h' : Heap) (c' : Nat) (ls : List Str) (v : AV), callA mZ (run Tryz.prog mZ) 86 [.fn 122 [.ptr p 0 0]] h c = some (v, h', c') ∧ OutG 1 9 h' c' v (strs ls) ∧ c ≤ c' ∧ (∀ m, m < c → h' m = h m) ∧ ls.length ≤ s.length + 1 ∧ ∀ x ∈ ls, x.length ≤ s.length := by
  have key : ∃ (h' : Heap) (c' : Nat) (ls : List Str) (v : AV), callA mZ (run Tryz.prog mZ) 121 [.ro true [], .fn 122 [.ptr p 0 0]] h c = some (v, h', c') ∧ OutG 1 9 h' c' v (strs ls) ∧ c ≤ c' ∧ (∀ m, m < c → h' m = h m) ∧ ls.length ≤ s.length + 1 ∧ ∀ x ∈ ls, x.length ≤ s.length := by
    rw [call_heap rfl, run_eq (show mZ 121 = some .heap from rfl) rfl, Tryz.func121]
    simp -implicitDefEqProofs [Tryz.f121, Option.bind_assoc, -decide_eq_true_eq, -decide_eq_false_iff_not, -List.any_eq_true, -List.any_eq_false, -bne_iff_ne, -beq_iff_eq, -beq_eq_false_iff_ne, -bne_eq_false_iff_eq]
    have W : PI h c (LPs (upd (upd (upd (init [.ro true [], .fn 122 [.ptr p 0 0]]) (some 2) (.ptr c 0 0)) (some 4) (.ro true [])) (some 6) (.fn 122 [.ptr p 0 0])))
        ((h.put c (some ⟨1, [[.ro true []]], some 23⟩)).put (c + 1) (some (LPs (upd (upd (upd (init [.ro true [], .fn 122 [.ptr p 0 0]]) (some 2) (.ptr c 0 0)) (some 4) (.ro true [])) (some 6) (.fn 122 [.ptr p 0 0]))).blk)) (c + 2) [] := by
      refine ⟨⟨.ro true [], by simp, OutG.nil _ _ _ _, fun n hn => by cases hn⟩, by simp, by omega, fun m hm => ?_⟩
      have a1 : m ≠ c := by omega
      have a2 : m ≠ c + 1 := by omega
      simp [a1, a2]
    obtain ⟨h', c', ls, v, e, h1, O, hc, hfr, hls, hx⟩ := rng_p (by simp) hp hps W hl
    erw [e, Option.bind_some]
    obtain ⟨q1, q2, q3⟩ := O.nopan
    refine ⟨h', c', ls, v, ?_, O, by omega, hfr, hls, hx⟩
    simp -implicitDefEqProofs [h1, -decide_eq_true_eq, -decide_eq_false_iff_not, -List.any_eq_true, -List.any_eq_false, -bne_iff_ne, -beq_iff_eq, -beq_eq_false_iff_ne, -bne_eq_false_iff_eq]
  obtain ⟨h', c', ls, v, e, O, r⟩ := key
  obtain ⟨q1, q2, q3⟩ := O.nopan
  rw [call_heap rfl, run_eq (show mZ 86 = some .heap from rfl) rfl, Tryz.func86]
  refine ⟨h', c', ls, v, ?_, O, r⟩
  simp -implicitDefEqProofs [Tryz.f86, e, putV_np, q1, -decide_eq_true_eq, -decide_eq_false_iff_not, -List.any_eq_true, -List.any_eq_false, -bne_iff_ne, -beq_iff_eq, -beq_eq_false_iff_ne, -bne_eq_false_iff_eq]
theorem parts_c (s : Str) (h : Heap) (c : Nat) : callA mZ (run Tryz.prog mZ) 87 [S s] h c = some (.fn 122 [.ptr c 0 0], h.put c (some ⟨1, [[S s]], some 9⟩), c + 1) := by
  rw [call_heap rfl, run_eq (show mZ 87 = some .heap from rfl) rfl, Tryz.func87]
  simp -implicitDefEqProofs [Tryz.f87, -decide_eq_true_eq, -decide_eq_false_iff_not, -List.any_eq_true, -List.any_eq_false, -bne_iff_ne, -beq_iff_eq, -beq_eq_false_iff_ne, -bne_eq_false_iff_eq]
end Go.Proofs.YtmpcjfkfgjpebaaGreatDoor.AM
