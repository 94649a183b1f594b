/- Parts of the proof: Z52, Z53, Z54, Z55. -/
import Derived.Test.YtmpcjfkfgjpebaaGreatDoorZ51
set_option maxHeartbeats 0
set_option maxRecDepth 8000
set_option linter.unusedSimpArgs false
set_option linter.unusedVariables false
set_option linter.unusedSectionVars false
namespace Go.Proofs.YtmpcjfkfgjpebaaGreatDoor.AM
open Go Go.Proofs
attribute [local simp] fieldAddrA ld setCells stA skipV appendA hd makeA bnd kindA freshA killOk loadsAt edgesOn Region.binds newT empT lay_get allocA buildA buildRow lenA els indexAddrA isNil opA evA lit_int lit_bool lit_nil lit_nilf yldA binI unA pickA boolV intV fieldA mk eqs nilC mayP
theorem copy_c {r : Rn} (hne : r.vs ≠ []) (hl : r.vs.length ≤ 1000) (h : Heap) (c : Nat) : ∃ h' c', callA mZ (run Tryz.prog mZ) 31 [r.av] h c = some (.agg [I r.at_, .sl (c + 2) 1 0 r.vs.length, I r.x, I r.y, B r.z], h', c') ∧ h' (c + 2) = some ⟨1, nums r.vs, some 3⟩ ∧ c + 3 ≤ c' ∧ ∀ j, j < c → h' j = h j := by
  rw [call_heap rfl, run_eq (show mZ 31 = some .heap from rfl) rfl, Tryz.func31]
  have key : ∀ (h0 : Heap), ∃ h' c', appendA Tryz.prog 30 h0 (c + 2) .emp (.ro false (nums r.vs)) = some (.sl (c + 2) 1 0 r.vs.length, h', c') ∧ h' (c + 2) = some ⟨1, nums r.vs, some 3⟩ ∧ c + 3 ≤ c' ∧ ∀ j, j < c + 2 → h' j = h0 j := by
    intro h0
    obtain ⟨v', h', c', e, RV, hc, hf, hs⟩ := app_emp (h := h0) (c := c + 2) (x := .ro false (nums r.vs)) (l := r.vs) (by omega) rfl
    have hv := hs hne
    subst hv
    rcases RV with ⟨h1, _⟩ | ⟨n, h1, h2, h3⟩
    · exact absurd h1 hne
    · simp at h1
      subst h1
      exact ⟨h', c', e, h3, by omega, hf⟩
  obtain ⟨h1, c1, e, b, hc, hf⟩ := key ((h.put c (some ⟨5, [[I r.at_, .ro false (nums r.vs), I r.x, I r.y, B r.z]], some 32⟩)).put (c + 1) (some ⟨5, [[I 0, .ro true [], I 0, I 0, B false]], some 32⟩))
  have F0 := hf c (by omega)
  have F1 := hf (c + 1) (by omega)
  simp at F0 F1
  obtain ⟨at0, vs, x, y, z⟩ := r
  simp only at e b hf F0 F1 ⊢
  refine ⟨(h1.put c (some ⟨5, [[I at0, .sl (c + 2) 1 0 vs.length, I x, I y, B z]], some 32⟩)).put (c + 1) (some ⟨5, [[I at0, .sl (c + 2) 1 0 vs.length, I x, I y, B z]], some 32⟩), c1, ?_, by simp [b], hc, fun j hj => ?_⟩
  · simp -implicitDefEqProofs [Tryz.f31, -appendA, e, F0, F1, -decide_eq_true_eq, -decide_eq_false_iff_not, -List.any_eq_true, -List.any_eq_false, -bne_iff_ne, -beq_iff_eq, -beq_eq_false_iff_ne, -bne_eq_false_iff_eq]
  · have a1 : j ≠ c := by omega
    have a2 : j ≠ c + 1 := by omega
    simp [a1, a2, hf j (by omega)]
section
variable {nb cb : Bool} {names : List Str} {code : List Ln} {r : Rn}
structure HI6 (nb cb : Bool) (names : List Str) (code : List Ln) (tN s : Nat) (r : Rn) (st : St) : Prop where
  a3 : st.t 3 = .ptr 0 0 0
  a4 : st.t 4 = .ptr 1 0 0
  a6 : st.t 6 = .ptr 2 0 0
  a7 : st.t 7 = .ptr 3 0 0
  a2 : st.t 2 = I tN
  a11 : st.t 11 = I s
  b0 : st.h 0 = some (pgB nb cb names code)
  b1 : st.h 1 = some (rnB 6 r)
  b2 : st.h 2 = some ⟨5, [[I 0, .ro true [], I 0, I 0, B false]], some 32⟩
  b3 : st.h 3 = some ⟨3, [[I 0, I 0, .ro true []]], some 39⟩
  b4 : st.h 6 = some ⟨1, nums r.vs, some 3⟩
  hc : 7 ≤ st.c
def RGI (nb cb : Bool) (names : List Str) (code : List Ln) (tN : Nat) (RES : Rn × Ev × Nat) (kk : Nat) (st : St) : Prop := ∃ (f s : Nat) (r : Rn), kk = f ∧ tN + 1 ≤ s + f ∧ s ≤ tN ∧ goP code tN f s r = RES ∧ RunOk names code r ∧ calm r ∧ HI6 nb cb names code tN s r st
def RGE (R : Rn) (E' : Ev) (S' : Nat) (e : Ex) (st : St) : Prop := e = .ret ∧ st.t 6 = .ptr 2 0 0 ∧ st.t 7 = .ptr 3 0 0 ∧ st.t 8 = I S' ∧ st.t 9 = E 0 ∧ st.h 2 = some (rnB 6 R) ∧ (∃ v, st.h 3 = some ⟨3, [[I E'.k, I E'.w, v]], some 39⟩ ∧ OutG 1 3 st.h st.c v (nums E'.vals)) ∧ st.h 6 = some ⟨1, nums R.vs, some 3⟩
def RIN (nb cb : Bool) (names : List Str) (code : List Ln) (tN s : Nat) (r : Rn) (l : Ln) (c0 : Nat) (kk : Nat) (st : St) : Prop := ∃ (j : Nat) (v : AV), kk = l.bodies.length - j ∧ j ≤ l.bodies.length ∧ HI6 nb cb names code tN s r st ∧ st.t 12 = .ptr c0 0 0 ∧ st.t 13 = I (1 + sumL (l.bodies.take j) : Nat) ∧ st.t 14 = v ∧ st.t 15 = I j ∧ st.h c0 = some ⟨5, [l.row], some 52⟩ ∧ OutG 1 3 st.h st.c v (nums ((valsP r.vs l).take j)) ∧ 7 ≤ c0 ∧ c0 < st.c ∧ ∀ m, nm v = some m → c0 < m
def RINE (nb cb : Bool) (names : List Str) (code : List Ln) (tN s : Nat) (r : Rn) (l : Ln) (c0 : Nat) (e : Ex) (st : St) : Prop := e = .exit 2 ∧ ∃ (v : AV), HI6 nb cb names code tN s r st ∧ st.t 12 = .ptr c0 0 0 ∧ st.t 13 = I (costP l) ∧ st.t 14 = v ∧ st.h c0 = some ⟨5, [l.row], some 52⟩ ∧ OutG 1 3 st.h st.c v (nums (valsP r.vs l)) ∧ 7 ≤ c0 ∧ c0 < st.c ∧ ∀ m, nm v = some m → c0 < m
theorem rgo_ev (F : FrzC code) (V : ValidP names code) (R : RunOk names code r) (tN : Nat) (ht : tN ≤ 100000) : GoO (goF code tN r).1 (goF code tN r).2.1 (goF code tN r).2.2 (run Tryz.prog mZ 12 [progV nb cb names code, r.av, I tN] Heap.none 0) := by
  rw [run_eq (show mZ 12 = some .pure from rfl) rfl, Tryz.func12]
  have e28 := fun h c => rvalidate_c (nb := nb) (cb := cb) F V h c
  have e29 := fun h c => rfits_c (nb := nb) (cb := cb) F V R h c
  have e30 := fun n a b h c => outq_c n a b h c
  have q1 : outB (tN : Int) 0 100000 = false := outB_f (by omega) (by omega)
  have hn16 := V.n16
  have hp := (List.getElem?_eq_some_iff.1 V.res).1
  have hvl := R.vl
  have hmd := R.md
  have hne : r.vs ≠ [] := fun e => by rw [e] at hvl; simp at hvl; omega
  obtain ⟨h1, c1, e31, b4, hc1, hf⟩ := copy_c hne (by omega) ((((Heap.none.put 0 (some (pgB nb cb names code))).put 1 (some ⟨5, [[I r.at_, .ro false (nums r.vs), I r.x, I r.y, B r.z]], some 32⟩)).put 2 (some ⟨5, [[I 0, .ro true [], I 0, I 0, B false]], some 32⟩)).put 3 (some ⟨3, [[I 0, I 0, .ro true []]], some 39⟩)) 4
  have f0 := hf 0 (by omega)
  have f1 := hf 1 (by omega)
  have f2 := hf 2 (by omega)
  have f3 := hf 3 (by omega)
  simp at f0 f1 f2 f3
  have b4 : h1 6 = some ⟨1, nums r.vs, some 3⟩ := b4
  by_cases hcalm : r.y = 0 ∧ r.x = 0 ∧ r.z = false
  rotate_left
  · have hg : goF code tN r = (r, ⟨5, 0, []⟩, 0) := by unfold goF; rw [if_neg hcalm]
    rw [hg]
    obtain ⟨at0, vs, x, y, z⟩ := r
    simp only at hmd hcalm e31 b4 f1 ⊢
    rcases hmd with ⟨rfl, rfl, rfl⟩ | ⟨rfl, rfl, rfl, hz⟩ | ⟨rfl, hx1, hx2, rfl, hb⟩ | ⟨rfl, rfl, rfl, hb⟩ | ⟨rfl, rfl, rfl, hb⟩
    · exact absurd ⟨rfl, rfl, rfl⟩ hcalm
    · simp -implicitDefEqProofs [Tryz.f12, e28, e29, e30, q1, e31, f0, f1, f2, f3, b4, -decide_eq_true_eq, -decide_eq_false_iff_not, -List.any_eq_true, -List.any_eq_false, -bne_iff_ne, -beq_iff_eq, -beq_eq_false_iff_ne, -bne_eq_false_iff_eq]
      exact ⟨6, true, _, _, _, rfl, by simp [b4], rfl⟩
    · have k3 : (x != 0) = true := by simp; omega
      simp -implicitDefEqProofs [Tryz.f12, k3, e28, e29, e30, q1, e31, f0, f1, f2, f3, b4, -decide_eq_true_eq, -decide_eq_false_iff_not, -List.any_eq_true, -List.any_eq_false, -bne_iff_ne, -beq_iff_eq, -beq_eq_false_iff_ne, -bne_eq_false_iff_eq]
      exact ⟨6, true, _, _, _, rfl, by simp [b4], rfl⟩
    · simp -implicitDefEqProofs [Tryz.f12, e28, e29, e30, q1, e31, f0, f1, f2, f3, b4, -decide_eq_true_eq, -decide_eq_false_iff_not, -List.any_eq_true, -List.any_eq_false, -bne_iff_ne, -beq_iff_eq, -beq_eq_false_iff_ne, -bne_eq_false_iff_eq]
      exact ⟨6, true, _, _, _, rfl, by simp [b4], rfl⟩
    · simp -implicitDefEqProofs [Tryz.f12, e28, e29, e30, q1, e31, f0, f1, f2, f3, b4, -decide_eq_true_eq, -decide_eq_false_iff_not, -List.any_eq_true, -List.any_eq_false, -bne_iff_ne, -beq_iff_eq, -beq_eq_false_iff_ne, -bne_eq_false_iff_eq]
      exact ⟨6, true, _, _, _, rfl, by simp [b4], rfl⟩
  · have hg : goF code tN r = goP code tN (tN + 1) 0 r := by unfold goF; rw [if_pos hcalm]
    rw [hg]
    have hcalm' : calm r := hcalm
    obtain ⟨at0, vs, x, y, z⟩ := r
    obtain ⟨rfl, rfl, rfl⟩ := hcalm
    simp only at e31 b4 f1 ⊢
    simp -implicitDefEqProofs [Tryz.f12, e28, e29, e30, q1, e31, f0, f1, f2, f3, b4, Option.bind_assoc, -decide_eq_true_eq, -decide_eq_false_iff_not, -List.any_eq_true, -List.any_eq_false, -bne_iff_ne, -beq_iff_eq, -beq_eq_false_iff_ne, -bne_eq_false_iff_eq]
    have hRES : ∃ RES, RES = goP code tN (tN + 1) 0 ⟨at0, vs, 0, 0, false⟩ := ⟨_, rfl⟩
    obtain ⟨RES, hRES⟩ := hRES
    rw [← hRES]
    refine loop_to (R := GoO RES.1 RES.2.1 RES.2.2) (RGI nb cb names code tN RES) (RGE RES.1 RES.2.1 RES.2.2) ?_ ?_ (tN + 1) _ ?_
    · rintro kk ⟨t, h, c⟩ ⟨f, s, r, hkf, hf1, hs, hgo, R, hr, W⟩
      obtain ⟨a3, a4, a6, a7, a2, a11, b0, b1, b2, b3, b4, hc⟩ := W
      simp only at a3 a4 a6 a7 a2 a11 b0 b1 b2 b3 b4 hc
      have hat := R.a
      have hc2 := V.c200
      obtain ⟨f, rfl⟩ : ∃ f', f = f' + 1 := ⟨f - 1, by omega⟩
      subst hkf
      rw [goP] at hgo
      cases hl : code[r.at_]? with
      | none =>
        have hlen : r.at_ = code.length := by
          have := List.getElem?_eq_none_iff.1 hl
          omega
        rw [hl] at hgo
        simp only at hgo
        subst hgo
        have k1 : ((r.at_ : Int) == (code.length : Int)) = true := by simp; omega
        simp -implicitDefEqProofs [a2, a3, a4, a6, a7, a11, b0, b1, b2, b3, b4, k1, to_normal, to_exit, to_ret, -decide_eq_true_eq, -decide_eq_false_iff_not, -List.any_eq_true, -List.any_eq_false, -bne_iff_ne, -beq_iff_eq, -beq_eq_false_iff_ne, -bne_eq_false_iff_eq]
        exact ⟨rfl, by simp [a6], by simp [a7], by simp, by simp, by simp, ⟨.ro true [], by simp, .inl ⟨rfl, rfl⟩⟩, by simp [b4]⟩
      | some l =>
        rw [hl] at hgo
        simp only at hgo
        have hm := List.mem_of_getElem? hl
        have hatl := (List.getElem?_eq_some_iff.1 hl).1
        obtain ⟨b, hv⟩ := F l hm
        have hL := V.lns l hm
        have hb6 := hL.b6
        have hrow := row_ro hv
        have k1 : ((r.at_ : Int) == (code.length : Int)) = false := by simp; omega
        have hBo := hL.2.2.2.2.2.2.2.2.2.2
        have hmin : min names.length 16 = names.length := by omega
        rw [hmin] at hBo
        have hB60 : ∀ b ∈ l.bodies, b.length ≤ 60 := fun b hb => (hBo b hb).2
        have d1 : c ≠ 1 := by omega
        have d2 : c ≠ 2 := by omega
        have d3 : c ≠ 3 := by omega
        have d6 : c ≠ 6 := by omega
        have d0 : c ≠ 0 := by omega
        have d1' : 1 ≠ c := by omega
        have d2' : 2 ≠ c := by omega
        have d3' : 3 ≠ c := by omega
        have d6' : 6 ≠ c := by omega
        have d0' : 0 ≠ c := by omega
        simp -implicitDefEqProofs [a2, a3, a4, a6, a7, a11, b0, b1, b2, b3, b4, k1, hl, hrow, d0, d1, d2, d3, d6, d0', d1', d2', d3', d6', Option.bind_assoc, -decide_eq_true_eq, -decide_eq_false_iff_not, -List.any_eq_true, -List.any_eq_false, -bne_iff_ne, -beq_iff_eq, -beq_eq_false_iff_ne, -bne_eq_false_iff_eq]
        refine loop_to (R := RoundTo (RGI nb cb names code tN RES) (RGE RES.1 RES.2.1 RES.2.2) (f + 1)) (RIN nb cb names code tN s r l c) (RINE nb cb names code tN s r l c) ?_ ?_ l.bodies.length _ ?_
        · rintro kk ⟨t, h, c3⟩ ⟨j, v, rfl, hj, W, a12, a13, a14, a15, bc, O, hc0, hcc, hnv⟩
          obtain ⟨a3, a4, a6, a7, a2, a11, b0, b1, b2, b3, b4, hc⟩ := W
          simp only at a3 a4 a6 a7 a2 a11 b0 b1 b2 b3 b4 hc a12 a13 a14 a15 bc O hcc
          rw [hrow] at bc
          by_cases g : j < l.bodies.length
          · have g1 : decide (j < l.bodies.length) = true := by simp [g]
            have g1' : decide ((j : Int) < (l.bodies.length : Int)) = true := by simp; omega
            have w2 : IntKind.i64.wrap ((j : Int) + 1) = ((j + 1 : Nat) : Int) := wrap_succ (by omega)
            obtain ⟨q, hq⟩ : ∃ q, l.bodies[j]? = some q := ⟨l.bodies[j], by simp [g]⟩
            obtain ⟨B1, B2⟩ := hBo q (List.mem_of_getElem? hq)
            have e32 := fun c => rvalue_c (b1 := false) (b2 := false) B1 B2 R.vo R.vl (by omega) (c := c) (frz_vs b4)
            simp only [opsE] at e32
            have hsum := sumL_take hq
            have hle := sumL_le fun b hb => hB60 b (List.mem_of_mem_take (i := j) hb)
            have htl : (l.bodies.take j).length ≤ 6 := by simp; omega
            obtain ⟨sm, hsm⟩ : ∃ sm, sm = 1 + sumL (l.bodies.take j) := ⟨_, rfl⟩
            rw [← hsm] at a13
            have w3 : IntKind.i64.wrap ((sm : Int) + (q.length : Int)) = ((sm + q.length : Nat) : Int) := by rw [wrap_id (by omega) (by omega)]; omega
            have htk : (valsP r.vs l).take (j + 1) = (valsP r.vs l).take j ++ [evB r.vs q] := by
              rw [List.take_add_one]
              simp [hq]
            obtain ⟨v', h', c', e, O2, G⟩ := push_c O.toS (by simp; omega) (evB r.vs q)
            rw [← htk] at O2
            obtain ⟨p1, p2, p3⟩ := O2.nopan
            have G1 := G.le
            have gk : ∀ m, m ≤ c → h' m = h m := fun m hm => G.get m (by omega) fun e => by have := hnv m e; omega
            have fin : ∀ t' : Nat → AV, t' 3 = .ptr 0 0 0 → t' 4 = .ptr 1 0 0 → t' 6 = .ptr 2 0 0 → t' 7 = .ptr 3 0 0 → t' 2 = I tN → t' 11 = I s → t' 12 = .ptr c 0 0 → t' 13 = I (sm + q.length : Nat) → t' 14 = v' → t' 15 = I (j + 1 : Nat) → ∃ k', k' < l.bodies.length - j ∧ RIN nb cb names code tN s r l c k' ⟨t', h', c'⟩ :=
              fun t' x3 x4 x6 x7 x2 x11 x12 x13 x14 x15 => ⟨l.bodies.length - (j + 1), by omega, j + 1, v', rfl, by omega, ⟨x3, x4, x6, x7, x2, x11, by show h' 0 = _; rw [gk 0 (by omega), b0], by show h' 1 = _; rw [gk 1 (by omega), b1], by show h' 2 = _; rw [gk 2 (by omega), b2], by show h' 3 = _; rw [gk 3 (by omega), b3], by show h' 6 = _; rw [gk 6 (by omega), b4], by simp only; omega⟩, x12, by show t' 13 = _; rw [x13, hsum, hsm, Nat.add_assoc], x14, x15, by show h' c = _; rw [gk c (by omega), bc, hrow], O2, hc0, by simp only; omega, fun m hm => by
                rcases G.new m hm with h3 | h3
                · exact hnv m h3
                · omega⟩
            rcases O with ⟨rfl, hemp⟩ | ⟨nv, rfl, _⟩
            · simp -implicitDefEqProofs [a2, a3, a4, a6, a7, a11, a12, a13, a14, a15, b0, b1, b2, b3, b4, bc, g1, g1', hq, e32, w2, w3, lay_put, -appendA, e, p1, p2, p3, to_normal, to_exit, to_ret, -decide_eq_true_eq, -decide_eq_false_iff_not, -List.any_eq_true, -List.any_eq_false, -bne_iff_ne, -beq_iff_eq, -beq_eq_false_iff_ne, -bne_eq_false_iff_eq]
              exact fin _ (by simp [a3]) (by simp [a4]) (by simp [a6]) (by simp [a7]) (by simp [a2]) (by simp [a11]) (by simp [a12]) (by simp) (by simp) (by simp)
            · have hlt : (nums (List.take j (valsP r.vs l))).length = j := by simp; omega
              rw [hlt] at e
              rw [hlt] at a14
              have hnvc := hnv nv rfl
              simp -implicitDefEqProofs [a2, a3, a4, a6, a7, a11, a12, a13, a14, a15, b0, b1, b2, b3, b4, bc, g1, g1', hq, e32, w2, w3, lay_put, -appendA, e, p1, p2, p3, to_normal, to_exit, to_ret, -decide_eq_true_eq, -decide_eq_false_iff_not, -List.any_eq_true, -List.any_eq_false, -bne_iff_ne, -beq_iff_eq, -beq_eq_false_iff_ne, -bne_eq_false_iff_eq]
              exact fin _ (by simp [a3]) (by simp [a4]) (by simp [a6]) (by simp [a7]) (by simp [a2]) (by simp [a11]) (by simp [a12]) (by simp) (by simp) (by simp)
          · have g1 : decide (j < l.bodies.length) = false := by simp; omega
            have g1' : decide ((j : Int) < (l.bodies.length : Int)) = false := by simp; omega
            rw [List.take_of_length_le (by omega)] at a13
            rw [List.take_of_length_le (by simp; omega)] at O
            simp -implicitDefEqProofs [a2, a3, a4, a6, a7, a11, a12, a13, a14, a15, b0, b1, b2, b3, b4, bc, g1, g1', to_normal, to_exit, to_ret, -decide_eq_true_eq, -decide_eq_false_iff_not, -List.any_eq_true, -List.any_eq_false, -bne_iff_ne, -beq_iff_eq, -beq_eq_false_iff_ne, -bne_eq_false_iff_eq]
            exact ⟨rfl, v, ⟨by simp [a3], by simp [a4], by simp [a6], by simp [a7], by simp [a2], by simp [a11], b0, b1, b2, b3, b4, hc⟩, by simp [a12], by simp [a13, costP], by simp [a14], by simp [bc, hrow], O, hc0, hcc, hnv⟩
        · rintro e ⟨t, h, c3⟩ ⟨rfl, v, W, a12, a13, a14, bc, O, hc0, hcc, hnv⟩
          obtain ⟨a3, a4, a6, a7, a2, a11, b0, b1, b2, b3, b4, hc⟩ := W
          simp only at a3 a4 a6 a7 a2 a11 b0 b1 b2 b3 b4 hc a12 a13 a14 bc O hcc
          obtain ⟨R', hca, _⟩ := step_ok V R hr hl
          have hcost : costP l ≤ 361 := by
            have := sumL_le hB60
            unfold costP
            omega
          have hcost1 : 1 ≤ costP l := by unfold costP; omega
          have hnn := R.vl
          obtain ⟨cs, hcs⟩ : ∃ cs, cs = costP l := ⟨_, rfl⟩
          rw [← hcs] at a13 hcost hcost1 hgo
          have w1 : IntKind.i64.wrap ((tN : Int) - (s : Int)) = ((tN - s : Nat) : Int) := by rw [wrap_id (by omega) (by omega)]; omega
          have w2 : IntKind.i64.wrap ((s : Int) + (cs : Int)) = ((s + cs : Nat) : Int) := by rw [wrap_id (by omega) (by omega)]; omega
          have w3 : IntKind.i64.wrap ((r.at_ : Int) + 1) = ((r.at_ + 1 : Nat) : Int) := wrap_succ (by omega)
          by_cases g : tN < s + cs
          · have g1 : decide (((tN - s : Nat) : Int) < (cs : Int)) = true := by rw [decide_eq_true_eq]; omega
            have g1' : decide (tN - s < cs) = true := by rw [decide_eq_true_eq]; omega
            rw [if_pos g] at hgo
            subst hgo
            simp -implicitDefEqProofs [a2, a3, a4, a6, a7, a11, a12, a13, b0, b1, b2, b3, b4, w1, g1, g1', to_normal, to_exit, to_ret, -decide_eq_true_eq, -decide_eq_false_iff_not, -List.any_eq_true, -List.any_eq_false, -bne_iff_ne, -beq_iff_eq, -beq_eq_false_iff_ne, -bne_eq_false_iff_eq]
            exact ⟨rfl, by simp [a6], by simp [a7], by simp, by simp, by simp, ⟨.ro true [], by simp, .inl ⟨rfl, rfl⟩⟩, by simp [b4]⟩
          have g1 : decide (((tN - s : Nat) : Int) < (cs : Int)) = false := by rw [decide_eq_false_iff_not]; omega
          have g1' : decide (tN - s < cs) = false := by rw [decide_eq_false_iff_not]; omega
          rw [if_neg g] at hgo
          rw [hrow] at bc
          have fin : ∀ (r' : Rn) (t' : Nat → AV) (h' : Heap) (c' : Nat), goP code tN f (s + cs) r' = RES → RunOk names code r' → calm r' → t' 3 = .ptr 0 0 0 → t' 4 = .ptr 1 0 0 → t' 6 = .ptr 2 0 0 → t' 7 = .ptr 3 0 0 → t' 2 = I tN → t' 11 = I (s + cs : Nat) → h' 0 = some (pgB nb cb names code) → h' 1 = some (rnB 6 r') → h' 2 = some ⟨5, [[I 0, .ro true [], I 0, I 0, B false]], some 32⟩ → h' 3 = some ⟨3, [[I 0, I 0, .ro true []]], some 39⟩ → h' 6 = some ⟨1, nums r'.vs, some 3⟩ → 7 ≤ c' →
              ∃ k', k' < f + 1 ∧ RGI nb cb names code tN RES k' ⟨t', h', c'⟩ :=
            fun r' t' h' c' e1 e2 e3 x3 x4 x6 x7 x2 x11 y0 y1 y2 y3 y4 yc => ⟨f, by omega, f, s + cs, r', rfl, by omega, by omega, e1, e2, e3, ⟨x3, x4, x6, x7, x2, x11, y0, y1, y2, y3, y4, yc⟩⟩
          have z0 : (0 : Nat) ≠ c := by omega
          have cm1 : (c != 1) = true := by simp; omega
          have cm2 : (c != 2) = true := by simp; omega
          have cm3 : (c != 3) = true := by simp; omega
          obtain ⟨p1, p2, p3⟩ := O.nopan
          have p4 : v.isBad = false := by rcases O with ⟨rfl, _⟩ | ⟨nv, rfl, _⟩ <;> rfl
          obtain ⟨at1, ws, x, y, z⟩ := r
          obtain ⟨rfl, rfl, rfl⟩ := hr
          obtain ⟨x1, x2, x3, x4, x5, x6, x7, x8, x9, x10, _⟩ := hL
          clear hv hrow hBo hB60 hm hl
          obtain ⟨k, nm, to, wd, pv, bodies⟩ := l
          simp only at hnn b1 b4 bc O R' hca hgo x1 x2 x3 x4 x5 x6 x7 x8 x9 x10 hb6 w3
          have hk : k = 0 ∨ k = 1 ∨ k = 2 ∨ k = 3 ∨ k = 4 ∨ k = 5 ∨ k = 6 := by omega
          rcases hk with rfl | hk
          · have hb1 := x10 (by decide)
            obtain ⟨bd, rfl⟩ : ∃ bd, bodies = [bd] := List.length_eq_one_iff.1 hb1
            have hvals : valsP ws ⟨0, nm, to, wd, pv, [bd]⟩ = [evB ws bd] := rfl
            rw [hvals] at O
            generalize hv0 : evB ws bd = v0 at *
            obtain ⟨nv, hnv1, hnv2, hnv3, _⟩ := O.cut 0 (by simp)
            subst hnv1
            have hnv4 := hnv nv rfl
            have n6 : nv ≠ 6 := by omega
            have n6b : 6 ≠ nv := by omega
            have n6c : (nv != 6) = true := by simp; omega
            have n1 : nv ≠ 1 := by omega
            have n1b : 1 ≠ nv := by omega
            have n1c : (nv != 1) = true := by simp; omega
            simp only [nums, List.map_cons, List.map_nil] at hnv3
            obtain ⟨e1, e2⟩ := x3 (by decide)
            obtain ⟨j, rfl⟩ : ∃ j : Nat, nm = j := ⟨nm.toNat, by omega⟩
            have hj : j < ws.length := by omega
            have hst : stepR ⟨0, (j : Int), to, wd, pv, [bd]⟩ ⟨at1, ws, 0, 0, false⟩ = (⟨at1 + 1, ws.set j v0, 0, 0, false⟩, ⟨0, 0, []⟩) := by simp [stepR, hv0]
            rw [hst] at hgo R' hca
            rw [if_pos rfl] at hgo
            simp -implicitDefEqProofs [a2, a3, a4, a6, a7, a11, a12, a13, a14, b0, b1, b2, b3, b4, bc, w1, w2, w3, g1, g1', cm1, cm2, cm3, d1, d2, d3, d6, d0, d1', d2', d3', d6', d0', hj, hnv3, n6, n6b, n6c, n1, n1b, n1c, to_normal, to_exit, to_ret, -decide_eq_true_eq, -decide_eq_false_iff_not, -List.any_eq_true, -List.any_eq_false, -bne_iff_ne, -beq_iff_eq, -beq_eq_false_iff_ne, -bne_eq_false_iff_eq]
            exact fin (⟨at1 + 1, ws.set j v0, 0, 0, false⟩) _ _ _ hgo R' (hca rfl) (by simp [a3]) (by simp [a4]) (by simp [a6]) (by simp [a7]) (by simp [a2]) (by simp) (by simp [b0]) (by simp) (by simp [b2]) (by simp [b3]) (by simp [b4]) (by omega)
          rcases hk with rfl | hk
          · have hb1 := x9 (by decide)
            subst hb1
            obtain ⟨e1, e2⟩ := x5 (by decide)
            obtain ⟨j, rfl⟩ : ∃ j : Nat, to = j := ⟨to.toNat, by omega⟩
            have hst : stepR ⟨1, nm, (j : Int), wd, pv, []⟩ ⟨at1, ws, 0, 0, false⟩ = (⟨j, ws, 0, 0, false⟩, ⟨0, 0, []⟩) := by simp [stepR]
            rw [hst] at hgo R' hca
            rw [if_pos rfl] at hgo
            simp -implicitDefEqProofs [a2, a3, a4, a6, a7, a11, a12, a13, a14, b0, b1, b2, b3, b4, bc, w1, w2, w3, g1, g1', cm1, cm2, cm3, d1, d2, d3, d6, d0, d1', d2', d3', d6', d0', z0, to_normal, to_exit, to_ret, -decide_eq_true_eq, -decide_eq_false_iff_not, -List.any_eq_true, -List.any_eq_false, -bne_iff_ne, -beq_iff_eq, -beq_eq_false_iff_ne, -bne_eq_false_iff_eq]
            exact fin (⟨j, ws, 0, 0, false⟩) _ _ _ hgo R' (hca rfl) (by simp [a3]) (by simp [a4]) (by simp [a6]) (by simp [a7]) (by simp [a2]) (by simp) (by simp [b0]) (by simp) (by simp [b2]) (by simp [b3]) (by simp [b4]) (by omega)
          rcases hk with rfl | hk
          · have hb1 := x10 (by decide)
            obtain ⟨bd, rfl⟩ : ∃ bd, bodies = [bd] := List.length_eq_one_iff.1 hb1
            have hvals : valsP ws ⟨2, nm, to, wd, pv, [bd]⟩ = [evB ws bd] := rfl
            rw [hvals] at O
            generalize hv0 : evB ws bd = v0 at *
            obtain ⟨nv, hnv1, hnv2, hnv3, _⟩ := O.cut 0 (by simp)
            subst hnv1
            have hnv4 := hnv nv rfl
            have n6 : nv ≠ 6 := by omega
            have n6b : 6 ≠ nv := by omega
            have n6c : (nv != 6) = true := by simp; omega
            have n1 : nv ≠ 1 := by omega
            have n1b : 1 ≠ nv := by omega
            have n1c : (nv != 1) = true := by simp; omega
            simp only [nums, List.map_cons, List.map_nil] at hnv3
            obtain ⟨e1, e2⟩ := x5 (by decide)
            obtain ⟨j, rfl⟩ : ∃ j : Nat, to = j := ⟨to.toNat, by omega⟩
            by_cases hz : v0 = 0
            · have hst : stepR ⟨2, nm, (j : Int), wd, pv, [bd]⟩ ⟨at1, ws, 0, 0, false⟩ = (⟨j, ws, 0, 0, false⟩, ⟨0, 0, []⟩) := by simp [stepR, hv0, hz]
              have hz1 : (v0 == 0) = true := by simpa using hz
              rw [hst] at hgo R' hca
              rw [if_pos rfl] at hgo
              simp -implicitDefEqProofs [a2, a3, a4, a6, a7, a11, a12, a13, a14, b0, b1, b2, b3, b4, bc, w1, w2, w3, g1, g1', cm1, cm2, cm3, d1, d2, d3, d6, d0, d1', d2', d3', d6', d0', hz1, hnv3, n6, n6b, n6c, n1, n1b, n1c, to_normal, to_exit, to_ret, -decide_eq_true_eq, -decide_eq_false_iff_not, -List.any_eq_true, -List.any_eq_false, -bne_iff_ne, -beq_iff_eq, -beq_eq_false_iff_ne, -bne_eq_false_iff_eq]
              exact fin (⟨j, ws, 0, 0, false⟩) _ _ _ hgo R' (hca rfl) (by simp [a3]) (by simp [a4]) (by simp [a6]) (by simp [a7]) (by simp [a2]) (by simp) (by simp [b0]) (by simp) (by simp [b2]) (by simp [b3]) (by simp [b4]) (by omega)
            · have hst : stepR ⟨2, nm, (j : Int), wd, pv, [bd]⟩ ⟨at1, ws, 0, 0, false⟩ = (⟨at1 + 1, ws, 0, 0, false⟩, ⟨0, 0, []⟩) := by simp [stepR, hv0, hz]
              have hz1 : (v0 == 0) = false := by simpa using hz
              rw [hst] at hgo R' hca
              rw [if_pos rfl] at hgo
              simp -implicitDefEqProofs [a2, a3, a4, a6, a7, a11, a12, a13, a14, b0, b1, b2, b3, b4, bc, w1, w2, w3, g1, g1', cm1, cm2, cm3, d1, d2, d3, d6, d0, d1', d2', d3', d6', d0', hz1, hnv3, n6, n6b, n6c, n1, n1b, n1c, to_normal, to_exit, to_ret, -decide_eq_true_eq, -decide_eq_false_iff_not, -List.any_eq_true, -List.any_eq_false, -bne_iff_ne, -beq_iff_eq, -beq_eq_false_iff_ne, -bne_eq_false_iff_eq]
              exact fin (⟨at1 + 1, ws, 0, 0, false⟩) _ _ _ hgo R' (hca rfl) (by simp [a3]) (by simp [a4]) (by simp [a6]) (by simp [a7]) (by simp [a2]) (by simp) (by simp [b0]) (by simp) (by simp [b2]) (by simp [b3]) (by simp [b4]) (by omega)
          rcases hk with rfl | hk
          · have hst : stepR ⟨3, nm, to, wd, pv, bodies⟩ ⟨at1, ws, 0, 0, false⟩ = (⟨at1 + 1, ws, 0, 1, false⟩, ⟨1, wd, valsP ws ⟨3, nm, to, wd, pv, bodies⟩⟩) := by simp [stepR]
            rw [hst] at hgo
            generalize valsP ws ⟨3, nm, to, wd, pv, bodies⟩ = vals at *
            rw [if_neg (by simp)] at hgo
            subst hgo
            have hvn : ∀ m, AM.nm v = some m → m ≠ 2 ∧ m ≠ 3 ∧ m ≠ 1 := fun m hm => by have := hnv m hm; omega
            have Ofr : ∀ h2 : Heap, (∀ m, m ≠ 1 → m ≠ 2 → m ≠ 3 → h2 m = h m) → OutG 1 3 h2 c3 v (nums vals) := fun h2 hh => O.frame (Nat.le_refl _) fun m hm _ => by obtain ⟨q1, q2, q3⟩ := hvn m hm; exact hh m q3 q1 q2
            simp -implicitDefEqProofs [a2, a3, a4, a6, a7, a11, a12, a13, a14, b0, b1, b2, b3, b4, bc, w1, w2, w3, g1, g1', cm1, cm2, cm3, d1, d2, d3, d6, d0, d1', d2', d3', d6', d0', p1, p2, p3, p4, to_normal, to_exit, to_ret, -decide_eq_true_eq, -decide_eq_false_iff_not, -List.any_eq_true, -List.any_eq_false, -bne_iff_ne, -beq_iff_eq, -beq_eq_false_iff_ne, -bne_eq_false_iff_eq]
            exact ⟨rfl, by simp [a6], by simp [a7], by simp, by simp, by simp, ⟨v, by simp, Ofr _ fun m q1 q2 q3 => by simp [q1, q2, q3]⟩, by simp [b4]⟩
          rcases hk with rfl | hk
          · have hst : stepR ⟨4, nm, to, wd, pv, bodies⟩ ⟨at1, ws, 0, 0, false⟩ = (⟨at1 + 1, ws, 0, 2, false⟩, ⟨2, wd, valsP ws ⟨4, nm, to, wd, pv, bodies⟩⟩) := by simp [stepR]
            rw [hst] at hgo
            generalize valsP ws ⟨4, nm, to, wd, pv, bodies⟩ = vals at *
            rw [if_neg (by simp)] at hgo
            subst hgo
            have hvn : ∀ m, AM.nm v = some m → m ≠ 2 ∧ m ≠ 3 ∧ m ≠ 1 := fun m hm => by have := hnv m hm; omega
            have Ofr : ∀ h2 : Heap, (∀ m, m ≠ 1 → m ≠ 2 → m ≠ 3 → h2 m = h m) → OutG 1 3 h2 c3 v (nums vals) := fun h2 hh => O.frame (Nat.le_refl _) fun m hm _ => by obtain ⟨q1, q2, q3⟩ := hvn m hm; exact hh m q3 q1 q2
            simp -implicitDefEqProofs [a2, a3, a4, a6, a7, a11, a12, a13, a14, b0, b1, b2, b3, b4, bc, w1, w2, w3, g1, g1', cm1, cm2, cm3, d1, d2, d3, d6, d0, d1', d2', d3', d6', d0', p1, p2, p3, p4, to_normal, to_exit, to_ret, -decide_eq_true_eq, -decide_eq_false_iff_not, -List.any_eq_true, -List.any_eq_false, -bne_iff_ne, -beq_iff_eq, -beq_eq_false_iff_ne, -bne_eq_false_iff_eq]
            exact ⟨rfl, by simp [a6], by simp [a7], by simp, by simp, by simp, ⟨v, by simp, Ofr _ fun m q1 q2 q3 => by simp [q1, q2, q3]⟩, by simp [b4]⟩
          rcases hk with rfl | hk
          · have hb1 := x10 (by decide)
            obtain ⟨bd, rfl⟩ : ∃ bd, bodies = [bd] := List.length_eq_one_iff.1 hb1
            have hvals : valsP ws ⟨5, nm, to, wd, pv, [bd]⟩ = [evB ws bd] := rfl
            rw [hvals] at O
            generalize hv0 : evB ws bd = v0 at *
            obtain ⟨nv, hnv1, hnv2, hnv3, _⟩ := O.cut 0 (by simp)
            subst hnv1
            have hnv4 := hnv nv rfl
            have n6 : nv ≠ 6 := by omega
            have n6b : 6 ≠ nv := by omega
            have n6c : (nv != 6) = true := by simp; omega
            have n1 : nv ≠ 1 := by omega
            have n1b : 1 ≠ nv := by omega
            have n1c : (nv != 1) = true := by simp; omega
            simp only [nums, List.map_cons, List.map_nil] at hnv3
            by_cases hz : 0 < v0
            · have hst : stepR ⟨5, nm, to, wd, pv, [bd]⟩ ⟨at1, ws, 0, 0, false⟩ = (⟨at1 + 1, ws, if 1000000 < v0 then 1000000 else v0, 0, false⟩, ⟨3, 0, []⟩) := by simp [stepR, hv0, hz]
              have hz1 : decide (0 < v0) = true := by simpa using hz
              rw [hst] at hgo
              rw [if_neg (by simp)] at hgo
              subst hgo
              simp -implicitDefEqProofs [a2, a3, a4, a6, a7, a11, a12, a13, a14, b0, b1, b2, b3, b4, bc, w1, w2, w3, g1, g1', cm1, cm2, cm3, d1, d2, d3, d6, d0, d1', d2', d3', d6', d0', hz1, hnv3, n6, n6b, n6c, n1, n1b, n1c, to_normal, to_exit, to_ret, -decide_eq_true_eq, -decide_eq_false_iff_not, -List.any_eq_true, -List.any_eq_false, -bne_iff_ne, -beq_iff_eq, -beq_eq_false_iff_ne, -bne_eq_false_iff_eq]
              exact ⟨rfl, by simp [a6], by simp [a7], by simp, by simp, by simp, ⟨.ro true [], by simp, .inl ⟨rfl, rfl⟩⟩, by simp [b4]⟩
            · have hst : stepR ⟨5, nm, to, wd, pv, [bd]⟩ ⟨at1, ws, 0, 0, false⟩ = (⟨at1 + 1, ws, 0, 0, false⟩, ⟨0, 0, []⟩) := by simp [stepR, hv0, hz]
              have hz1 : decide (0 < v0) = false := by simpa using hz
              rw [hst] at hgo R' hca
              rw [if_pos rfl] at hgo
              simp -implicitDefEqProofs [a2, a3, a4, a6, a7, a11, a12, a13, a14, b0, b1, b2, b3, b4, bc, w1, w2, w3, g1, g1', cm1, cm2, cm3, d1, d2, d3, d6, d0, d1', d2', d3', d6', d0', hz1, hnv3, n6, n6b, n6c, n1, n1b, n1c, to_normal, to_exit, to_ret, -decide_eq_true_eq, -decide_eq_false_iff_not, -List.any_eq_true, -List.any_eq_false, -bne_iff_ne, -beq_iff_eq, -beq_eq_false_iff_ne, -bne_eq_false_iff_eq]
              exact fin (⟨at1 + 1, ws, 0, 0, false⟩) _ _ _ hgo R' (hca rfl) (by simp [a3]) (by simp [a4]) (by simp [a6]) (by simp [a7]) (by simp [a2]) (by simp) (by simp [b0]) (by simp) (by simp [b2]) (by simp [b3]) (by simp [b4]) (by omega)
          subst hk
          have hb1 := x9 (by decide)
          subst hb1
          have hst : stepR ⟨6, nm, to, wd, pv, []⟩ ⟨at1, ws, 0, 0, false⟩ = (⟨at1 + 1, ws, 0, 0, true⟩, ⟨4, 0, []⟩) := by simp [stepR]
          rw [hst] at hgo
          rw [if_neg (by simp)] at hgo
          subst hgo
          simp -implicitDefEqProofs [a2, a3, a4, a6, a7, a11, a12, a13, a14, b0, b1, b2, b3, b4, bc, w1, w2, w3, g1, g1', cm1, cm2, cm3, d1, d2, d3, d6, d0, d1', d2', d3', d6', d0', z0, to_normal, to_exit, to_ret, -decide_eq_true_eq, -decide_eq_false_iff_not, -List.any_eq_true, -List.any_eq_false, -bne_iff_ne, -beq_iff_eq, -beq_eq_false_iff_ne, -bne_eq_false_iff_eq]
          exact ⟨rfl, by simp [a6], by simp [a7], by simp, by simp, by simp, ⟨.ro true [], by simp, .inl ⟨rfl, rfl⟩⟩, by simp [b4]⟩
        · exact ⟨0, .ro true [], by simp, by simp, ⟨by simp [a3], by simp [a4], by simp [a6], by simp [a7], by simp [a2], by simp [a11], by simp [d0', b0], by simp [d1', b1], by simp [d2', b2], by simp [d3', b3], by simp [d6', b4], by simp only; omega⟩, by simp, by simp [sumL], by simp, by simp, by simp [hrow], .inl ⟨rfl, by simp⟩, by omega, by simp, fun m hm => by cases hm⟩
    · rintro e ⟨t, h, c⟩ ⟨rfl, a6, a7, a8, a9, b2, ⟨v, b3, O⟩, b4⟩
      simp only at a6 a7 a8 a9 b2 b3 b4 O
      obtain ⟨b, fb, _⟩ := frz_nums (n := 8) O
      obtain ⟨p1, p2, p3⟩ := O.nopan
      simp -implicitDefEqProofs [a6, a7, a8, a9, b2, b3, b4, p1, p2, p3, -decide_eq_true_eq, -decide_eq_false_iff_not, -List.any_eq_true, -List.any_eq_false, -bne_iff_ne, -beq_iff_eq, -beq_eq_false_iff_ne, -bne_eq_false_iff_eq]
      refine ⟨6, b, .agg [I RES.2.1.k, I RES.2.1.w, v], h, c, rfl, b4, ?_⟩
      rw [frz_agg]
      simp only [List.mapM_cons, List.mapM_nil, fb]
      rfl
    · exact ⟨tN + 1, 0, ⟨at0, vs, 0, 0, false⟩, rfl, by omega, by omega, hRES.symm, R, hcalm', by simp, by simp, by simp, by simp, by simp, by simp, by simp [f0], by simp, by simp [f2], by simp [f3], by simp [b4], hc1⟩
end
end Go.Proofs.YtmpcjfkfgjpebaaGreatDoor.AM
namespace Go.Proofs.YtmpcjfkfgjpebaaGreatDoor.AM
open Go Go.Proofs
attribute [local simp] fieldAddrA ld setCells stA skipV appendA hd makeA bnd kindA freshA killOk loadsAt edgesOn Region.binds newT empT lay_get allocA buildA buildRow lenA els indexAddrA isNil opA evA lit_int lit_bool lit_nil lit_nilf yldA binI unA pickA boolV intV fieldA mk eqs nilC mayP
section
variable {nb cb : Bool} {names : List Str} {code : List Ln} {r : Rn}
theorem frz_rnO {R : Rn} {n : Nat} {h' : Heap} (hn : h' n = some ⟨1, nums R.vs, some 3⟩) : frz h' 11 (.agg [I R.at_, .sl n 1 0 R.vs.length, I R.x, I R.y, B R.z]) = some R.av := by
  have h1 : frz h' 10 (.sl n 1 0 R.vs.length) = some (.ro false (nums R.vs)) := by
    have hel : els h' (.sl n 1 0 R.vs.length) = some (nums R.vs) := by
      simp only [els, hn, Option.bind_some, List.drop_zero, Nat.zero_add]
      rw [List.take_of_length_le (by simp)]
      simp
    show ((els h' (.sl n 1 0 R.vs.length)).bind fun es => (es.mapM fun (e : List AV) => e.mapM (frz h' 9)).map (AV.ro false)) = some (AV.ro false (nums R.vs))
    rw [hel, Option.bind_some, frzN]
    rfl
  rw [frz_agg]
  simp only [List.mapM_cons, List.mapM_nil, h1]
  rfl
theorem go_frz {R : Rn} {E' : Ev} {S' : Nat} {o : Option (AV × Heap × Nat)} (H : GoO R E' S' o) : ∃ (b : Bool) (v : AV) (h' : Heap) (c' : Nat), o = some (v, h', c') ∧ frz h' depth v = some (.tup [R.av, E'.av b, I S', E 0]) := by
  obtain ⟨n, b, x, h', c', e, hn, hx⟩ := H
  refine ⟨b, _, h', c', e, ?_⟩
  show (([.agg [I R.at_, .sl n 1 0 R.vs.length, I R.x, I R.y, B R.z], x, I S', E 0] : List AV).mapM (frz h' 11)).map AV.tup = _
  simp only [List.mapM_cons, List.mapM_nil, frz_rnO hn, hx]
  rfl
theorem go_c (F : FrzC code) (V : ValidP names code) (R : RunOk names code r) (tN : Nat) (ht : tN ≤ 100000) : ∃ b, ∀ h c, callA mZ (run Tryz.prog mZ) 13 [progV nb cb names code, r.av, I tN] h c = some (.tup [(goF code tN r).1.av, (goF code tN r).2.1.av b, I (goF code tN r).2.2, E 0], h, c) := by
  obtain ⟨b, v, h', c', e, f⟩ := go_frz (go_ev (nb := nb) (cb := cb) F V R tN ht)
  exact ⟨b, fun h c => call_fz rfl rfl rfl e f⟩
theorem rgo_c (F : FrzC code) (V : ValidP names code) (R : RunOk names code r) (tN : Nat) (ht : tN ≤ 100000) : ∃ b, ∀ h c, callA mZ (run Tryz.prog mZ) 12 [progV nb cb names code, r.av, I tN] h c = some (.tup [(goF code tN r).1.av, (goF code tN r).2.1.av b, I (goF code tN r).2.2, E 0], h, c) := by
  obtain ⟨b, v, h', c', e, f⟩ := go_frz (rgo_ev (nb := nb) (cb := cb) F V R tN ht)
  exact ⟨b, fun h c => call_fz rfl rfl rfl e f⟩
abbrev badV : AV := .tup [.agg [I 0, .ro true [], I 0, I 0, B false], .agg [I 0, I 0, .ro true []], I 0, E 1]
theorem go_bad (F : FrzC code) (V : ValidP names code) (R : RunOk names code r) (t : Int) (ht : t < 0 ∨ 100000 < t) (h : Heap) (c : Nat) : callA mZ (run Tryz.prog mZ) 13 [progV nb cb names code, r.av, I t] h c = some (badV, h, c) := by
  have e33 := fun h c => fits_c (nb := nb) (cb := cb) F V R h c
  have key : ∃ h c, run Tryz.prog mZ 13 [progV nb cb names code, r.av, I t] Heap.none 0 = some (badV, h, c) := by
    rw [run_eq (show mZ 13 = some .pure from rfl) rfl, Tryz.func13]
    cases g : decide (t < 0)
    · have g2 : decide (100000 < t) = true := by simp at g ⊢; omega
      simp -implicitDefEqProofs [Tryz.f13, e33, g, g2, -decide_eq_true_eq, -decide_eq_false_iff_not, -List.any_eq_true, -List.any_eq_false, -bne_iff_ne, -beq_iff_eq, -beq_eq_false_iff_ne, -bne_eq_false_iff_eq]
    · simp -implicitDefEqProofs [Tryz.f13, e33, g, -decide_eq_true_eq, -decide_eq_false_iff_not, -List.any_eq_true, -List.any_eq_false, -bne_iff_ne, -beq_iff_eq, -beq_eq_false_iff_ne, -bne_eq_false_iff_eq]
  obtain ⟨h', c', e⟩ := key
  exact call_fz rfl rfl rfl e rfl
theorem rgo_bad (F : FrzC code) (V : ValidP names code) (R : RunOk names code r) (t : Int) (ht : t < 0 ∨ 100000 < t) (h : Heap) (c : Nat) : callA mZ (run Tryz.prog mZ) 12 [progV nb cb names code, r.av, I t] h c = some (badV, h, c) := by
  have e28 := fun h c => rvalidate_c (nb := nb) (cb := cb) F V h c
  have e29 := fun h c => rfits_c (nb := nb) (cb := cb) F V R h c
  have e30 := fun n a b h c => outq_c n a b h c
  have q1 : outB t 0 100000 = true := by
    unfold outB
    simp
    omega
  have key : ∃ h c, run Tryz.prog mZ 12 [progV nb cb names code, r.av, I t] Heap.none 0 = some (badV, h, c) := by
    rw [run_eq (show mZ 12 = some .pure from rfl) rfl, Tryz.func12]
    simp -implicitDefEqProofs [Tryz.f12, e28, e29, e30, q1, -decide_eq_true_eq, -decide_eq_false_iff_not, -List.any_eq_true, -List.any_eq_false, -bne_iff_ne, -beq_iff_eq, -beq_eq_false_iff_ne, -bne_eq_false_iff_eq]
  obtain ⟨h', c', e⟩ := key
  exact call_fz rfl rfl rfl e rfl
/-- A tick. -/
def tickR (r : Rn) : Rn := { r with x := if 0 < r.x - 1 then r.x - 1 else 0 }
theorem tick_ok (R : RunOk names code r) : RunOk names code (tickR r) := by
  obtain ⟨a, b, c, d⟩ := R
  refine ⟨a, b, c, ?_⟩
  obtain ⟨at0, vs, x, y, z⟩ := r
  simp only [tickR] at d ⊢
  rcases d with ⟨rfl, rfl, rfl⟩ | ⟨rfl, rfl, rfl, hz⟩ | ⟨rfl, hx1, hx2, rfl, hb⟩ | ⟨rfl, rfl, rfl, hb⟩ | ⟨rfl, rfl, rfl, hb⟩
  · exact .inl ⟨rfl, rfl, rfl⟩
  · exact .inr (.inl ⟨rfl, rfl, rfl, hz⟩)
  · split
    · exact .inr (.inr (.inl ⟨rfl, by omega, by omega, rfl, hb⟩))
    · exact .inl ⟨rfl, rfl, rfl⟩
  · exact .inr (.inr (.inr (.inl ⟨rfl, rfl, rfl, hb⟩)))
  · exact .inr (.inr (.inr (.inr ⟨rfl, rfl, rfl, hb⟩)))
theorem RunOk.x_le (R : RunOk names code r) : 0 ≤ r.x ∧ r.x ≤ 1000000 := by
  rcases R.md with ⟨_, h, _⟩ | ⟨_, h, _⟩ | ⟨_, h1, h2, _⟩ | ⟨_, h, _⟩ | ⟨_, h, _⟩ <;> omega
theorem vs_ne (V : ValidP names code) (R : RunOk names code r) : r.vs ≠ [] := fun e => by
  have hp := (List.getElem?_eq_some_iff.1 V.res).1
  have hvl := R.vl
  rw [e] at hvl
  simp at hvl
  omega
theorem clone4 (V : ValidP names code) (R : RunOk names code r) (h : Heap) (q : Nat) : ∃ h' c', callA mZ (run Tryz.prog mZ) 34 [.ro false (nums r.vs)] h q = some (.sl q 1 0 r.vs.length, h', c') ∧ h' q = some ⟨1, nums r.vs, some 3⟩ ∧ q + 1 ≤ c' ∧ (∀ j, j < q → h' j = h j) := by
  have hne := vs_ne V R
  have hvl := R.vl
  have hn16 := V.n16
  obtain ⟨v', h', c', e, RV, hc, hf, hs⟩ := clone_c (h := h) (c := q) (x := .ro false (nums r.vs)) (l := r.vs) (by omega) (.inr (.inl rfl))
  have hv := hs hne
  subst hv
  rcases RV with ⟨h1, _⟩ | ⟨n, h1, h2, h3⟩
  · exact absurd h1 hne
  · simp at h1
    subst h1
    exact ⟨h', c', e, h3, by omega, hf⟩
/-- A run beside an answer, in its own memory. -/
def GvO (R : Rn) (o : Option (AV × Heap × Nat)) : Prop := ∃ (n : Nat) (h' : Heap) (c' : Nat), o = some (.tup [.agg [I R.at_, .sl n 1 0 R.vs.length, I R.x, I R.y, B R.z], E 0], h', c') ∧ h' n = some ⟨1, nums R.vs, some 3⟩
theorem gv_frz {R : Rn} {o : Option (AV × Heap × Nat)} (H : GvO R o) : ∃ (v : AV) (h' : Heap) (c' : Nat), o = some (v, h', c') ∧ frz h' depth v = some (.tup [R.av, E 0]) := by
  obtain ⟨n, h', c', e, hn⟩ := H
  refine ⟨_, h', c', e, ?_⟩
  show (([.agg [I R.at_, .sl n 1 0 R.vs.length, I R.x, I R.y, B R.z], E 0] : List AV).mapM (frz h' 11)).map AV.tup = _
  simp only [List.mapM_cons, List.mapM_nil, frz_rnO hn]
  rfl
theorem tick_ev (F : FrzC code) (V : ValidP names code) (R : RunOk names code r) : GvO (tickR r) (run Tryz.prog mZ 18 [progV nb cb names code, r.av] Heap.none 0) := by
  rw [run_eq (show mZ 18 = some .pure from rfl) rfl, Tryz.func18]
  have e33 := fun h c => fits_c (nb := nb) (cb := cb) F V R h c
  have hx := R.x_le
  obtain ⟨h1, c1, e34, b4, hc1, hf⟩ := clone4 V R (((Heap.none.put 0 (some (pgB nb cb names code))).put 1 (some ⟨5, [[I r.at_, .ro false (nums r.vs), I r.x, I r.y, B r.z]], some 32⟩)).put 2 (some ⟨5, [[I 0, .ro true [], I 0, I 0, B false]], some 32⟩)) 3
  have f0 := hf 0 (by omega)
  have f1 := hf 1 (by omega)
  have f2 := hf 2 (by omega)
  simp at f0 f1 f2
  obtain ⟨at0, vs, x, y, z⟩ := r
  simp only at e34 b4 f1 hx ⊢
  have w1 : IntKind.i64.wrap (x - 1) = x - 1 := wrap_id (by omega) (by omega)
  have e : (if 0 > x - 1 then 0 else x - 1) = (if 0 < x - 1 then x - 1 else 0) := by split <;> split <;> omega
  have e' : (if x - 1 < 0 then 0 else x - 1) = (if 0 < x - 1 then x - 1 else 0) := by split <;> split <;> omega
  simp -implicitDefEqProofs [Tryz.f18, e33, e34, f0, f1, f2, b4, w1, e, e', tickR, -decide_eq_true_eq, -decide_eq_false_iff_not, -List.any_eq_true, -List.any_eq_false, -bne_iff_ne, -beq_iff_eq, -beq_eq_false_iff_ne, -bne_eq_false_iff_eq]
  exact ⟨3, _, _, rfl, by simp [b4]⟩
theorem rtick_ev (F : FrzC code) (V : ValidP names code) (R : RunOk names code r) : GvO (tickR r) (run Tryz.prog mZ 19 [progV nb cb names code, r.av] Heap.none 0) := by
  rw [run_eq (show mZ 19 = some .pure from rfl) rfl, Tryz.func19]
  have e28 := fun h c => rvalidate_c (nb := nb) (cb := cb) F V h c
  have e29 := fun h c => rfits_c (nb := nb) (cb := cb) F V R h c
  have hx := R.x_le
  have hvl := R.vl
  have hn16 := V.n16
  obtain ⟨h1, c1, e31, b4, hc1, hf⟩ := copy_c (vs_ne V R) (by omega) (((Heap.none.put 0 (some (pgB nb cb names code))).put 1 (some ⟨5, [[I r.at_, .ro false (nums r.vs), I r.x, I r.y, B r.z]], some 32⟩)).put 2 (some ⟨5, [[I 0, .ro true [], I 0, I 0, B false]], some 32⟩)) 3
  have f0 := hf 0 (by omega)
  have f1 := hf 1 (by omega)
  have f2 := hf 2 (by omega)
  simp at f0 f1 f2
  obtain ⟨at0, vs, x, y, z⟩ := r
  simp only at e31 b4 f1 hx ⊢
  have b4 : h1 5 = some ⟨1, nums vs, some 3⟩ := b4
  have w1 : IntKind.i64.wrap (x - 1) = x - 1 := wrap_id (by omega) (by omega)
  simp -implicitDefEqProofs [Tryz.f19, e28, e29, e31, f0, f1, f2, b4, w1, tickR, -decide_eq_true_eq, -decide_eq_false_iff_not, -List.any_eq_true, -List.any_eq_false, -bne_iff_ne, -beq_iff_eq, -beq_eq_false_iff_ne, -bne_eq_false_iff_eq]
  exact ⟨5, _, _, rfl, by simp [b4]⟩
theorem tick_c (F : FrzC code) (V : ValidP names code) (R : RunOk names code r) (h : Heap) (c : Nat) : callA mZ (run Tryz.prog mZ) 18 [progV nb cb names code, r.av] h c = some (.tup [(tickR r).av, E 0], h, c) := by
  obtain ⟨v, h', c', e, f⟩ := gv_frz (tick_ev (nb := nb) (cb := cb) F V R)
  exact call_fz rfl rfl rfl e f
theorem rtick_c (F : FrzC code) (V : ValidP names code) (R : RunOk names code r) (h : Heap) (c : Nat) : callA mZ (run Tryz.prog mZ) 19 [progV nb cb names code, r.av] h c = some (.tup [(tickR r).av, E 0], h, c) := by
  obtain ⟨v, h', c', e, f⟩ := gv_frz (rtick_ev (nb := nb) (cb := cb) F V R)
  exact call_fz rfl rfl rfl e f
end
end Go.Proofs.YtmpcjfkfgjpebaaGreatDoor.AM
namespace Go.Proofs.YtmpcjfkfgjpebaaGreatDoor.AM
open Go Go.Proofs
attribute [local simp] fieldAddrA ld setCells stA skipV appendA hd makeA bnd kindA freshA killOk loadsAt edgesOn Region.binds newT empT lay_get allocA buildA buildRow lenA els indexAddrA isNil opA evA lit_int lit_bool lit_nil lit_nilf yldA binI unA pickA boolV intV fieldA mk eqs nilC mayP
section
variable {nb cb : Bool} {names : List Str} {code : List Ln} {r : Rn}
/-- A number given. -/
def giveR (code : List Ln) (r : Rn) (v : Int) : Rn := { r with vs := r.vs.set (if r.y = 1 then 0 else (((code[r.at_ - 1]?).map Ln.nm).getD 0).toNat) (kept v), y := 0 }
theorem give_ok (R : RunOk names code r) (hy : r.y ≠ 0) (v : Int) : RunOk names code (giveR code r v) := by
  obtain ⟨a, b, c, d⟩ := R
  refine ⟨a, by simp [giveR, b], set_okV c (kept_in v), ?_⟩
  obtain ⟨at0, vs, x, y, z⟩ := r
  simp only [giveR] at d hy ⊢
  rcases d with ⟨rfl, rfl, rfl⟩ | ⟨rfl, rfl, rfl, hz⟩ | ⟨rfl, hx1, hx2, rfl, hb⟩ | ⟨rfl, rfl, rfl, hb⟩ | ⟨rfl, rfl, rfl, hb⟩
  · exact absurd rfl hy
  · exact absurd rfl hy
  · exact absurd rfl hy
  · exact .inl ⟨rfl, rfl, rfl⟩
  · exact .inl ⟨rfl, rfl, rfl⟩
theorem give_ev (F : FrzC code) (V : ValidP names code) (R : RunOk names code r) (hy : r.y ≠ 0) (v : Int) : GvO (giveR code r v) (run Tryz.prog mZ 16 [progV nb cb names code, r.av, I v] Heap.none 0) := by
  rw [run_eq (show mZ 16 = some .pure from rfl) rfl, Tryz.func16]
  have e33 := fun h c => fits_c (nb := nb) (cb := cb) F V R h c
  have e38 := fun h c => skept_c v h c
  obtain ⟨h1, c1, e34, b4, hc1, hf⟩ := clone4 V R (((Heap.none.put 0 (some (pgB nb cb names code))).put 1 (some ⟨5, [[I r.at_, .ro false (nums r.vs), I r.x, I r.y, B r.z]], some 32⟩)).put 2 (some ⟨5, [[I 0, .ro true [], I 0, I 0, B false]], some 32⟩)) 3
  have f0 := hf 0 (by omega)
  have f1 := hf 1 (by omega)
  have f2 := hf 2 (by omega)
  simp at f0 f1 f2
  have hne := vs_ne V R
  have ha := R.a
  have hvl := R.vl
  have hmd := R.md
  have hc2 := V.c200
  obtain ⟨at0, vs, x, y, z⟩ := r
  simp only at e34 b4 f1 hy hne ha hvl hmd ⊢
  have hl0 : 0 < vs.length := by cases vs with | nil => exact absurd rfl hne | cons => simp
  rcases hmd with ⟨rfl, rfl, rfl⟩ | ⟨rfl, rfl, rfl, hz⟩ | ⟨rfl, hx1, hx2, rfl, hb⟩ | ⟨rfl, rfl, rfl, hb⟩ | ⟨rfl, rfl, rfl, hb⟩
  · exact absurd rfl hy
  · exact absurd rfl hy
  · exact absurd rfl hy
  · simp -implicitDefEqProofs [Tryz.f16, e33, e34, e38, f0, f1, f2, b4, hl0, giveR, -decide_eq_true_eq, -decide_eq_false_iff_not, -List.any_eq_true, -List.any_eq_false, -bne_iff_ne, -beq_iff_eq, -beq_eq_false_iff_ne, -bne_eq_false_iff_eq]
    exact ⟨3, _, _, by simp only [List.length_set]; rfl, by simp [b4]⟩
  · have hn0 : at0 ≠ 0 := fun e => by rw [e] at hb; simp [behP] at hb
    obtain ⟨l, hl⟩ : ∃ l, code[at0 - 1]? = some l := ⟨code[at0 - 1], by simp⟩
    have hk : l.kind = 4 := by
      rw [← hb]
      unfold behP
      rw [if_neg hn0, hl]
      rfl
    obtain ⟨bb, hv⟩ := F l (List.mem_of_getElem? hl)
    have hr := row_ro hv
    obtain ⟨d1, d2⟩ := (V.lns l (List.mem_of_getElem? hl)).2.2.1 (.inr hk)
    have w1 : IntKind.i64.wrap ((at0 : Int) - 1) = ((at0 - 1 : Nat) : Int) := by rw [wrap_id (by omega) (by omega)]; omega
    obtain ⟨j, hj⟩ : ∃ j : Nat, l.nm = j := ⟨l.nm.toNat, by omega⟩
    have hjl : j < vs.length := by omega
    rw [hj] at hr
    have hg : giveR code ⟨at0, vs, 0, 2, false⟩ v = ⟨at0, vs.set j (kept v), 0, 0, false⟩ := by simp [giveR, hl, hj]
    rw [hg]
    simp -implicitDefEqProofs [Tryz.f16, e33, e34, e38, f0, f1, f2, b4, hl, hr, w1, hjl, -decide_eq_true_eq, -decide_eq_false_iff_not, -List.any_eq_true, -List.any_eq_false, -bne_iff_ne, -beq_iff_eq, -beq_eq_false_iff_ne, -bne_eq_false_iff_eq]
    exact ⟨3, _, _, by simp only [List.length_set]; rfl, by simp [b4]⟩
theorem rgive_ev (F : FrzC code) (V : ValidP names code) (R : RunOk names code r) (hy : r.y ≠ 0) (v : Int) : GvO (giveR code r v) (run Tryz.prog mZ 17 [progV nb cb names code, r.av, I v] Heap.none 0) := by
  rw [run_eq (show mZ 17 = some .pure from rfl) rfl, Tryz.func17]
  have e28 := fun h c => rvalidate_c (nb := nb) (cb := cb) F V h c
  have e29 := fun h c => rfits_c (nb := nb) (cb := cb) F V R h c
  have e39 := fun h c => bound_c v h c
  have hvl := R.vl
  have hn16 := V.n16
  obtain ⟨h1, c1, e31, b4, hc1, hf⟩ := copy_c (vs_ne V R) (by omega) (((Heap.none.put 0 (some (pgB nb cb names code))).put 1 (some ⟨5, [[I r.at_, .ro false (nums r.vs), I r.x, I r.y, B r.z]], some 32⟩)).put 2 (some ⟨5, [[I 0, .ro true [], I 0, I 0, B false]], some 32⟩)) 3
  have f0 := hf 0 (by omega)
  have f1 := hf 1 (by omega)
  have f2 := hf 2 (by omega)
  simp at f0 f1 f2
  have hne := vs_ne V R
  have ha := R.a
  have hmd := R.md
  have hc2 := V.c200
  obtain ⟨at0, vs, x, y, z⟩ := r
  simp only at e31 b4 f1 hy hne ha hvl hmd ⊢
  have b4 : h1 5 = some ⟨1, nums vs, some 3⟩ := b4
  have hl0 : 0 < vs.length := by cases vs with | nil => exact absurd rfl hne | cons => simp
  rcases hmd with ⟨rfl, rfl, rfl⟩ | ⟨rfl, rfl, rfl, hz⟩ | ⟨rfl, hx1, hx2, rfl, hb⟩ | ⟨rfl, rfl, rfl, hb⟩ | ⟨rfl, rfl, rfl, hb⟩
  · exact absurd rfl hy
  · exact absurd rfl hy
  · exact absurd rfl hy
  · simp -implicitDefEqProofs [Tryz.f17, e28, e29, e31, e39, f0, f1, f2, b4, hl0, giveR, -decide_eq_true_eq, -decide_eq_false_iff_not, -List.any_eq_true, -List.any_eq_false, -bne_iff_ne, -beq_iff_eq, -beq_eq_false_iff_ne, -bne_eq_false_iff_eq]
    exact ⟨5, _, _, by simp only [List.length_set]; rfl, by simp [b4]⟩
  · have hn0 : at0 ≠ 0 := fun e => by rw [e] at hb; simp [behP] at hb
    obtain ⟨l, hl⟩ : ∃ l, code[at0 - 1]? = some l := ⟨code[at0 - 1], by simp⟩
    have hk : l.kind = 4 := by
      rw [← hb]
      unfold behP
      rw [if_neg hn0, hl]
      rfl
    obtain ⟨bb, hv⟩ := F l (List.mem_of_getElem? hl)
    have hr := row_ro hv
    obtain ⟨d1, d2⟩ := (V.lns l (List.mem_of_getElem? hl)).2.2.1 (.inr hk)
    have w1 : IntKind.i64.wrap ((at0 : Int) - 1) = ((at0 - 1 : Nat) : Int) := by rw [wrap_id (by omega) (by omega)]; omega
    obtain ⟨j, hj⟩ : ∃ j : Nat, l.nm = j := ⟨l.nm.toNat, by omega⟩
    have hjl : j < vs.length := by omega
    rw [hj] at hr
    have hg : giveR code ⟨at0, vs, 0, 2, false⟩ v = ⟨at0, vs.set j (kept v), 0, 0, false⟩ := by simp [giveR, hl, hj]
    rw [hg]
    simp -implicitDefEqProofs [Tryz.f17, e28, e29, e31, e39, f0, f1, f2, b4, hl, hr, w1, hjl, -decide_eq_true_eq, -decide_eq_false_iff_not, -List.any_eq_true, -List.any_eq_false, -bne_iff_ne, -beq_iff_eq, -beq_eq_false_iff_ne, -bne_eq_false_iff_eq]
    exact ⟨5, _, _, by simp only [List.length_set]; rfl, by simp [b4]⟩
theorem give_c (F : FrzC code) (V : ValidP names code) (R : RunOk names code r) (hy : r.y ≠ 0) (v : Int) (h : Heap) (c : Nat) : callA mZ (run Tryz.prog mZ) 16 [progV nb cb names code, r.av, I v] h c = some (.tup [(giveR code r v).av, E 0], h, c) := by
  obtain ⟨x, h', c', e, f⟩ := gv_frz (give_ev (nb := nb) (cb := cb) F V R hy v)
  exact call_fz rfl rfl rfl e f
theorem rgive_c (F : FrzC code) (V : ValidP names code) (R : RunOk names code r) (hy : r.y ≠ 0) (v : Int) (h : Heap) (c : Nat) : callA mZ (run Tryz.prog mZ) 17 [progV nb cb names code, r.av, I v] h c = some (.tup [(giveR code r v).av, E 0], h, c) := by
  obtain ⟨x, h', c', e, f⟩ := gv_frz (rgive_ev (nb := nb) (cb := cb) F V R hy v)
  exact call_fz rfl rfl rfl e f
end
/-! ### the same -/
theorem slist_ev (b1 b2 : Bool) (l : List Int) (hl : l.length ≤ 1000) : TOut (run Tryz.prog mZ 37 [.ro b1 (nums l), .ro b2 (nums l)] Heap.none 0) := by
  rw [run_eq (show mZ 37 = some .pure from rfl) rfl, Tryz.func37]
  have g0 : ((l.length : Int) != (l.length : Int)) = false := by simp
  simp -implicitDefEqProofs [Tryz.f37, g0, Option.bind_assoc, -decide_eq_true_eq, -decide_eq_false_iff_not, -List.any_eq_true, -List.any_eq_false, -bne_iff_ne, -beq_iff_eq, -beq_eq_false_iff_ne, -bne_eq_false_iff_eq]
  refine loop_to (R := TOut) (fun k st => ∃ n : Nat, k = l.length - n ∧ st.t 0 = .ro b1 (nums l) ∧ st.t 1 = .ro b2 (nums l) ∧ st.t 5 = I n ∧ n ≤ l.length) (fun e st => e = .exit 0) ?_ ?_ l.length _ ?_
  · rintro k ⟨t, h, c⟩ ⟨n, rfl, a0, a1, a5, hn⟩
    simp only at a0 a1 a5
    by_cases g : n < l.length
    · have k1 : decide (n < l.length) = true := by simp [g]
      have k1' : decide ((n : Int) < (l.length : Int)) = true := by simp; omega
      obtain ⟨x, hx⟩ : ∃ x, l[n]? = some x := ⟨l[n], by simp [g]⟩
      have kn : IntKind.i64.wrap ((n : Int) + 1) = ((n + 1 : Nat) : Int) := wrap_succ (by omega)
      have gx : (x != x) = false := by simp
      simp -implicitDefEqProofs [a0, a1, a5, k1, k1', hx, gx, kn, to_normal, to_exit, to_ret, -decide_eq_true_eq, -decide_eq_false_iff_not, -List.any_eq_true, -List.any_eq_false, -bne_iff_ne, -beq_iff_eq, -beq_eq_false_iff_ne, -bne_eq_false_iff_eq]
      exact ⟨l.length - (n + 1), by omega, n + 1, rfl, by omega, by omega⟩
    · have k1 : decide (n < l.length) = false := by simp; omega
      have k1' : decide ((n : Int) < (l.length : Int)) = false := by simp; omega
      simp -implicitDefEqProofs [a0, a1, a5, k1, k1', to_normal, to_exit, to_ret, -decide_eq_true_eq, -decide_eq_false_iff_not, -List.any_eq_true, -List.any_eq_false, -bne_iff_ne, -beq_iff_eq, -beq_eq_false_iff_ne, -bne_eq_false_iff_eq]
  · rintro e ⟨t, h, c⟩ rfl
    simp -implicitDefEqProofs [-decide_eq_true_eq, -decide_eq_false_iff_not, -List.any_eq_true, -List.any_eq_false, -bne_iff_ne, -beq_iff_eq, -beq_eq_false_iff_ne, -bne_eq_false_iff_eq]
    exact ⟨_, _, rfl⟩
  · exact ⟨0, by simp, by simp, by simp, by simp, by simp⟩
theorem slist_c (b1 b2 : Bool) (l : List Int) (hl : l.length ≤ 1000) (h : Heap) (c : Nat) : callA mZ (run Tryz.prog mZ) 37 [.ro b1 (nums l), .ro b2 (nums l)] h c = some (B true, h, c) := by
  obtain ⟨h', c', e⟩ := slist_ev b1 b2 l hl
  exact call_of rfl rfl e rfl rfl
theorem srun_c (r : Rn) (hl : r.vs.length ≤ 1000) (h : Heap) (c : Nat) : callA mZ (run Tryz.prog mZ) 14 [r.av, r.av] h c = some (B true, h, c) := by
  have key : TOut (run Tryz.prog mZ 14 [r.av, r.av] Heap.none 0) := by
    rw [run_eq (show mZ 14 = some .pure from rfl) rfl, Tryz.func14]
    obtain ⟨at0, vs, x, y, z⟩ := r
    simp only at hl ⊢
    have e1 := fun h c => slist_c false false vs hl h c
    have g1 : ((at0 : Int) == (at0 : Int)) = true := by simp
    have g2 : (x == x) = true := by simp
    have g3 : (y == y) = true := by simp
    cases z <;> (simp -implicitDefEqProofs [Tryz.f14, e1, g1, g2, g3, -decide_eq_true_eq, -decide_eq_false_iff_not, -List.any_eq_true, -List.any_eq_false, -bne_iff_ne, -beq_iff_eq, -beq_eq_false_iff_ne, -bne_eq_false_iff_eq]; exact ⟨_, _, rfl⟩)
  obtain ⟨h', c', e⟩ := key
  exact call_of rfl rfl e rfl rfl
theorem sev_c (e : Ev) (b1 b2 : Bool) (hl : e.vals.length ≤ 1000) (h : Heap) (c : Nat) : callA mZ (run Tryz.prog mZ) 15 [e.av b1, e.av b2] h c = some (B true, h, c) := by
  have key : TOut (run Tryz.prog mZ 15 [e.av b1, e.av b2] Heap.none 0) := by
    rw [run_eq (show mZ 15 = some .pure from rfl) rfl, Tryz.func15]
    obtain ⟨k, w, vals⟩ := e
    simp only at hl ⊢
    have e1 := fun h c => slist_c b1 b2 vals hl h c
    have g1 : (k == k) = true := by simp
    have g2 : (w == w) = true := by simp
    simp -implicitDefEqProofs [Tryz.f15, e1, g1, g2, -decide_eq_true_eq, -decide_eq_false_iff_not, -List.any_eq_true, -List.any_eq_false, -bne_iff_ne, -beq_iff_eq, -beq_eq_false_iff_ne, -bne_eq_false_iff_eq]
    exact ⟨_, _, rfl⟩
  obtain ⟨h', c', e⟩ := key
  exact call_of rfl rfl e rfl rfl
theorem number_ev (b : Bool) (l : List Int) (hl : l.length ≤ 300) (i : Nat) (hi : i ≤ 1000) : ∃ (v : Int) (h : Heap) (c : Nat), run Tryz.prog mZ 11 [.ro b (nums l), I i] Heap.none 0 = some (I v, h, c) := by
  rw [run_eq (show mZ 11 = some .pure from rfl) rfl, Tryz.func11]
  by_cases h0 : l.length = 0
  · have g0 : ((l.length : Int) == 0) = true := by simp [h0]
    simp -implicitDefEqProofs [Tryz.f11, g0, -decide_eq_true_eq, -decide_eq_false_iff_not, -List.any_eq_true, -List.any_eq_false, -bne_iff_ne, -beq_iff_eq, -beq_eq_false_iff_ne, -bne_eq_false_iff_eq]
  · have g0 : ((l.length : Int) == 0) = false := by rw [beq_eq_false_iff_ne]; omega
    have hnil : ¬ l = [] := fun e => h0 (by simp [e])
    have g1 : ¬ (l.length : Int) = 0 := by simpa using h0
    have hm : i % l.length < l.length := Nat.mod_lt _ (by omega)
    have hmod : Int.tmod (i : Int) (l.length : Int) = ((i % l.length : Nat) : Int) := by
      rw [Int.tmod_eq_emod_of_nonneg (by omega)]
      rfl
    obtain ⟨x, hx⟩ : ∃ x, l[i % l.length]? = some x := ⟨l[i % l.length], by simp [hm]⟩
    have hcast : (i : Int) % (l.length : Int) = ((i % l.length : Nat) : Int) := rfl
    have hnn : (0 : Int) ≤ (i : Int) % (l.length : Int) := by rw [hcast]; omega
    have hto : ((i : Int) % (l.length : Int)).toNat = i % l.length := by rw [hcast]; exact Int.toNat_natCast _
    simp -implicitDefEqProofs [Tryz.f11, g0, g1, hnil, hmod, hnn, hto, hx, -decide_eq_true_eq, -decide_eq_false_iff_not, -List.any_eq_true, -List.any_eq_false, -bne_iff_ne, -beq_iff_eq, -beq_eq_false_iff_ne, -bne_eq_false_iff_eq]
theorem number_c (b : Bool) (l : List Int) (hl : l.length ≤ 300) (i : Nat) (hi : i ≤ 1000) : ∃ v : Int, ∀ h c, callA mZ (run Tryz.prog mZ) 11 [.ro b (nums l), I i] h c = some (I v, h, c) := by
  obtain ⟨v, h', c', e⟩ := number_ev b l hl i hi
  exact ⟨v, fun h c => call_of rfl rfl e rfl rfl⟩
end Go.Proofs.YtmpcjfkfgjpebaaGreatDoor.AM
namespace Go.Proofs.YtmpcjfkfgjpebaaGreatDoor.AM
open Go Go.Proofs
attribute [local simp] fieldAddrA ld setCells stA skipV appendA hd makeA bnd kindA freshA killOk loadsAt edgesOn Region.binds newT empT lay_get allocA buildA buildRow lenA els indexAddrA isNil opA evA lit_int lit_bool lit_nil lit_nilf yldA binI unA pickA boolV intV fieldA mk eqs nilC mayP
section
variable {nb cb : Bool} {names : List Str} {code : List Ln} {r : Rn}
theorem stepR_len {nn len : Nat} {l : Ln} (hL : LnP nn len l) (r : Rn) : (stepR l r).2.vals.length ≤ 6 := by
  have hb := hL.b6
  unfold stepR
  simp only
  split
  · simp
  split
  · simp
  split
  · simp
  split
  · simpa using hb
  split
  · simpa using hb
  split
  · split <;> simp
  · simp
theorem goP_len (V : ValidP names code) {t : Nat} : ∀ (f s : Nat) (r : Rn), (goP code t f s r).2.1.vals.length ≤ 6
  | 0, s, r => by simp [goP]
  | f + 1, s, r => by
    simp only [goP]
    cases hl : code[r.at_]? with
    | none => simp
    | some l =>
      simp only
      split
      · simp
      · split
        · exact goP_len V f _ _
        · exact stepR_len (V.lns l (List.mem_of_getElem? hl)) r
theorem goF_len (V : ValidP names code) (t : Nat) (r : Rn) : (goF code t r).2.1.vals.length ≤ 6 := by
  unfold goF
  split
  · exact goP_len V _ _ _
  · simp
abbrev zR : AV := .agg [I 0, .ro true [], I 0, I 0, B false]
abbrev zE : AV := .agg [I 0, I 0, .ro true []]
theorem bad14 : (callN Tryz.prog mZ 40 14 [zR, zR] Heap.none 0).map (·.1) = some (B true) := by kernel_rfl
theorem bad15 : (callN Tryz.prog mZ 40 15 [zE, zE] Heap.none 0).map (·.1) = some (B true) := by kernel_rfl
theorem bad14_c (h : Heap) (c : Nat) : callA mZ (run Tryz.prog mZ) 14 [zR, zR] h c = some (B true, h, c) := by
  obtain ⟨h', c', e⟩ := run_of bad14
  exact call_of rfl rfl e rfl rfl
theorem bad15_c (h : Heap) (c : Nat) : callA mZ (run Tryz.prog mZ) 15 [zE, zE] h c = some (B true, h, c) := by
  obtain ⟨h', c', e⟩ := run_of bad15
  exact call_of rfl rfl e rfl rfl
abbrev rvB (r : Rn) : Blk := ⟨5, [[I r.at_, .ro false (nums r.vs), I r.x, I r.y, B r.z]], some 32⟩
def LI (nb cb : Bool) (names : List Str) (code : List Ln) (b1 b2 : Bool) (xs ys : List Int) (n : Int) (kk : Nat) (st : St) : Prop := ∃ (i : Nat) (r : Rn), kk = 60 - i ∧ i ≤ 60 ∧ RunOk names code r ∧ st.t 1 = .ro b1 (nums xs) ∧ st.t 2 = .ro b2 (nums ys) ∧ st.t 3 = .val (.int .u8 n) ∧ st.t 9 = .ptr 0 0 0 ∧ st.t 12 = .ptr 1 0 0 ∧ st.t 14 = .ptr 2 0 0 ∧ st.t 16 = I i ∧
  st.h 0 = some (pgB nb cb names code) ∧ st.h 1 = some (rvB r) ∧ st.h 2 = some (rvB r) ∧ 3 ≤ st.c
theorem plays_ev (s : Str) (b1 b2 : Bool) (xs ys : List Int) (n : Int) (hn : 0 ≤ n ∧ n < 256) : TOut (run Tryz.prog mZ 4 [S s, .ro b1 (nums xs), .ro b2 (nums ys), .val (.int .u8 n)] Heap.none 0) := by
  rw [run_eq (show mZ 4 = some .pure from rfl) rfl, Tryz.func4]
  have e6 := known_z
  cases g0 : decide (30000 < (s.length : Int))
  rotate_left
  · simp -implicitDefEqProofs [Tryz.f4, g0, e6, -decide_eq_true_eq, -decide_eq_false_iff_not, -List.any_eq_true, -List.any_eq_false, -bne_iff_ne, -beq_iff_eq, -beq_eq_false_iff_ne, -bne_eq_false_iff_eq]
    exact ⟨_, _, rfl⟩
  cases g1 : decide (300 < (xs.length : Int))
  rotate_left
  · simp -implicitDefEqProofs [Tryz.f4, g0, g1, e6, -decide_eq_true_eq, -decide_eq_false_iff_not, -List.any_eq_true, -List.any_eq_false, -bne_iff_ne, -beq_iff_eq, -beq_eq_false_iff_ne, -bne_eq_false_iff_eq]
    exact ⟨_, _, rfl⟩
  cases g2 : decide (300 < (ys.length : Int))
  rotate_left
  · simp -implicitDefEqProofs [Tryz.f4, g0, g1, g2, e6, -decide_eq_true_eq, -decide_eq_false_iff_not, -List.any_eq_true, -List.any_eq_false, -bne_iff_ne, -beq_iff_eq, -beq_eq_false_iff_ne, -bne_eq_false_iff_eq]
    exact ⟨_, _, rfl⟩
  have g0' : s.length ≤ 30000 := by rw [decide_eq_false_iff_not] at g0; omega
  have hxs : xs.length ≤ 300 := by rw [decide_eq_false_iff_not] at g1; omega
  have hys : ys.length ≤ 300 := by rw [decide_eq_false_iff_not] at g2; omega
  obtain ⟨o, hC, e7⟩ := compile_c s (by omega)
  obtain ⟨pv, line, e, rfl, H⟩ := hC
  rcases H with ⟨he, rfl⟩ | ⟨rfl, nb, cb, names, code, rfl, F, V⟩
  · have k1 : (e != 0) = true := by simpa using he
    simp -implicitDefEqProofs [Tryz.f4, g0, g1, g2, e6, e7, k1, -decide_eq_true_eq, -decide_eq_false_iff_not, -List.any_eq_true, -List.any_eq_false, -bne_iff_ne, -beq_iff_eq, -beq_eq_false_iff_ne, -bne_eq_false_iff_eq]
    exact ⟨_, _, rfl⟩
  have e8 := fun h c => start_c (nb := nb) (cb := cb) F V h c
  have e10 := fun h c => rstart_c (nb := nb) (cb := cb) F V h c
  have hcv : ∀ h, convA Tryz.prog 5 3 h (.val (.int .u8 n)) = some (I n) := by
    intro h
    have w : IntKind.i64.wrap n = n := wrap_id (by omega) (by omega)
    simp [convA, w]
  simp -implicitDefEqProofs [Tryz.f4, g0, g1, g2, e6, e7, e8, e10, Option.bind_assoc, -decide_eq_true_eq, -decide_eq_false_iff_not, -List.any_eq_true, -List.any_eq_false, -bne_iff_ne, -beq_iff_eq, -beq_eq_false_iff_ne, -bne_eq_false_iff_eq]
  refine loop_to (R := TOut) (LI nb cb names code b1 b2 xs ys n) (fun e st => e = .exit 0) ?_ ?_ 60 _ ?_
  · rintro kk ⟨t, h, c⟩ ⟨i, r, rfl, hi, R, a1, a2, a3, a9, a12, a14, a16, y0, y1, y2, hc⟩
    simp only at a1 a2 a3 a9 a12 a14 a16 y0 y1 y2 hc
    have hm0 : 0 ≤ n.tmod 60 := Int.tmod_nonneg _ hn.1
    have hm1 : n.tmod 60 < 60 := Int.tmod_lt_of_pos _ (by omega)
    by_cases g : (i : Int) < n.tmod 60
    rotate_left
    · have k1 : decide ((i : Int) < n.tmod 60) = false := by simpa using g
      simp -implicitDefEqProofs [a1, a2, a3, a9, a12, a14, a16, hcv, k1, to_normal, to_exit, to_ret, -decide_eq_true_eq, -decide_eq_false_iff_not, -List.any_eq_true, -List.any_eq_false, -bne_iff_ne, -beq_iff_eq, -beq_eq_false_iff_ne, -bne_eq_false_iff_eq]
    have k1 : decide ((i : Int) < n.tmod 60) = true := by simpa using g
    have w1 : IntKind.i64.wrap ((i : Int) + 1) = ((i + 1 : Nat) : Int) := wrap_succ (by omega)
    obtain ⟨v, e11⟩ := number_c b1 xs hxs i (by omega)
    obtain ⟨w, e11'⟩ := number_c b2 ys hys i (by omega)
    have v0 : (c : Nat) ≠ c + 1 := by omega
    have v1 : (c : Nat) ≠ c + 1 + 1 := by omega
    have v2 : (c : Nat) ≠ c + 1 + 1 + 1 := by omega
    have v3 : (c + 1 : Nat) ≠ c := by omega
    have v4 : (c + 1 : Nat) ≠ c + 1 + 1 := by omega
    have v5 : (c + 1 : Nat) ≠ c + 1 + 1 + 1 := by omega
    have v6 : (c + 1 + 1 : Nat) ≠ c := by omega
    have v7 : (c + 1 + 1 : Nat) ≠ c + 1 := by omega
    have v8 : (c + 1 + 1 : Nat) ≠ c + 1 + 1 + 1 := by omega
    have v9 : (c + 1 + 1 + 1 : Nat) ≠ c := by omega
    have v10 : (c + 1 + 1 + 1 : Nat) ≠ c + 1 := by omega
    have v11 : (c + 1 + 1 + 1 : Nat) ≠ c + 1 + 1 := by omega
    have v12 : (c : Nat) ≠ 0 := by omega
    have v13 : (c : Nat) ≠ 1 := by omega
    have v14 : (c : Nat) ≠ 2 := by omega
    have v15 : (c + 1 : Nat) ≠ 0 := by omega
    have v16 : (c + 1 : Nat) ≠ 1 := by omega
    have v17 : (c + 1 : Nat) ≠ 2 := by omega
    have v18 : (c + 1 + 1 : Nat) ≠ 0 := by omega
    have v19 : (c + 1 + 1 : Nat) ≠ 1 := by omega
    have v20 : (c + 1 + 1 : Nat) ≠ 2 := by omega
    have v21 : (c + 1 + 1 + 1 : Nat) ≠ 0 := by omega
    have v22 : (c + 1 + 1 + 1 : Nat) ≠ 1 := by omega
    have v23 : (c + 1 + 1 + 1 : Nat) ≠ 2 := by omega
    have z0 : (0 : Nat) ≠ c := by omega
    have z1 : (1 : Nat) ≠ c := by omega
    have z2 : (2 : Nat) ≠ c := by omega
    have z3 : (0 : Nat) ≠ c + 1 := by omega
    have z4 : (1 : Nat) ≠ c + 1 := by omega
    have z5 : (2 : Nat) ≠ c + 1 := by omega
    have z6 : (0 : Nat) ≠ c + 1 + 1 := by omega
    have z7 : (1 : Nat) ≠ c + 1 + 1 := by omega
    have z8 : (2 : Nat) ≠ c + 1 + 1 := by omega
    have z9 : (0 : Nat) ≠ c + 1 + 1 + 1 := by omega
    have z10 : (1 : Nat) ≠ c + 1 + 1 + 1 := by omega
    have z11 : (2 : Nat) ≠ c + 1 + 1 + 1 := by omega
    have cz : c ≠ 0 := by omega
    by_cases hv : 0 ≤ v ∧ v ≤ 100000
    rotate_left
    · have hv' : v < 0 ∨ 100000 < v := by omega
      have e12 := fun h c => rgo_bad (nb := nb) (cb := cb) F V R v hv' h c
      have e13 := fun h c => go_bad (nb := nb) (cb := cb) F V R v hv' h c
      have e14 := bad14_c
      have e15 := bad15_c
      simp -implicitDefEqProofs [a1, a2, a3, a9, a12, a14, a16, y0, y1, y2, hcv, k1, w1, e11, e12, e13, e14, e15, z0, z1, z2, z3, z4, z5, z6, z7, z8, z9, z10, z11, v0, v1, v2, v3, v4, v5, v6, v7, v8, v9, v10, v11, v12, v13, v14, v15, v16, v17, v18, v19, v20, v21, v22, v23, to_normal, to_exit, to_ret, -decide_eq_true_eq, -decide_eq_false_iff_not, -List.any_eq_true, -List.any_eq_false, -bne_iff_ne, -beq_iff_eq, -beq_eq_false_iff_ne, -bne_eq_false_iff_eq]
      exact ⟨60 - (i + 1), by omega, i + 1, r, rfl, by omega, R, by simp [a1], by simp [a2], by simp [a3], by simp [a9], by simp [a12], by simp [a14], by simp, by simp [z0, z3, z6, z9, y0], by simp [z1, z4, z7, z10, cz, y1], by simp [z2, z5, z8, z11, cz, y2], by simp only; omega⟩
    obtain ⟨tN, rfl⟩ : ∃ tN : Nat, v = tN := ⟨v.toNat, by omega⟩
    obtain ⟨f1, e12⟩ := rgo_c (nb := nb) (cb := cb) F V R tN (by omega)
    obtain ⟨f2, e13⟩ := go_c (nb := nb) (cb := cb) F V R tN (by omega)
    obtain ⟨R', hy'⟩ := goF_ok V (t := tN) R
    have hlen := goF_len V tN r
    generalize goF code tN r = G at *
    obtain ⟨r', e', s'⟩ := G
    simp only at R' hy' e12 e13 hlen
    have hn16 := V.n16
    have hvl' := R'.vl
    have e14 := fun h c => srun_c r' (by omega) h c
    have e15 := fun h c => sev_c e' f2 f1 (by omega) h c
    have gs : ((s' : Int) != (s' : Int)) = false := by simp
    by_cases hk : e'.k = 1 ∨ e'.k = 2
    · have hy := hy' hk
      have R2 := give_ok R' hy w
      have e16 := fun h c => give_c (nb := nb) (cb := cb) F V R' hy w h c
      have e17 := fun h c => rgive_c (nb := nb) (cb := cb) F V R' hy w h c
      have e18 := fun h c => srun_c (giveR code r' w) (by have := R2.vl; omega) h c
      generalize giveR code r' w = r2 at *
      have hk1 : (e'.k == 1) = true ∨ ((e'.k == 1) = false ∧ (e'.k == 2) = true) := by
        rcases hk with h | h <;> simp [h]
      rcases hk1 with hk1 | ⟨hk1, hk2⟩
      · simp -implicitDefEqProofs [a1, a2, a3, a9, a12, a14, a16, y0, y1, y2, hcv, k1, w1, e11, e11', e12, e13, e14, e15, e16, e17, e18, gs, hk1, z0, z1, z2, z3, z4, z5, z6, z7, z8, z9, z10, z11, v0, v1, v2, v3, v4, v5, v6, v7, v8, v9, v10, v11, v12, v13, v14, v15, v16, v17, v18, v19, v20, v21, v22, v23, to_normal, to_exit, to_ret, -decide_eq_true_eq, -decide_eq_false_iff_not, -List.any_eq_true, -List.any_eq_false, -bne_iff_ne, -beq_iff_eq, -beq_eq_false_iff_ne, -bne_eq_false_iff_eq]
        exact ⟨60 - (i + 1), by omega, i + 1, r2, rfl, by omega, R2, by simp [a1], by simp [a2], by simp [a3], by simp [a9], by simp [a12], by simp [a14], by simp, by simp [z0, z3, z6, z9, y0], by simp [z1, z4, z7, z10], by simp [z2, z5, z8, z11], by simp only; omega⟩
      · simp -implicitDefEqProofs [a1, a2, a3, a9, a12, a14, a16, y0, y1, y2, hcv, k1, w1, e11, e11', e12, e13, e14, e15, e16, e17, e18, gs, hk1, hk2, z0, z1, z2, z3, z4, z5, z6, z7, z8, z9, z10, z11, v0, v1, v2, v3, v4, v5, v6, v7, v8, v9, v10, v11, v12, v13, v14, v15, v16, v17, v18, v19, v20, v21, v22, v23, to_normal, to_exit, to_ret, -decide_eq_true_eq, -decide_eq_false_iff_not, -List.any_eq_true, -List.any_eq_false, -bne_iff_ne, -beq_iff_eq, -beq_eq_false_iff_ne, -bne_eq_false_iff_eq]
        exact ⟨60 - (i + 1), by omega, i + 1, r2, rfl, by omega, R2, by simp [a1], by simp [a2], by simp [a3], by simp [a9], by simp [a12], by simp [a14], by simp, by simp [z0, z3, z6, z9, y0], by simp [z1, z4, z7, z10], by simp [z2, z5, z8, z11], by simp only; omega⟩
    · have R2 := tick_ok R'
      have e16 := fun h c => tick_c (nb := nb) (cb := cb) F V R' h c
      have e17 := fun h c => rtick_c (nb := nb) (cb := cb) F V R' h c
      have e18 := fun h c => srun_c (tickR r') (by have := R2.vl; omega) h c
      generalize tickR r' = r2 at *
      have hk1 : (e'.k == 1) = false := by rw [beq_eq_false_iff_ne]; exact fun h => hk (.inl h)
      have hk2 : (e'.k == 2) = false := by rw [beq_eq_false_iff_ne]; exact fun h => hk (.inr h)
      simp -implicitDefEqProofs [a1, a2, a3, a9, a12, a14, a16, y0, y1, y2, hcv, k1, w1, e11, e11', e12, e13, e14, e15, e16, e17, e18, gs, hk1, hk2, z0, z1, z2, z3, z4, z5, z6, z7, z8, z9, z10, z11, v0, v1, v2, v3, v4, v5, v6, v7, v8, v9, v10, v11, v12, v13, v14, v15, v16, v17, v18, v19, v20, v21, v22, v23, to_normal, to_exit, to_ret, -decide_eq_true_eq, -decide_eq_false_iff_not, -List.any_eq_true, -List.any_eq_false, -bne_iff_ne, -beq_iff_eq, -beq_eq_false_iff_ne, -bne_eq_false_iff_eq]
      exact ⟨60 - (i + 1), by omega, i + 1, r2, rfl, by omega, R2, by simp [a1], by simp [a2], by simp [a3], by simp [a9], by simp [a12], by simp [a14], by simp, by simp [z0, z3, z6, z9, y0], by simp [z1, z4, z7, z10], by simp [z2, z5, z8, z11], by simp only; omega⟩
  · rintro e ⟨t, h, c⟩ rfl
    simp -implicitDefEqProofs [e6, -decide_eq_true_eq, -decide_eq_false_iff_not, -List.any_eq_true, -List.any_eq_false, -bne_iff_ne, -beq_iff_eq, -beq_eq_false_iff_ne, -bne_eq_false_iff_eq]
    exact ⟨_, _, rfl⟩
  · exact ⟨0, ⟨0, zeros names.length, 0, 0, false⟩, by simp, by simp, start_ok V, by simp, by simp, by simp, by simp, by simp, by simp, by simp, by simp, by simp, by simp, by simp⟩
end
theorem arg30 {n : Nat} {x : AV} (h : TyArg Tryz.prog (n + 3) 30 x) : ∃ (z : Bool) (l : List Int), x = .ro z (nums l) := by
  unfold TyArg at h
  rw [Tryz.underlying30] at h
  unfold TyOk at h
  rw [Tryz.underlying30] at h
  obtain ⟨z, es, h1, h2, h3, h4⟩ := h
  cases h1
  have : ∃ l : List Int, es = nums l := by
    clear h2 h3
    induction es with
    | nil => exact ⟨[], rfl⟩
    | cons e es ih =>
      obtain ⟨bs, hb⟩ := ih fun r hr => h4 r (List.mem_cons_of_mem _ hr)
      obtain ⟨_, h5⟩ := h4 e (by simp)
      unfold TyOk at h5
      rw [Tryz.underlying3] at h5
      obtain ⟨i, e1, _⟩ := h5
      exact ⟨i :: bs, by rw [e1, hb]; rfl⟩
  obtain ⟨l, rfl⟩ := this
  exact ⟨z, l, rfl⟩
theorem arg5 {n : Nat} {x : AV} (h : TyArg Tryz.prog (n + 1) 5 x) : ∃ i : Int, x = .val (.int .u8 i) ∧ 0 ≤ i ∧ i < 256 := by
  unfold TyArg at h
  rw [Tryz.underlying5] at h
  unfold TyOk at h
  rw [Tryz.underlying5] at h
  obtain ⟨i, e, hr⟩ := h
  cases e
  have h1 : (0 : Int) ≤ i := hr.1
  have h2 : i ≤ 255 := hr.2
  exact ⟨i, rfl, h1, by omega⟩
theorem pure4 (x0 x1 x2 x3 : AV) (h0 : TyArg Tryz.prog 8 9 x0) (h1 : TyArg Tryz.prog 8 30 x1) (h2 : TyArg Tryz.prog 8 30 x2) (h3 : TyArg Tryz.prog 8 5 x3) : ∃ h c, run Tryz.prog mZ 4 [x0, x1, x2, x3] Heap.none 0 = some (B true, h, c) := by
  obtain ⟨s, rfl⟩ := arg9 (n := 7) h0
  obtain ⟨b1, xs, rfl⟩ := arg30 (n := 5) h1
  obtain ⟨b2, ys, rfl⟩ := arg30 (n := 5) h2
  obtain ⟨n, rfl, hn⟩ := arg5 (n := 7) h3
  exact plays_ev s b1 b2 xs ys n hn
end Go.Proofs.YtmpcjfkfgjpebaaGreatDoor.AM
