/- Texts of the proof: part Z51. -/
import Derived.Test.YtmpcjfkfgjpebaaGreatDoorZM4
set_option maxHeartbeats 0
set_option maxRecDepth 8000
set_option linter.unusedSimpArgs false
set_option linter.unusedVariables false
set_option linter.unusedSectionVars false
namespace Go.Proofs.YtmpcjfkfgjpebaaGreatDoor.AM
open Go Go.Proofs
attribute [local simp] fieldAddrA ld setCells stA skipV appendA hd makeA bnd kindA freshA killOk loadsAt edgesOn Region.binds newT empT lay_get allocA buildA buildRow lenA els indexAddrA isNil opA evA lit_int lit_bool lit_nil lit_nilf yldA binI unA pickA boolV intV fieldA mk eqs nilC mayP
/-- What a turn answers, in its own memory. -/
def GoO (R : Rn) (E' : Ev) (S' : Nat) (o : Option (AV × Heap × Nat)) : Prop := ∃ (n : Nat) (b : Bool) (x : AV) (h' : Heap) (c' : Nat), o = some (.tup [.agg [I R.at_, .sl n 1 0 R.vs.length, I R.x, I R.y, B R.z], x, I S', E 0], h', c') ∧ h' n = some ⟨1, nums R.vs, some 3⟩ ∧ frz h' 11 x = some (E'.av b)
theorem sub_pos {a b : Nat} (h : b < a) : a - b = a - b := rfl
section
variable {nb cb : Bool} {names : List Str} {code : List Ln} {r : Rn}
def GI (nb cb : Bool) (names : List Str) (code : List Ln) (tN : Nat) (RES : Rn × Ev × Nat) (kk : Nat) (st : St) : Prop := ∃ (f s : Nat) (r : Rn), kk = f ∧ tN + 1 ≤ s + f ∧ s ≤ tN ∧ goP code tN f s r = RES ∧ RunOk names code r ∧ calm r ∧
  st.t 3 = .ptr 0 0 0 ∧ st.t 4 = .ptr 1 0 0 ∧ st.t 6 = .ptr 2 0 0 ∧ st.t 7 = .ptr 3 0 0 ∧ st.t 2 = I tN ∧ st.t 11 = I s ∧ st.h 0 = some (pgB nb cb names code) ∧ st.h 1 = some (rnB 4 r) ∧ st.h 2 = some ⟨5, [[I 0, .ro true [], I 0, I 0, B false]], some 32⟩ ∧ st.h 3 = some ⟨3, [[I 0, I 0, .ro true []]], some 39⟩ ∧ st.h 4 = some ⟨1, nums r.vs, some 3⟩ ∧ 5 ≤ st.c
def GE (R : Rn) (E' : Ev) (S' : Nat) (e : Ex) (st : St) : Prop := (e = .exit 0 ∧ ∃ r : Rn, R = { r with z := true } ∧ E' = ⟨4, 0, []⟩ ∧ st.t 4 = .ptr 1 0 0 ∧ st.t 6 = .ptr 2 0 0 ∧ st.t 7 = .ptr 3 0 0 ∧ st.t 11 = I S' ∧ st.h 1 = some (rnB 4 r) ∧ st.h 2 = some ⟨5, [[I 0, .ro true [], I 0, I 0, B false]], some 32⟩ ∧ st.h 3 = some ⟨3, [[I 0, I 0, .ro true []]], some 39⟩ ∧ st.h 4 = some ⟨1, nums r.vs, some 3⟩) ∨
  (e = .ret ∧ st.t 6 = .ptr 2 0 0 ∧ st.t 7 = .ptr 3 0 0 ∧ st.t 8 = I S' ∧ st.t 9 = E 0 ∧ st.h 2 = some (rnB 4 R) ∧ (∃ b, st.h 3 = some ⟨3, [[I E'.k, I E'.w, .ro b (nums E'.vals)]], some 39⟩) ∧ st.h 4 = some ⟨1, nums R.vs, some 3⟩)
theorem go_ev (F : FrzC code) (V : ValidP names code) (R : RunOk names code r) (tN : Nat) (ht : tN ≤ 100000) : GoO (goF code tN r).1 (goF code tN r).2.1 (goF code tN r).2.2 (run Tryz.prog mZ 13 [progV nb cb names code, r.av, I tN] Heap.none 0) := by
  rw [run_eq (show mZ 13 = some .pure from rfl) rfl, Tryz.func13]
  have e33 := fun h c => fits_c (nb := nb) (cb := cb) F V R h c
  have hn16 := V.n16
  have hp := (List.getElem?_eq_some_iff.1 V.res).1
  have q1 : decide ((tN : Int) < 0) = false := by simp
  have q2 : decide (100000 < (tN : Int)) = false := by rw [decide_eq_false_iff_not]; omega
  have hvl := R.vl
  have hmd := R.md
  have hne : r.vs ≠ [] := fun e => by rw [e] at hvl; simp at hvl; omega
  have e34 : ∀ (h : Heap), ∃ h' c', callA mZ (run Tryz.prog mZ) 34 [.ro false (nums r.vs)] h 4 = some (.sl 4 1 0 r.vs.length, h', c') ∧ h' 4 = some ⟨1, nums r.vs, some 3⟩ ∧ 5 ≤ c' ∧ (∀ j, j < 4 → h' j = h j) := by
    intro h
    obtain ⟨v', h', c', e, RV, hc, hf, hs⟩ := clone_c (h := h) (c := 4) (x := .ro false (nums r.vs)) (l := r.vs) (by omega) (.inr (.inl rfl))
    have hv := hs hne
    subst hv
    rcases RV with ⟨h1, _⟩ | ⟨n, h1, h2, h3⟩
    · exact absurd h1 hne
    · simp at h1
      subst h1
      exact ⟨h', c', e, h3, by omega, hf⟩
  obtain ⟨h1, c1, e34, b4, hc1, hf⟩ := e34 ((((Heap.none.put 0 (some (pgB nb cb names code))).put 1 (some ⟨5, [[I r.at_, .ro false (nums r.vs), I r.x, I r.y, B r.z]], some 32⟩)).put 2 (some ⟨5, [[I 0, .ro true [], I 0, I 0, B false]], some 32⟩)).put 3 (some ⟨3, [[I 0, I 0, .ro true []]], some 39⟩))
  have f0 := hf 0 (by omega)
  have f1 := hf 1 (by omega)
  have f2 := hf 2 (by omega)
  have f3 := hf 3 (by omega)
  simp at f0 f1 f2 f3
  by_cases hcalm : r.y = 0 ∧ r.x = 0 ∧ r.z = false
  rotate_left
  · have hg : goF code tN r = (r, ⟨5, 0, []⟩, 0) := by unfold goF; rw [if_neg hcalm]
    rw [hg]
    obtain ⟨at0, vs, x, y, z⟩ := r
    simp only at hmd hcalm e34 b4 f1 ⊢
    rcases hmd with ⟨rfl, rfl, rfl⟩ | ⟨rfl, rfl, rfl, hz⟩ | ⟨rfl, hx1, hx2, rfl, hb⟩ | ⟨rfl, rfl, rfl, hb⟩ | ⟨rfl, rfl, rfl, hb⟩
    · exact absurd ⟨rfl, rfl, rfl⟩ hcalm
    · simp -implicitDefEqProofs [Tryz.f13, e33, q1, q2, e34, f0, f1, f2, f3, b4, -decide_eq_true_eq, -decide_eq_false_iff_not, -List.any_eq_true, -List.any_eq_false, -bne_iff_ne, -beq_iff_eq, -beq_eq_false_iff_ne, -bne_eq_false_iff_eq]
      exact ⟨4, true, _, _, _, rfl, by simp [b4], rfl⟩
    · have k3 : decide (0 < x) = true := by simp; omega
      simp -implicitDefEqProofs [Tryz.f13, e33, q1, q2, e34, k3, f0, f1, f2, f3, b4, -decide_eq_true_eq, -decide_eq_false_iff_not, -List.any_eq_true, -List.any_eq_false, -bne_iff_ne, -beq_iff_eq, -beq_eq_false_iff_ne, -bne_eq_false_iff_eq]
      exact ⟨4, true, _, _, _, rfl, by simp [b4], rfl⟩
    · simp -implicitDefEqProofs [Tryz.f13, e33, q1, q2, e34, f0, f1, f2, f3, b4, -decide_eq_true_eq, -decide_eq_false_iff_not, -List.any_eq_true, -List.any_eq_false, -bne_iff_ne, -beq_iff_eq, -beq_eq_false_iff_ne, -bne_eq_false_iff_eq]
      exact ⟨4, true, _, _, _, rfl, by simp [b4], rfl⟩
    · simp -implicitDefEqProofs [Tryz.f13, e33, q1, q2, e34, f0, f1, f2, f3, b4, -decide_eq_true_eq, -decide_eq_false_iff_not, -List.any_eq_true, -List.any_eq_false, -bne_iff_ne, -beq_iff_eq, -beq_eq_false_iff_ne, -bne_eq_false_iff_eq]
      exact ⟨4, true, _, _, _, rfl, by simp [b4], rfl⟩
  · have hg : goF code tN r = goP code tN (tN + 1) 0 r := by unfold goF; rw [if_pos hcalm]
    rw [hg]
    have hcalm' : calm r := hcalm
    obtain ⟨at0, vs, x, y, z⟩ := r
    obtain ⟨rfl, rfl, rfl⟩ := hcalm
    simp only at e34 b4 f1 ⊢
    simp -implicitDefEqProofs [Tryz.f13, e33, q1, q2, e34, f0, f1, f2, f3, b4, Option.bind_assoc, -decide_eq_true_eq, -decide_eq_false_iff_not, -List.any_eq_true, -List.any_eq_false, -bne_iff_ne, -beq_iff_eq, -beq_eq_false_iff_ne, -bne_eq_false_iff_eq]
    have hRES : ∃ RES, RES = goP code tN (tN + 1) 0 ⟨at0, vs, 0, 0, false⟩ := ⟨_, rfl⟩
    obtain ⟨RES, hRES⟩ := hRES
    rw [← hRES]
    refine loop_to (R := GoO RES.1 RES.2.1 RES.2.2) (GI nb cb names code tN RES) (GE RES.1 RES.2.1 RES.2.2) ?_ ?_ (tN + 1) _ ?_
    · rintro kk ⟨t, h, c⟩ ⟨f, s, r, hkf, hf1, hs, hgo, R, hr, a3, a4, a6, a7, a2, a11, b0, b1, b2, b3, b4, hc⟩
      simp only at a3 a4 a6 a7 a2 a11 b0 b1 b2 b3 b4 hc
      have hat := R.a
      have hc2 := V.c200
      obtain ⟨f, rfl⟩ : ∃ f', f = f' + 1 := ⟨f - 1, by omega⟩
      subst hkf
      rw [goP] at hgo
      cases hl : code[r.at_]? with
      | none =>
        have hlen : r.at_ = code.length := by
          have := List.getElem?_eq_none_iff.1 hl
          omega
        rw [hl] at hgo
        simp only at hgo
        have k1 : decide (r.at_ < code.length) = false := by simp; omega
        have k1' : decide ((r.at_ : Int) < (code.length : Int)) = false := by simp; omega
        simp -implicitDefEqProofs [a3, a4, b0, b1, k1, k1', to_normal, to_exit, to_ret, -decide_eq_true_eq, -decide_eq_false_iff_not, -List.any_eq_true, -List.any_eq_false, -bne_iff_ne, -beq_iff_eq, -beq_eq_false_iff_ne, -bne_eq_false_iff_eq]
        exact .inl ⟨rfl, r, by rw [← hgo], by rw [← hgo], by simp [a4], by simp [a6], by simp [a7], by rw [← hgo]; simp [a11], b1, b2, b3, b4⟩
      | some l =>
        rw [hl] at hgo
        simp only at hgo
        have hm := List.mem_of_getElem? hl
        have hatl := (List.getElem?_eq_some_iff.1 hl).1
        obtain ⟨b, hv⟩ := F l hm
        have hL := V.lns l hm
        have hrow := row_ro hv
        have k1 : decide (r.at_ < code.length) = true := by simp; omega
        have k1' : decide ((r.at_ : Int) < (code.length : Int)) = true := by simp; omega
        have hBo := hL.2.2.2.2.2.2.2.2.2.2
        have hB60 : ∀ b ∈ l.bodies, b.length ≤ 60 := fun b hb => (hBo b hb).2
        have e35 := fun h c => cost_c hv hB60 hL.b6 h c
        have hcost : costP l ≤ 361 := by
          have := sumL_le hB60
          have := hL.b6
          unfold costP
          omega
        have hcost1 : 1 ≤ costP l := by unfold costP; omega
        obtain ⟨cs, hcs⟩ : ∃ cs, cs = costP l := ⟨_, rfl⟩
        rw [← hcs] at e35 hcost hcost1 hgo
        have w1 : IntKind.i64.wrap ((s : Int) + (cs : Int)) = ((s + cs : Nat) : Int) := by rw [wrap_id (by omega) (by omega)]; omega
        rw [hrow] at e35
        have d1 : c ≠ 1 := by omega
        have d2 : c ≠ 2 := by omega
        have d3 : c ≠ 3 := by omega
        have d4 : c ≠ 4 := by omega
        have d0 : c ≠ 0 := by omega
        have d1' : 1 ≠ c := by omega
        have d2' : 2 ≠ c := by omega
        have d3' : 3 ≠ c := by omega
        have d4' : 4 ≠ c := by omega
        have d0' : 0 ≠ c := by omega
        by_cases g : tN < s + cs
        · have g1 : decide ((tN : Int) < (s : Int) + (cs : Int)) = true := by rw [decide_eq_true_eq]; omega
          rw [if_pos g] at hgo
          simp -implicitDefEqProofs [a2, a3, a4, a6, a7, a11, b0, b1, b2, b3, b4, k1, k1', hl, hrow, e35, w1, g1, d0, d1, d2, d3, d4, d0', d1', d2', d3', d4', to_normal, to_exit, to_ret, -decide_eq_true_eq, -decide_eq_false_iff_not, -List.any_eq_true, -List.any_eq_false, -bne_iff_ne, -beq_iff_eq, -beq_eq_false_iff_ne, -bne_eq_false_iff_eq]
          subst hgo
          exact .inr ⟨rfl, by simp [a6], by simp [a7], by simp, by simp, by simp, ⟨true, by simp⟩, by simp [d4', b4]⟩
        · have g1 : decide ((tN : Int) < (s : Int) + (cs : Int)) = false := by rw [decide_eq_false_iff_not]; omega
          rw [if_neg g] at hgo
          obtain ⟨h2, c2, b', eA, B1, B4, hc2', hf2⟩ := act_ev (h := (h.put c (some ⟨5, [[I 0, I 0, I 0, I 0, .ro true []]], some 52⟩)).put c (some ⟨5, [[I l.kind, I l.nm, I l.to, I l.wd, .ro b (bodR l.bodies)]], some 52⟩)) (c := c + 1) (m := 1) (n := 4) hL hv hn16 R.vo R.vl hr (by omega) (by simp [d1', b1]) (by simp [d4', b4]) (by omega) (by omega) (by omega)
          obtain ⟨R', hca, _⟩ := step_ok V R hr hl
          rw [hrow] at eA
          have F0 := hf2 0 (by omega) (by omega) (by omega)
          have F2 := hf2 2 (by omega) (by omega) (by omega)
          have F3 := hf2 3 (by omega) (by omega) (by omega)
          simp [d0', d2', d3', b0, b2, b3] at F0 F2 F3
          have n0 : (0 : Nat) ≠ c2 := by omega
          have n1 : (1 : Nat) ≠ c2 := by omega
          have n2 : (2 : Nat) ≠ c2 := by omega
          have n3 : (3 : Nat) ≠ c2 := by omega
          have n4 : (4 : Nat) ≠ c2 := by omega
          have n0' : c2 ≠ 0 := by omega
          have n1' : c2 ≠ 1 := by omega
          have n2' : c2 ≠ 2 := by omega
          have n3' : c2 ≠ 3 := by omega
          have n4' : c2 ≠ 4 := by omega
          have m1 : (c2 != 1) = true := by simp; omega
          have m2 : (c2 != 2) = true := by simp; omega
          have m3 : (c2 != 3) = true := by simp; omega
          generalize hst : stepR l r = SR at *
          obtain ⟨r', e'⟩ := SR
          simp only at eA B1 B4 R' hca hgo
          by_cases ge : e'.k = 0
          · have ge' : (e'.k != 0) = false := by simpa using ge
            rw [if_pos ge] at hgo
            simp -implicitDefEqProofs [a2, a3, a4, a6, a7, a11, b0, b1, b2, b3, b4, k1, k1', hl, hrow, e35, w1, g1, d0, d1, d2, d3, d4, d0', d1', d2', d3', d4', eA, F0, F2, F3, B1, B4, n0, n1, n2, n3, n4, n0', n1', n2', n3', n4', m1, m2, m3, ge', to_normal, to_exit, to_ret, -decide_eq_true_eq, -decide_eq_false_iff_not, -List.any_eq_true, -List.any_eq_false, -bne_iff_ne, -beq_iff_eq, -beq_eq_false_iff_ne, -bne_eq_false_iff_eq]
            exact ⟨f, by omega, f, s + cs, r', rfl, by omega, by omega, hgo, R', hca ge, by simp [a3], by simp [a4], by simp [a6], by simp [a7], by simp [a2], by simp, by simp [n0, F0], by simp [n1, B1], by simp [n2, F2], by simp [n3, F3], by simp [n4, B4], by simp only; omega⟩
          · have ge' : (e'.k != 0) = true := by simpa using ge
            rw [if_neg ge] at hgo
            subst hgo
            simp -implicitDefEqProofs [a2, a3, a4, a6, a7, a11, b0, b1, b2, b3, b4, k1, k1', hl, hrow, e35, w1, g1, d0, d1, d2, d3, d4, d0', d1', d2', d3', d4', eA, F0, F2, F3, B1, B4, n0, n1, n2, n3, n4, n0', n1', n2', n3', n4', m1, m2, m3, ge', to_normal, to_exit, to_ret, -decide_eq_true_eq, -decide_eq_false_iff_not, -List.any_eq_true, -List.any_eq_false, -bne_iff_ne, -beq_iff_eq, -beq_eq_false_iff_ne, -bne_eq_false_iff_eq]

            exact .inr ⟨rfl, by simp [a6], by simp [a7], by simp, by simp, by simp, ⟨b', by simp⟩, by simp [n4, B4]⟩
    · rintro e ⟨t, h, c⟩ (⟨rfl, r, hR, hE, a4, a6, a7, a11, b1, b2, b3, b4⟩ | ⟨rfl, a6, a7, a8, a9, b2, ⟨b, b3⟩, b4⟩)
      · simp only at a4 a6 a7 a11 b1 b2 b3 b4
        rw [hR, hE]
        simp -implicitDefEqProofs [a4, a6, a7, a11, b1, b2, b3, b4, -decide_eq_true_eq, -decide_eq_false_iff_not, -List.any_eq_true, -List.any_eq_false, -bne_iff_ne, -beq_iff_eq, -beq_eq_false_iff_ne, -bne_eq_false_iff_eq]
        refine ⟨4, true, _, _, _, rfl, ?_, rfl⟩
        simp [b4]
      · simp only at a6 a7 a8 a9 b2 b3 b4
        simp -implicitDefEqProofs [a6, a7, a8, a9, b2, b3, b4, -decide_eq_true_eq, -decide_eq_false_iff_not, -List.any_eq_true, -List.any_eq_false, -bne_iff_ne, -beq_iff_eq, -beq_eq_false_iff_ne, -bne_eq_false_iff_eq]
        exact ⟨4, b, _, h, c, rfl, b4, rfl⟩
    · exact ⟨tN + 1, 0, ⟨at0, vs, 0, 0, false⟩, rfl, by omega, by omega, hRES.symm, R, hcalm', by simp, by simp, by simp, by simp, by simp, by simp, by simp [f0], by simp, by simp [f2], by simp [f3], by simp [b4], hc1⟩
end
end Go.Proofs.YtmpcjfkfgjpebaaGreatDoor.AM
