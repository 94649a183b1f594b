/- Texts of the proof: part Z10. -/
import Derived.Test.YtmpcjfkfgjpebaaGreatDoorZ9
set_option maxHeartbeats 0
set_option maxRecDepth 8000
set_option linter.unusedSimpArgs false
set_option linter.unusedVariables false
set_option linter.unusedSectionVars false
namespace Go.Proofs.YtmpcjfkfgjpebaaGreatDoor.AM
open Go Go.Proofs
attribute [local simp] fieldAddrA ld setCells stA skipV appendA hd makeA bnd kindA freshA killOk loadsAt edgesOn Region.binds newT empT lay_get allocA buildA buildRow lenA els indexAddrA isNil opA evA lit_int lit_bool lit_nil lit_nilf yldA binI unA pickA boolV intV fieldA mk eqs nilC mayP
theorem truth_c {md : Nat → Option CMode} (hm : md 100 = some .pure) (b : Bool) (h : Heap) (c : Nat) : callA md (run Tryz.prog md) 100 [B b] h c = some (I (if b then 1 else 0), h, c) := by
  have : ∃ h c, run Tryz.prog md 100 [B b] Heap.none 0 = some (I (if b then 1 else 0), h, c) := by
    rw [run_eq hm rfl, Tryz.func100]
    cases b <;> simp -implicitDefEqProofs [Tryz.f100, -decide_eq_true_eq, -decide_eq_false_iff_not, -List.any_eq_true, -List.any_eq_false, -bne_iff_ne, -beq_iff_eq, -beq_eq_false_iff_ne, -bne_eq_false_iff_eq]
  obtain ⟨h', c', e⟩ := this
  exact call_of hm rfl e rfl rfl
theorem named_ev {X : Cx} {na : Nat} {h : Heap} {c : Nat} {i : Nat} {ops : List (Int × Int)} (hN : NamesOk X na) (ih : ∀ j, i < j → ExprAt X na j) (R : Rd X h c i ops) : Out X na i ops (callA mA (run Tryz.prog mA) 199 [.ptr X.nb 0 0] h c) := by
  rw [call_heap rfl, run_eq (show mA 199 = some .heap from rfl) rfl, Tryz.func199]
  rcases word_ev R with ⟨h1, n1, e1, p1, l1, R1⟩ | e1
  rotate_left
  · right
    refine ⟨14, h, c, ?_, by decide, R.hz⟩
    simp -implicitDefEqProofs [Tryz.f199, e1, -decide_eq_true_eq, -decide_eq_false_iff_not, -List.any_eq_true, -List.any_eq_false, -bne_iff_ne, -beq_iff_eq, -beq_eq_false_iff_ne, -bne_eq_false_iff_eq]
  generalize (X.s.drop i).take n1 = w at e1
  obtain ⟨p, hp⟩ : ∃ p, p = i + n1 := ⟨_, rfl⟩
  rw [← hp] at R1 l1
  cases g1 : (w == ([109, 105, 110] : Str))
  rotate_left
  · have gm : (w == ([109, 97, 120] : Str)) = false := by rw [beq_iff_eq] at g1; rw [g1]; decide
    · rcases open_ev R1 with ⟨h2, e2, R2⟩ | e2
      rotate_left
      · right
        refine ⟨14, h1, c, ?_, by decide, R1.hz⟩
        simp -implicitDefEqProofs [Tryz.f199, e1, g1, gm, e2, -decide_eq_true_eq, -decide_eq_false_iff_not, -List.any_eq_true, -List.any_eq_false, -bne_iff_ne, -beq_iff_eq, -beq_eq_false_iff_ne, -bne_eq_false_iff_eq]
      rcases ih (p + 1) (by omega) h2 c ops R2 with ⟨h3, c3, j3, b1, e3, l3, R3, B1, q3⟩ | ⟨n3, h3, c3, e3, z3, y3⟩
      rotate_left
      · exact .inr ⟨n3, h3, c3, by simp -implicitDefEqProofs [Tryz.f199, e1, g1, gm, e2, e3, -decide_eq_true_eq, -decide_eq_false_iff_not, -List.any_eq_true, -List.any_eq_false, -bne_iff_ne, -beq_iff_eq, -beq_eq_false_iff_ne, -bne_eq_false_iff_eq], z3, y3⟩
      rcases want_ev R3 [44, 32] (by simp) with ⟨h4, e4, _, l4, R4⟩ | e4
      rotate_left
      · right
        refine ⟨14, h3, c3, ?_, by decide, R3.hz⟩
        simp -implicitDefEqProofs [Tryz.f199, e1, g1, gm, e2, e3, e4, -decide_eq_true_eq, -decide_eq_false_iff_not, -List.any_eq_true, -List.any_eq_false, -bne_iff_ne, -beq_iff_eq, -beq_eq_false_iff_ne, -bne_eq_false_iff_eq]
      simp only [List.length_cons, List.length_nil] at l4 R4
      rcases ih (j3 + (0 + 1 + 1)) (by omega) h4 c3 (ops ++ b1) R4 with ⟨h5, c5, j5, b2, e5, l5, R5, B2, q5⟩ | ⟨n5, h5, c5, e5, z5, y5⟩
      rotate_left
      · exact .inr ⟨n5, h5, c5, by simp -implicitDefEqProofs [Tryz.f199, e1, g1, gm, e2, e3, e4, e5, -decide_eq_true_eq, -decide_eq_false_iff_not, -List.any_eq_true, -List.any_eq_false, -bne_iff_ne, -beq_iff_eq, -beq_eq_false_iff_ne, -bne_eq_false_iff_eq], z5, y5⟩
      rcases shut_ev R5 with ⟨h6, e6, R6⟩ | e6
      rotate_left
      · right
        refine ⟨14, h5, c5, ?_, by decide, R5.hz⟩
        simp -implicitDefEqProofs [Tryz.f199, e1, g1, gm, e2, e3, e4, e5, e6, -decide_eq_true_eq, -decide_eq_false_iff_not, -List.any_eq_true, -List.any_eq_false, -bne_iff_ne, -beq_iff_eq, -beq_eq_false_iff_ne, -bne_eq_false_iff_eq]
      have hol := R.ol
      obtain ⟨h7, c7, e7, R7⟩ := put_ev R6 11 0 (by simp only [List.length_append]; omega)
      left
      refine ⟨h7, c7, j5 + 1, b1 ++ b2 ++ [(11, 0)], ?_, by omega, by simpa only [List.append_assoc] using R7, bal_two B1 B2 (by decide) (by decide) (by decide) (by decide), by simp only [List.length_append, List.length_singleton]; omega⟩
      have ct : ∀ b h c, callA mA (run Tryz.prog mA) 100 [B b] h c = some (I (if b then 1 else 0), h, c) := fun b h c => truth_c (md := mA) rfl b h c
      have kw : IntKind.i64.wrap 11 = 11 := wrap_id (by decide) (by decide)
      have kw2 : IntKind.i64.wrap 12 = 12 := wrap_id (by decide) (by decide)
      simp -implicitDefEqProofs [Tryz.f199, e1, g1, gm, e2, e3, e4, e5, e6, ct, kw, kw2, e7, -decide_eq_true_eq, -decide_eq_false_iff_not, -List.any_eq_true, -List.any_eq_false, -bne_iff_ne, -beq_iff_eq, -beq_eq_false_iff_ne, -bne_eq_false_iff_eq]
  cases g2 : (w == ([109, 97, 120] : Str))
  rotate_left
  · skip
    · rcases open_ev R1 with ⟨h2, e2, R2⟩ | e2
      rotate_left
      · right
        refine ⟨14, h1, c, ?_, by decide, R1.hz⟩
        simp -implicitDefEqProofs [Tryz.f199, e1, g1, g2, e2, -decide_eq_true_eq, -decide_eq_false_iff_not, -List.any_eq_true, -List.any_eq_false, -bne_iff_ne, -beq_iff_eq, -beq_eq_false_iff_ne, -bne_eq_false_iff_eq]
      rcases ih (p + 1) (by omega) h2 c ops R2 with ⟨h3, c3, j3, b1, e3, l3, R3, B1, q3⟩ | ⟨n3, h3, c3, e3, z3, y3⟩
      rotate_left
      · exact .inr ⟨n3, h3, c3, by simp -implicitDefEqProofs [Tryz.f199, e1, g1, g2, e2, e3, -decide_eq_true_eq, -decide_eq_false_iff_not, -List.any_eq_true, -List.any_eq_false, -bne_iff_ne, -beq_iff_eq, -beq_eq_false_iff_ne, -bne_eq_false_iff_eq], z3, y3⟩
      rcases want_ev R3 [44, 32] (by simp) with ⟨h4, e4, _, l4, R4⟩ | e4
      rotate_left
      · right
        refine ⟨14, h3, c3, ?_, by decide, R3.hz⟩
        simp -implicitDefEqProofs [Tryz.f199, e1, g1, g2, e2, e3, e4, -decide_eq_true_eq, -decide_eq_false_iff_not, -List.any_eq_true, -List.any_eq_false, -bne_iff_ne, -beq_iff_eq, -beq_eq_false_iff_ne, -bne_eq_false_iff_eq]
      simp only [List.length_cons, List.length_nil] at l4 R4
      rcases ih (j3 + (0 + 1 + 1)) (by omega) h4 c3 (ops ++ b1) R4 with ⟨h5, c5, j5, b2, e5, l5, R5, B2, q5⟩ | ⟨n5, h5, c5, e5, z5, y5⟩
      rotate_left
      · exact .inr ⟨n5, h5, c5, by simp -implicitDefEqProofs [Tryz.f199, e1, g1, g2, e2, e3, e4, e5, -decide_eq_true_eq, -decide_eq_false_iff_not, -List.any_eq_true, -List.any_eq_false, -bne_iff_ne, -beq_iff_eq, -beq_eq_false_iff_ne, -bne_eq_false_iff_eq], z5, y5⟩
      rcases shut_ev R5 with ⟨h6, e6, R6⟩ | e6
      rotate_left
      · right
        refine ⟨14, h5, c5, ?_, by decide, R5.hz⟩
        simp -implicitDefEqProofs [Tryz.f199, e1, g1, g2, e2, e3, e4, e5, e6, -decide_eq_true_eq, -decide_eq_false_iff_not, -List.any_eq_true, -List.any_eq_false, -bne_iff_ne, -beq_iff_eq, -beq_eq_false_iff_ne, -bne_eq_false_iff_eq]
      have hol := R.ol
      obtain ⟨h7, c7, e7, R7⟩ := put_ev R6 12 0 (by simp only [List.length_append]; omega)
      left
      refine ⟨h7, c7, j5 + 1, b1 ++ b2 ++ [(12, 0)], ?_, by omega, by simpa only [List.append_assoc] using R7, bal_two B1 B2 (by decide) (by decide) (by decide) (by decide), by simp only [List.length_append, List.length_singleton]; omega⟩
      have ct : ∀ b h c, callA mA (run Tryz.prog mA) 100 [B b] h c = some (I (if b then 1 else 0), h, c) := fun b h c => truth_c (md := mA) rfl b h c
      have kw : IntKind.i64.wrap 11 = 11 := wrap_id (by decide) (by decide)
      have kw2 : IntKind.i64.wrap 12 = 12 := wrap_id (by decide) (by decide)
      simp -implicitDefEqProofs [Tryz.f199, e1, g1, g2, e2, e3, e4, e5, e6, ct, kw, kw2, e7, -decide_eq_true_eq, -decide_eq_false_iff_not, -List.any_eq_true, -List.any_eq_false, -bne_iff_ne, -beq_iff_eq, -beq_eq_false_iff_ne, -bne_eq_false_iff_eq]
  have e2 := next_c R1
  generalize hx : nx X.s p = x at e2
  cases g3 : ((x.toNat : Int) == 40)
  rotate_left
  · obtain ⟨h3, c3, e3, z3⟩ := rule_ev R1 w
    exact .inr ⟨2, h3, c3, by simp -implicitDefEqProofs [Tryz.f199, e1, g1, g2, e2, g3, e3, -decide_eq_true_eq, -decide_eq_false_iff_not, -List.any_eq_true, -List.any_eq_false, -bne_iff_ne, -beq_iff_eq, -beq_eq_false_iff_ne, -bne_eq_false_iff_eq], by decide, z3⟩
  obtain ⟨v, a, b, hb, _⟩ := R1.blk
  obtain ⟨r, hr, hrk⟩ := hN ⟨w.toArray⟩
  have hmp := R1.mp
  cases r with
  | none =>
    right
    refine ⟨2, h1, c, ?_, by decide, R1.hz⟩
    simp -implicitDefEqProofs [Tryz.f199, e1, g1, g2, e2, g3, hb, -decide_eq_true_eq, -decide_eq_false_iff_not, -List.any_eq_true, -List.any_eq_false, -bne_iff_ne, -beq_iff_eq, -beq_eq_false_iff_ne, -bne_eq_false_iff_eq]
    simp -implicitDefEqProofs [S, hmp, hr, fail_c, -decide_eq_true_eq, -decide_eq_false_iff_not, -List.any_eq_true, -List.any_eq_false, -bne_iff_ne, -beq_iff_eq, -beq_eq_false_iff_ne, -bne_eq_false_iff_eq]
  | some vv =>
    obtain ⟨k, rfl, hk⟩ := hrk vv rfl
    have hol := R.ol
    obtain ⟨h7, c7, e7, R7⟩ := put_ev R1 1 k (by omega)
    left
    refine ⟨h7, c7, p, [(1, (k : Int))], ?_, by omega, R7, bal_arg hk, by simp; omega⟩
    simp -implicitDefEqProofs [Tryz.f199, e1, g1, g2, e2, g3, hb, -decide_eq_true_eq, -decide_eq_false_iff_not, -List.any_eq_true, -List.any_eq_false, -bne_iff_ne, -beq_iff_eq, -beq_eq_false_iff_ne, -bne_eq_false_iff_eq]
    simp -implicitDefEqProofs [S, hmp, hr, e7, -decide_eq_true_eq, -decide_eq_false_iff_not, -List.any_eq_true, -List.any_eq_false, -bne_iff_ne, -beq_iff_eq, -beq_eq_false_iff_ne, -bne_eq_false_iff_eq]
end Go.Proofs.YtmpcjfkfgjpebaaGreatDoor.AM
