/- Texts of the proof: part Z9. -/
import Derived.Test.YtmpcjfkfgjpebaaGreatDoorZ8
set_option maxHeartbeats 0
set_option maxRecDepth 8000
set_option linter.unusedSimpArgs false
set_option linter.unusedVariables false
set_option linter.unusedSectionVars false
namespace Go.Proofs.YtmpcjfkfgjpebaaGreatDoor.AM
open Go Go.Proofs
attribute [local simp] fieldAddrA ld setCells stA skipV appendA hd makeA bnd kindA freshA killOk loadsAt edgesOn Region.binds newT empT lay_get allocA buildA buildRow lenA els indexAddrA isNil opA evA lit_int lit_bool lit_nil lit_nilf yldA binI unA pickA boolV intV fieldA mk eqs nilC mayP
theorem bracket_ev {X : Cx} {na : Nat} {h : Heap} {c : Nat} {i : Nat} {ops : List (Int × Int)} (ih : ∀ j, i < j → ExprAt X na j) (R : Rd X h c i ops) : Out X na i ops (callA mA (run Tryz.prog mA) 196 [.ptr X.nb 0 0] h c) := by
  rw [call_heap rfl, run_eq (show mA 196 = some .heap from rfl) rfl, Tryz.func196]
  rcases open_ev R with ⟨h1, e1, R1⟩ | e1
  rotate_left
  · right
    refine ⟨14, h, c, ?_, by decide, R.hz⟩
    simp -implicitDefEqProofs [Tryz.f196, e1, -decide_eq_true_eq, -decide_eq_false_iff_not, -List.any_eq_true, -List.any_eq_false, -bne_iff_ne, -beq_iff_eq, -beq_eq_false_iff_ne, -bne_eq_false_iff_eq]
  rcases ih (i + 1) (by omega) h1 c ops R1 with ⟨h2, c2, j2, b1, e2, l2, R2, B1, q2⟩ | ⟨n2, h2, c2, e2, z2, y2⟩
  rotate_left
  · exact .inr ⟨n2, h2, c2, by simp -implicitDefEqProofs [Tryz.f196, e1, e2, -decide_eq_true_eq, -decide_eq_false_iff_not, -List.any_eq_true, -List.any_eq_false, -bne_iff_ne, -beq_iff_eq, -beq_eq_false_iff_ne, -bne_eq_false_iff_eq], z2, y2⟩
  rcases want_ev R2 [32] (by simp) with ⟨h3, e3, _, l3, R3⟩ | e3
  rotate_left
  · right
    refine ⟨14, h2, c2, ?_, by decide, R2.hz⟩
    simp -implicitDefEqProofs [Tryz.f196, e1, e2, e3, -decide_eq_true_eq, -decide_eq_false_iff_not, -List.any_eq_true, -List.any_eq_false, -bne_iff_ne, -beq_iff_eq, -beq_eq_false_iff_ne, -bne_eq_false_iff_eq]
  simp only [List.length_singleton] at l3 R3
  have e4 := next_c R3
  generalize hx : nx X.s (j2 + 1) = x at e4
  cases g0 : ((x.toNat : Int) == 63)
  rotate_left
  · rcases want_ev R3 [63, 32] (by simp) with ⟨h5, e5, _, l5, R5⟩ | e5
    rotate_left
    · right
      refine ⟨14, h3, c2, ?_, by decide, R3.hz⟩
      simp -implicitDefEqProofs [Tryz.f196, e1, e2, e3, e4, g0, e5, -decide_eq_true_eq, -decide_eq_false_iff_not, -List.any_eq_true, -List.any_eq_false, -bne_iff_ne, -beq_iff_eq, -beq_eq_false_iff_ne, -bne_eq_false_iff_eq]
    simp only [List.length_cons, List.length_nil] at l5 R5
    rcases ih (j2 + 1 + (0 + 1 + 1)) (by omega) h5 c2 (ops ++ b1) R5 with ⟨h6, c6, j6, b2, e6, l6, R6, B2, q6⟩ | ⟨n6, h6, c6, e6, z6, y6⟩
    rotate_left
    · exact .inr ⟨n6, h6, c6, by simp -implicitDefEqProofs [Tryz.f196, e1, e2, e3, e4, g0, e5, e6, -decide_eq_true_eq, -decide_eq_false_iff_not, -List.any_eq_true, -List.any_eq_false, -bne_iff_ne, -beq_iff_eq, -beq_eq_false_iff_ne, -bne_eq_false_iff_eq], z6, y6⟩
    rcases want_ev R6 [32, 58, 32] (by simp) with ⟨h7, e7, _, l7, R7⟩ | e7
    rotate_left
    · right
      refine ⟨14, h6, c6, ?_, by decide, R6.hz⟩
      simp -implicitDefEqProofs [Tryz.f196, e1, e2, e3, e4, g0, e5, e6, e7, -decide_eq_true_eq, -decide_eq_false_iff_not, -List.any_eq_true, -List.any_eq_false, -bne_iff_ne, -beq_iff_eq, -beq_eq_false_iff_ne, -bne_eq_false_iff_eq]
    simp only [List.length_cons, List.length_nil] at l7 R7
    rcases ih (j6 + (0 + 1 + 1 + 1)) (by omega) h7 c6 (ops ++ b1 ++ b2) R7 with ⟨h8, c8, j8, b3, e8, l8, R8, B3, q8⟩ | ⟨n8, h8, c8, e8, z8, y8⟩
    rotate_left
    · exact .inr ⟨n8, h8, c8, by simp -implicitDefEqProofs [Tryz.f196, e1, e2, e3, e4, g0, e5, e6, e7, e8, -decide_eq_true_eq, -decide_eq_false_iff_not, -List.any_eq_true, -List.any_eq_false, -bne_iff_ne, -beq_iff_eq, -beq_eq_false_iff_ne, -bne_eq_false_iff_eq], z8, y8⟩
    have hol := R.ol
    obtain ⟨h9, c9, e9, R9⟩ := put_ev R8 9 0 (by simp only [List.length_append]; omega)
    rcases shut_ev R9 with ⟨h10, e10, R10⟩ | e10
    rotate_left
    · right
      refine ⟨14, h9, c9, ?_, by decide, R9.hz⟩
      simp -implicitDefEqProofs [Tryz.f196, e1, e2, e3, e4, g0, e5, e6, e7, e8, e9, e10, -decide_eq_true_eq, -decide_eq_false_iff_not, -List.any_eq_true, -List.any_eq_false, -bne_iff_ne, -beq_iff_eq, -beq_eq_false_iff_ne, -bne_eq_false_iff_eq]
    left
    refine ⟨h10, c9, j8 + 1, b1 ++ b2 ++ b3 ++ [(9, 0)], ?_, by omega, by simpa only [List.append_assoc] using R10, bal_three B1 B2 B3, by simp only [List.length_append, List.length_singleton]; omega⟩
    simp -implicitDefEqProofs [Tryz.f196, e1, e2, e3, e4, g0, e5, e6, e7, e8, e9, e10, -decide_eq_true_eq, -decide_eq_false_iff_not, -List.any_eq_true, -List.any_eq_false, -bne_iff_ne, -beq_iff_eq, -beq_eq_false_iff_ne, -bne_eq_false_iff_eq]
  cases g1 : ((x.toNat : Int) == 43)
  rotate_left
  · obtain ⟨v, a, b, hb, _⟩ := R3.blk
    have hjl : j2 + 1 < X.s.length := nx_of (b := 43) (by rw [hx]; exact g1) (by decide)
    have hsl := R.sl
    obtain ⟨p, hp⟩ : ∃ p, p = j2 + 1 := ⟨_, rfl⟩
    rw [← hp] at hjl hb
    obtain ⟨q, hq⟩ : ∃ q, q = p + 1 := ⟨_, rfl⟩
    have kw : IntKind.i64.wrap ((p : Int) + 1) = (q : Int) := by rw [wrap_succ (by omega), hq]
    have R4 := R3.turn (by rw [← hp]; exact hb) q a b (by omega) (by have := R3.ol; omega)
    generalize hh4 : h3.put X.nb (some (rdB X (q : Int) v a b)) = h4 at R4
    rcases want_ev R4 [32] (by simp) with ⟨h5, e5, _, l5, R5⟩ | e5
    rotate_left
    · right
      refine ⟨14, h4, c2, ?_, by decide, R4.hz⟩
      simp -implicitDefEqProofs [Tryz.f196, e1, e2, e3, e4, g0, g1, hb, kw, hh4, e5, -decide_eq_true_eq, -decide_eq_false_iff_not, -List.any_eq_true, -List.any_eq_false, -bne_iff_ne, -beq_iff_eq, -beq_eq_false_iff_ne, -bne_eq_false_iff_eq]
    simp only [List.length_singleton] at l5 R5
    rcases ih (q + 1) (by omega) h5 c2 (ops ++ b1) R5 with ⟨h6, c6, j6, b2, e6, l6, R6, B2, q6⟩ | ⟨n6, h6, c6, e6, z6, y6⟩
    rotate_left
    · exact .inr ⟨n6, h6, c6, by simp -implicitDefEqProofs [Tryz.f196, e1, e2, e3, e4, g0, g1, hb, kw, hh4, e5, e6, -decide_eq_true_eq, -decide_eq_false_iff_not, -List.any_eq_true, -List.any_eq_false, -bne_iff_ne, -beq_iff_eq, -beq_eq_false_iff_ne, -bne_eq_false_iff_eq], z6, y6⟩
    have hol := R.ol
    obtain ⟨h9, c9, e9, R9⟩ := put_ev R6 2 0 (by simp only [List.length_append]; omega)
    rcases shut_ev R9 with ⟨h10, e10, R10⟩ | e10
    rotate_left
    · right
      refine ⟨14, h9, c9, ?_, by decide, R9.hz⟩
      simp -implicitDefEqProofs [Tryz.f196, e1, e2, e3, e4, g0, g1, hb, kw, hh4, e5, e6, e9, e10, -decide_eq_true_eq, -decide_eq_false_iff_not, -List.any_eq_true, -List.any_eq_false, -bne_iff_ne, -beq_iff_eq, -beq_eq_false_iff_ne, -bne_eq_false_iff_eq]
    left
    refine ⟨h10, c9, j6 + 1, b1 ++ b2 ++ [(2, 0)], ?_, by omega, by simpa only [List.append_assoc] using R10, bal_two B1 B2 (by decide) (by decide) (by decide) (by decide), by simp only [List.length_append, List.length_singleton]; omega⟩
    simp -implicitDefEqProofs [Tryz.f196, e1, e2, e3, e4, g0, g1, hb, kw, hh4, e5, e6, e9, e10, -decide_eq_true_eq, -decide_eq_false_iff_not, -List.any_eq_true, -List.any_eq_false, -bne_iff_ne, -beq_iff_eq, -beq_eq_false_iff_ne, -bne_eq_false_iff_eq]
  cases g2 : ((x.toNat : Int) == 45)
  rotate_left
  · obtain ⟨v, a, b, hb, _⟩ := R3.blk
    have hjl : j2 + 1 < X.s.length := nx_of (b := 45) (by rw [hx]; exact g2) (by decide)
    have hsl := R.sl
    obtain ⟨p, hp⟩ : ∃ p, p = j2 + 1 := ⟨_, rfl⟩
    rw [← hp] at hjl hb
    obtain ⟨q, hq⟩ : ∃ q, q = p + 1 := ⟨_, rfl⟩
    have kw : IntKind.i64.wrap ((p : Int) + 1) = (q : Int) := by rw [wrap_succ (by omega), hq]
    have R4 := R3.turn (by rw [← hp]; exact hb) q a b (by omega) (by have := R3.ol; omega)
    generalize hh4 : h3.put X.nb (some (rdB X (q : Int) v a b)) = h4 at R4
    rcases want_ev R4 [32] (by simp) with ⟨h5, e5, _, l5, R5⟩ | e5
    rotate_left
    · right
      refine ⟨14, h4, c2, ?_, by decide, R4.hz⟩
      simp -implicitDefEqProofs [Tryz.f196, e1, e2, e3, e4, g0, g1, g2, hb, kw, hh4, e5, -decide_eq_true_eq, -decide_eq_false_iff_not, -List.any_eq_true, -List.any_eq_false, -bne_iff_ne, -beq_iff_eq, -beq_eq_false_iff_ne, -bne_eq_false_iff_eq]
    simp only [List.length_singleton] at l5 R5
    rcases ih (q + 1) (by omega) h5 c2 (ops ++ b1) R5 with ⟨h6, c6, j6, b2, e6, l6, R6, B2, q6⟩ | ⟨n6, h6, c6, e6, z6, y6⟩
    rotate_left
    · exact .inr ⟨n6, h6, c6, by simp -implicitDefEqProofs [Tryz.f196, e1, e2, e3, e4, g0, g1, g2, hb, kw, hh4, e5, e6, -decide_eq_true_eq, -decide_eq_false_iff_not, -List.any_eq_true, -List.any_eq_false, -bne_iff_ne, -beq_iff_eq, -beq_eq_false_iff_ne, -bne_eq_false_iff_eq], z6, y6⟩
    have hol := R.ol
    obtain ⟨h9, c9, e9, R9⟩ := put_ev R6 3 0 (by simp only [List.length_append]; omega)
    rcases shut_ev R9 with ⟨h10, e10, R10⟩ | e10
    rotate_left
    · right
      refine ⟨14, h9, c9, ?_, by decide, R9.hz⟩
      simp -implicitDefEqProofs [Tryz.f196, e1, e2, e3, e4, g0, g1, g2, hb, kw, hh4, e5, e6, e9, e10, -decide_eq_true_eq, -decide_eq_false_iff_not, -List.any_eq_true, -List.any_eq_false, -bne_iff_ne, -beq_iff_eq, -beq_eq_false_iff_ne, -bne_eq_false_iff_eq]
    left
    refine ⟨h10, c9, j6 + 1, b1 ++ b2 ++ [(3, 0)], ?_, by omega, by simpa only [List.append_assoc] using R10, bal_two B1 B2 (by decide) (by decide) (by decide) (by decide), by simp only [List.length_append, List.length_singleton]; omega⟩
    simp -implicitDefEqProofs [Tryz.f196, e1, e2, e3, e4, g0, g1, g2, hb, kw, hh4, e5, e6, e9, e10, -decide_eq_true_eq, -decide_eq_false_iff_not, -List.any_eq_true, -List.any_eq_false, -bne_iff_ne, -beq_iff_eq, -beq_eq_false_iff_ne, -bne_eq_false_iff_eq]
  cases g3 : ((x.toNat : Int) == 42)
  rotate_left
  · obtain ⟨v, a, b, hb, _⟩ := R3.blk
    have hjl : j2 + 1 < X.s.length := nx_of (b := 42) (by rw [hx]; exact g3) (by decide)
    have hsl := R.sl
    obtain ⟨p, hp⟩ : ∃ p, p = j2 + 1 := ⟨_, rfl⟩
    rw [← hp] at hjl hb
    obtain ⟨q, hq⟩ : ∃ q, q = p + 1 := ⟨_, rfl⟩
    have kw : IntKind.i64.wrap ((p : Int) + 1) = (q : Int) := by rw [wrap_succ (by omega), hq]
    have R4 := R3.turn (by rw [← hp]; exact hb) q a b (by omega) (by have := R3.ol; omega)
    generalize hh4 : h3.put X.nb (some (rdB X (q : Int) v a b)) = h4 at R4
    rcases want_ev R4 [32] (by simp) with ⟨h5, e5, _, l5, R5⟩ | e5
    rotate_left
    · right
      refine ⟨14, h4, c2, ?_, by decide, R4.hz⟩
      simp -implicitDefEqProofs [Tryz.f196, e1, e2, e3, e4, g0, g1, g2, g3, hb, kw, hh4, e5, -decide_eq_true_eq, -decide_eq_false_iff_not, -List.any_eq_true, -List.any_eq_false, -bne_iff_ne, -beq_iff_eq, -beq_eq_false_iff_ne, -bne_eq_false_iff_eq]
    simp only [List.length_singleton] at l5 R5
    rcases ih (q + 1) (by omega) h5 c2 (ops ++ b1) R5 with ⟨h6, c6, j6, b2, e6, l6, R6, B2, q6⟩ | ⟨n6, h6, c6, e6, z6, y6⟩
    rotate_left
    · exact .inr ⟨n6, h6, c6, by simp -implicitDefEqProofs [Tryz.f196, e1, e2, e3, e4, g0, g1, g2, g3, hb, kw, hh4, e5, e6, -decide_eq_true_eq, -decide_eq_false_iff_not, -List.any_eq_true, -List.any_eq_false, -bne_iff_ne, -beq_iff_eq, -beq_eq_false_iff_ne, -bne_eq_false_iff_eq], z6, y6⟩
    have hol := R.ol
    obtain ⟨h9, c9, e9, R9⟩ := put_ev R6 4 0 (by simp only [List.length_append]; omega)
    rcases shut_ev R9 with ⟨h10, e10, R10⟩ | e10
    rotate_left
    · right
      refine ⟨14, h9, c9, ?_, by decide, R9.hz⟩
      simp -implicitDefEqProofs [Tryz.f196, e1, e2, e3, e4, g0, g1, g2, g3, hb, kw, hh4, e5, e6, e9, e10, -decide_eq_true_eq, -decide_eq_false_iff_not, -List.any_eq_true, -List.any_eq_false, -bne_iff_ne, -beq_iff_eq, -beq_eq_false_iff_ne, -bne_eq_false_iff_eq]
    left
    refine ⟨h10, c9, j6 + 1, b1 ++ b2 ++ [(4, 0)], ?_, by omega, by simpa only [List.append_assoc] using R10, bal_two B1 B2 (by decide) (by decide) (by decide) (by decide), by simp only [List.length_append, List.length_singleton]; omega⟩
    simp -implicitDefEqProofs [Tryz.f196, e1, e2, e3, e4, g0, g1, g2, g3, hb, kw, hh4, e5, e6, e9, e10, -decide_eq_true_eq, -decide_eq_false_iff_not, -List.any_eq_true, -List.any_eq_false, -bne_iff_ne, -beq_iff_eq, -beq_eq_false_iff_ne, -bne_eq_false_iff_eq]
  cases g4 : ((x.toNat : Int) == 47)
  rotate_left
  · obtain ⟨v, a, b, hb, _⟩ := R3.blk
    have hjl : j2 + 1 < X.s.length := nx_of (b := 47) (by rw [hx]; exact g4) (by decide)
    have hsl := R.sl
    obtain ⟨p, hp⟩ : ∃ p, p = j2 + 1 := ⟨_, rfl⟩
    rw [← hp] at hjl hb
    obtain ⟨q, hq⟩ : ∃ q, q = p + 1 := ⟨_, rfl⟩
    have kw : IntKind.i64.wrap ((p : Int) + 1) = (q : Int) := by rw [wrap_succ (by omega), hq]
    have R4 := R3.turn (by rw [← hp]; exact hb) q a b (by omega) (by have := R3.ol; omega)
    generalize hh4 : h3.put X.nb (some (rdB X (q : Int) v a b)) = h4 at R4
    rcases want_ev R4 [32] (by simp) with ⟨h5, e5, _, l5, R5⟩ | e5
    rotate_left
    · right
      refine ⟨14, h4, c2, ?_, by decide, R4.hz⟩
      simp -implicitDefEqProofs [Tryz.f196, e1, e2, e3, e4, g0, g1, g2, g3, g4, hb, kw, hh4, e5, -decide_eq_true_eq, -decide_eq_false_iff_not, -List.any_eq_true, -List.any_eq_false, -bne_iff_ne, -beq_iff_eq, -beq_eq_false_iff_ne, -bne_eq_false_iff_eq]
    simp only [List.length_singleton] at l5 R5
    rcases ih (q + 1) (by omega) h5 c2 (ops ++ b1) R5 with ⟨h6, c6, j6, b2, e6, l6, R6, B2, q6⟩ | ⟨n6, h6, c6, e6, z6, y6⟩
    rotate_left
    · exact .inr ⟨n6, h6, c6, by simp -implicitDefEqProofs [Tryz.f196, e1, e2, e3, e4, g0, g1, g2, g3, g4, hb, kw, hh4, e5, e6, -decide_eq_true_eq, -decide_eq_false_iff_not, -List.any_eq_true, -List.any_eq_false, -bne_iff_ne, -beq_iff_eq, -beq_eq_false_iff_ne, -bne_eq_false_iff_eq], z6, y6⟩
    have hol := R.ol
    obtain ⟨h9, c9, e9, R9⟩ := put_ev R6 5 0 (by simp only [List.length_append]; omega)
    rcases shut_ev R9 with ⟨h10, e10, R10⟩ | e10
    rotate_left
    · right
      refine ⟨14, h9, c9, ?_, by decide, R9.hz⟩
      simp -implicitDefEqProofs [Tryz.f196, e1, e2, e3, e4, g0, g1, g2, g3, g4, hb, kw, hh4, e5, e6, e9, e10, -decide_eq_true_eq, -decide_eq_false_iff_not, -List.any_eq_true, -List.any_eq_false, -bne_iff_ne, -beq_iff_eq, -beq_eq_false_iff_ne, -bne_eq_false_iff_eq]
    left
    refine ⟨h10, c9, j6 + 1, b1 ++ b2 ++ [(5, 0)], ?_, by omega, by simpa only [List.append_assoc] using R10, bal_two B1 B2 (by decide) (by decide) (by decide) (by decide), by simp only [List.length_append, List.length_singleton]; omega⟩
    simp -implicitDefEqProofs [Tryz.f196, e1, e2, e3, e4, g0, g1, g2, g3, g4, hb, kw, hh4, e5, e6, e9, e10, -decide_eq_true_eq, -decide_eq_false_iff_not, -List.any_eq_true, -List.any_eq_false, -bne_iff_ne, -beq_iff_eq, -beq_eq_false_iff_ne, -bne_eq_false_iff_eq]
  cases g5 : ((x.toNat : Int) == 37)
  rotate_left
  · obtain ⟨v, a, b, hb, _⟩ := R3.blk
    have hjl : j2 + 1 < X.s.length := nx_of (b := 37) (by rw [hx]; exact g5) (by decide)
    have hsl := R.sl
    obtain ⟨p, hp⟩ : ∃ p, p = j2 + 1 := ⟨_, rfl⟩
    rw [← hp] at hjl hb
    obtain ⟨q, hq⟩ : ∃ q, q = p + 1 := ⟨_, rfl⟩
    have kw : IntKind.i64.wrap ((p : Int) + 1) = (q : Int) := by rw [wrap_succ (by omega), hq]
    have R4 := R3.turn (by rw [← hp]; exact hb) q a b (by omega) (by have := R3.ol; omega)
    generalize hh4 : h3.put X.nb (some (rdB X (q : Int) v a b)) = h4 at R4
    rcases want_ev R4 [32] (by simp) with ⟨h5, e5, _, l5, R5⟩ | e5
    rotate_left
    · right
      refine ⟨14, h4, c2, ?_, by decide, R4.hz⟩
      simp -implicitDefEqProofs [Tryz.f196, e1, e2, e3, e4, g0, g1, g2, g3, g4, g5, hb, kw, hh4, e5, -decide_eq_true_eq, -decide_eq_false_iff_not, -List.any_eq_true, -List.any_eq_false, -bne_iff_ne, -beq_iff_eq, -beq_eq_false_iff_ne, -bne_eq_false_iff_eq]
    simp only [List.length_singleton] at l5 R5
    rcases ih (q + 1) (by omega) h5 c2 (ops ++ b1) R5 with ⟨h6, c6, j6, b2, e6, l6, R6, B2, q6⟩ | ⟨n6, h6, c6, e6, z6, y6⟩
    rotate_left
    · exact .inr ⟨n6, h6, c6, by simp -implicitDefEqProofs [Tryz.f196, e1, e2, e3, e4, g0, g1, g2, g3, g4, g5, hb, kw, hh4, e5, e6, -decide_eq_true_eq, -decide_eq_false_iff_not, -List.any_eq_true, -List.any_eq_false, -bne_iff_ne, -beq_iff_eq, -beq_eq_false_iff_ne, -bne_eq_false_iff_eq], z6, y6⟩
    have hol := R.ol
    obtain ⟨h9, c9, e9, R9⟩ := put_ev R6 6 0 (by simp only [List.length_append]; omega)
    rcases shut_ev R9 with ⟨h10, e10, R10⟩ | e10
    rotate_left
    · right
      refine ⟨14, h9, c9, ?_, by decide, R9.hz⟩
      simp -implicitDefEqProofs [Tryz.f196, e1, e2, e3, e4, g0, g1, g2, g3, g4, g5, hb, kw, hh4, e5, e6, e9, e10, -decide_eq_true_eq, -decide_eq_false_iff_not, -List.any_eq_true, -List.any_eq_false, -bne_iff_ne, -beq_iff_eq, -beq_eq_false_iff_ne, -bne_eq_false_iff_eq]
    left
    refine ⟨h10, c9, j6 + 1, b1 ++ b2 ++ [(6, 0)], ?_, by omega, by simpa only [List.append_assoc] using R10, bal_two B1 B2 (by decide) (by decide) (by decide) (by decide), by simp only [List.length_append, List.length_singleton]; omega⟩
    simp -implicitDefEqProofs [Tryz.f196, e1, e2, e3, e4, g0, g1, g2, g3, g4, g5, hb, kw, hh4, e5, e6, e9, e10, -decide_eq_true_eq, -decide_eq_false_iff_not, -List.any_eq_true, -List.any_eq_false, -bne_iff_ne, -beq_iff_eq, -beq_eq_false_iff_ne, -bne_eq_false_iff_eq]
  cases g6 : ((x.toNat : Int) == 60)
  rotate_left
  · obtain ⟨v, a, b, hb, _⟩ := R3.blk
    have hjl : j2 + 1 < X.s.length := nx_of (b := 60) (by rw [hx]; exact g6) (by decide)
    have hsl := R.sl
    obtain ⟨p, hp⟩ : ∃ p, p = j2 + 1 := ⟨_, rfl⟩
    rw [← hp] at hjl hb
    obtain ⟨q, hq⟩ : ∃ q, q = p + 1 := ⟨_, rfl⟩
    have kw : IntKind.i64.wrap ((p : Int) + 1) = (q : Int) := by rw [wrap_succ (by omega), hq]
    have R4 := R3.turn (by rw [← hp]; exact hb) q a b (by omega) (by have := R3.ol; omega)
    generalize hh4 : h3.put X.nb (some (rdB X (q : Int) v a b)) = h4 at R4
    rcases want_ev R4 [32] (by simp) with ⟨h5, e5, _, l5, R5⟩ | e5
    rotate_left
    · right
      refine ⟨14, h4, c2, ?_, by decide, R4.hz⟩
      simp -implicitDefEqProofs [Tryz.f196, e1, e2, e3, e4, g0, g1, g2, g3, g4, g5, g6, hb, kw, hh4, e5, -decide_eq_true_eq, -decide_eq_false_iff_not, -List.any_eq_true, -List.any_eq_false, -bne_iff_ne, -beq_iff_eq, -beq_eq_false_iff_ne, -bne_eq_false_iff_eq]
    simp only [List.length_singleton] at l5 R5
    rcases ih (q + 1) (by omega) h5 c2 (ops ++ b1) R5 with ⟨h6, c6, j6, b2, e6, l6, R6, B2, q6⟩ | ⟨n6, h6, c6, e6, z6, y6⟩
    rotate_left
    · exact .inr ⟨n6, h6, c6, by simp -implicitDefEqProofs [Tryz.f196, e1, e2, e3, e4, g0, g1, g2, g3, g4, g5, g6, hb, kw, hh4, e5, e6, -decide_eq_true_eq, -decide_eq_false_iff_not, -List.any_eq_true, -List.any_eq_false, -bne_iff_ne, -beq_iff_eq, -beq_eq_false_iff_ne, -bne_eq_false_iff_eq], z6, y6⟩
    have hol := R.ol
    obtain ⟨h9, c9, e9, R9⟩ := put_ev R6 7 0 (by simp only [List.length_append]; omega)
    rcases shut_ev R9 with ⟨h10, e10, R10⟩ | e10
    rotate_left
    · right
      refine ⟨14, h9, c9, ?_, by decide, R9.hz⟩
      simp -implicitDefEqProofs [Tryz.f196, e1, e2, e3, e4, g0, g1, g2, g3, g4, g5, g6, hb, kw, hh4, e5, e6, e9, e10, -decide_eq_true_eq, -decide_eq_false_iff_not, -List.any_eq_true, -List.any_eq_false, -bne_iff_ne, -beq_iff_eq, -beq_eq_false_iff_ne, -bne_eq_false_iff_eq]
    left
    refine ⟨h10, c9, j6 + 1, b1 ++ b2 ++ [(7, 0)], ?_, by omega, by simpa only [List.append_assoc] using R10, bal_two B1 B2 (by decide) (by decide) (by decide) (by decide), by simp only [List.length_append, List.length_singleton]; omega⟩
    simp -implicitDefEqProofs [Tryz.f196, e1, e2, e3, e4, g0, g1, g2, g3, g4, g5, g6, hb, kw, hh4, e5, e6, e9, e10, -decide_eq_true_eq, -decide_eq_false_iff_not, -List.any_eq_true, -List.any_eq_false, -bne_iff_ne, -beq_iff_eq, -beq_eq_false_iff_ne, -bne_eq_false_iff_eq]
  cases g7 : ((x.toNat : Int) == 61)
  rotate_left
  · obtain ⟨v, a, b, hb, _⟩ := R3.blk
    have hjl : j2 + 1 < X.s.length := nx_of (b := 61) (by rw [hx]; exact g7) (by decide)
    have hsl := R.sl
    obtain ⟨p, hp⟩ : ∃ p, p = j2 + 1 := ⟨_, rfl⟩
    rw [← hp] at hjl hb
    obtain ⟨q, hq⟩ : ∃ q, q = p + 1 := ⟨_, rfl⟩
    have kw : IntKind.i64.wrap ((p : Int) + 1) = (q : Int) := by rw [wrap_succ (by omega), hq]
    have R4 := R3.turn (by rw [← hp]; exact hb) q a b (by omega) (by have := R3.ol; omega)
    generalize hh4 : h3.put X.nb (some (rdB X (q : Int) v a b)) = h4 at R4
    rcases want_ev R4 [32] (by simp) with ⟨h5, e5, _, l5, R5⟩ | e5
    rotate_left
    · right
      refine ⟨14, h4, c2, ?_, by decide, R4.hz⟩
      simp -implicitDefEqProofs [Tryz.f196, e1, e2, e3, e4, g0, g1, g2, g3, g4, g5, g6, g7, hb, kw, hh4, e5, -decide_eq_true_eq, -decide_eq_false_iff_not, -List.any_eq_true, -List.any_eq_false, -bne_iff_ne, -beq_iff_eq, -beq_eq_false_iff_ne, -bne_eq_false_iff_eq]
    simp only [List.length_singleton] at l5 R5
    rcases ih (q + 1) (by omega) h5 c2 (ops ++ b1) R5 with ⟨h6, c6, j6, b2, e6, l6, R6, B2, q6⟩ | ⟨n6, h6, c6, e6, z6, y6⟩
    rotate_left
    · exact .inr ⟨n6, h6, c6, by simp -implicitDefEqProofs [Tryz.f196, e1, e2, e3, e4, g0, g1, g2, g3, g4, g5, g6, g7, hb, kw, hh4, e5, e6, -decide_eq_true_eq, -decide_eq_false_iff_not, -List.any_eq_true, -List.any_eq_false, -bne_iff_ne, -beq_iff_eq, -beq_eq_false_iff_ne, -bne_eq_false_iff_eq], z6, y6⟩
    have hol := R.ol
    obtain ⟨h9, c9, e9, R9⟩ := put_ev R6 8 0 (by simp only [List.length_append]; omega)
    rcases shut_ev R9 with ⟨h10, e10, R10⟩ | e10
    rotate_left
    · right
      refine ⟨14, h9, c9, ?_, by decide, R9.hz⟩
      simp -implicitDefEqProofs [Tryz.f196, e1, e2, e3, e4, g0, g1, g2, g3, g4, g5, g6, g7, hb, kw, hh4, e5, e6, e9, e10, -decide_eq_true_eq, -decide_eq_false_iff_not, -List.any_eq_true, -List.any_eq_false, -bne_iff_ne, -beq_iff_eq, -beq_eq_false_iff_ne, -bne_eq_false_iff_eq]
    left
    refine ⟨h10, c9, j6 + 1, b1 ++ b2 ++ [(8, 0)], ?_, by omega, by simpa only [List.append_assoc] using R10, bal_two B1 B2 (by decide) (by decide) (by decide) (by decide), by simp only [List.length_append, List.length_singleton]; omega⟩
    simp -implicitDefEqProofs [Tryz.f196, e1, e2, e3, e4, g0, g1, g2, g3, g4, g5, g6, g7, hb, kw, hh4, e5, e6, e9, e10, -decide_eq_true_eq, -decide_eq_false_iff_not, -List.any_eq_true, -List.any_eq_false, -bne_iff_ne, -beq_iff_eq, -beq_eq_false_iff_ne, -bne_eq_false_iff_eq]
  · right
    refine ⟨14, h3, c2, ?_, by decide, R3.hz⟩
    simp -implicitDefEqProofs [Tryz.f196, e1, e2, e3, e4, g0, g1, g2, g3, g4, g5, g6, g7, fail_c, -decide_eq_true_eq, -decide_eq_false_iff_not, -List.any_eq_true, -List.any_eq_false, -bne_iff_ne, -beq_iff_eq, -beq_eq_false_iff_ne, -bne_eq_false_iff_eq]
end Go.Proofs.YtmpcjfkfgjpebaaGreatDoor.AM
