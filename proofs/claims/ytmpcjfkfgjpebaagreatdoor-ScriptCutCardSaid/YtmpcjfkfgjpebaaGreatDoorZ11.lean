/- Texts of the proof: part Z11. -/
import Derived.Test.YtmpcjfkfgjpebaaGreatDoorZ10
set_option maxHeartbeats 0
set_option maxRecDepth 8000
set_option linter.unusedSimpArgs false
set_option linter.unusedVariables false
set_option linter.unusedSectionVars false
namespace Go.Proofs.YtmpcjfkfgjpebaaGreatDoor.AM
open Go Go.Proofs
attribute [local simp] fieldAddrA ld setCells stA skipV appendA hd makeA bnd kindA freshA killOk loadsAt edgesOn Region.binds newT empT lay_get allocA buildA buildRow lenA els indexAddrA isNil opA evA lit_int lit_bool lit_nil lit_nilf yldA binI unA pickA boolV intV fieldA mk eqs nilC mayP
theorem out_of {X : Cx} {na i : Nat} {ops : List (Int × Int)} {o o' : Option (AV × Heap × Nat)} (H : Out X na i ops o) (h1 : ∀ h c, o = some (.tup [], h, c) → o' = some (.tup [], h, c)) (h2 : ∀ n h c, o = some (.pan 27 .i64 n, h, c) → o' = some (.pan 27 .i64 n, h, c)) : Out X na i ops o' := by
  rcases H with ⟨h', c', j, b, e, r⟩ | ⟨n, h', c', e, r⟩
  · exact .inl ⟨h', c', j, b, h1 _ _ e, r⟩
  · exact .inr ⟨n, h', c', h2 _ _ _ e, r⟩
theorem expr_ev {X : Cx} {na : Nat} (hN : NamesOk X na) : ∀ i, ExprAt X na i := by
  have key : ∀ k i, X.s.length - i = k → ExprAt X na i := by
    intro k
    induction k using Nat.strongRecOn with
    | _ k IH =>
      intro i hk h c ops R
      have hsl := R.sl
      have hle := R.le
      have ih : ∀ j, i < j → ExprAt X na j := by
        intro j hj
        by_cases hjl : i < X.s.length
        · exact IH (X.s.length - j) (by omega) j rfl
        · intro h c ops R'
          have := R'.le
          omega
      have e1 := next_c R
      generalize hx : nx X.s i = x at e1
      cases g1 : ((x.toNat : Int) == 40)
      · cases g2 : ((x.toNat : Int) == 45)
        · cases g3 : decide (48 ≤ (x.toNat : Int))
          · refine out_of (named_ev hN ih R) (fun h' c' e2 => ?_) (fun n h' c' e2 => ?_)
            · rw [call_heap rfl, run_eq (show mA 182 = some .heap from rfl) rfl, Tryz.func182]
              simp -implicitDefEqProofs [Tryz.f182, e1, g1, g2, g3, e2, -decide_eq_true_eq, -decide_eq_false_iff_not, -List.any_eq_true, -List.any_eq_false, -bne_iff_ne, -beq_iff_eq, -beq_eq_false_iff_ne, -bne_eq_false_iff_eq]
            · rw [call_heap rfl, run_eq (show mA 182 = some .heap from rfl) rfl, Tryz.func182]
              simp -implicitDefEqProofs [Tryz.f182, e1, g1, g2, g3, e2, -decide_eq_true_eq, -decide_eq_false_iff_not, -List.any_eq_true, -List.any_eq_false, -bne_iff_ne, -beq_iff_eq, -beq_eq_false_iff_ne, -bne_eq_false_iff_eq]
          · cases g4 : decide ((x.toNat : Int) ≤ 57)
            · refine out_of (named_ev hN ih R) (fun h' c' e2 => ?_) (fun n h' c' e2 => ?_)
              · rw [call_heap rfl, run_eq (show mA 182 = some .heap from rfl) rfl, Tryz.func182]
                simp -implicitDefEqProofs [Tryz.f182, e1, g1, g2, g3, g4, e2, -decide_eq_true_eq, -decide_eq_false_iff_not, -List.any_eq_true, -List.any_eq_false, -bne_iff_ne, -beq_iff_eq, -beq_eq_false_iff_ne, -bne_eq_false_iff_eq]
              · rw [call_heap rfl, run_eq (show mA 182 = some .heap from rfl) rfl, Tryz.func182]
                simp -implicitDefEqProofs [Tryz.f182, e1, g1, g2, g3, g4, e2, -decide_eq_true_eq, -decide_eq_false_iff_not, -List.any_eq_true, -List.any_eq_false, -bne_iff_ne, -beq_iff_eq, -beq_eq_false_iff_ne, -bne_eq_false_iff_eq]
            · rw [call_heap rfl, run_eq (show mA 182 = some .heap from rfl) rfl, Tryz.func182]
              rcases digits_ev R with ⟨v, j, h2, e2, v1, v2, l2, R2⟩ | ⟨h2, e2, z2⟩
              · have hol := R.ol
                obtain ⟨h3, c3, e3, R3⟩ := put_ev R2 0 v (by omega)
                refine .inl ⟨h3, c3, j, [(0, v)], ?_, l2, R3, bal_num (by omega) v2, by simp; omega⟩
                simp -implicitDefEqProofs [Tryz.f182, e1, g1, g2, g3, g4, e2, e3, -decide_eq_true_eq, -decide_eq_false_iff_not, -List.any_eq_true, -List.any_eq_false, -bne_iff_ne, -beq_iff_eq, -beq_eq_false_iff_ne, -bne_eq_false_iff_eq]
              · refine .inr ⟨14, h2, c, ?_, by decide, z2⟩
                simp -implicitDefEqProofs [Tryz.f182, e1, g1, g2, g3, g4, e2, -decide_eq_true_eq, -decide_eq_false_iff_not, -List.any_eq_true, -List.any_eq_false, -bne_iff_ne, -beq_iff_eq, -beq_eq_false_iff_ne, -bne_eq_false_iff_eq]
        · rw [call_heap rfl, run_eq (show mA 182 = some .heap from rfl) rfl, Tryz.func182]
          obtain ⟨v0, a, b, hb, _⟩ := R.blk
          have hjl : i < X.s.length := nx_of (b := 45) (by rw [hx]; exact g2) (by decide)
          obtain ⟨q, hq⟩ : ∃ q, q = i + 1 := ⟨_, rfl⟩
          have kw : IntKind.i64.wrap ((i : Int) + 1) = (q : Int) := by rw [wrap_succ (by omega), hq]
          have R1 := R.turn hb q a b (by omega) (by have := R.ol; omega)
          generalize hh1 : h.put X.nb (some (rdB X (q : Int) v0 a b)) = h1 at R1
          rcases digits_ev R1 with ⟨v, j, h2, e2, v1, v2, l2, R2⟩ | ⟨h2, e2, z2⟩
          · cases g3 : (v == 0)
            · have hol := R.ol
              obtain ⟨h3, c3, e3, R3⟩ := put_ev R2 0 (-v) (by omega)
              have kn : IntKind.i64.wrap (-v) = -v := wrap_id (by omega) (by omega)
              have kn2 : IntKind.i64.wrap (0 - v) = -v := by rw [show (0 - v) = -v by omega, kn]
              refine .inl ⟨h3, c3, j, [(0, -v)], ?_, by omega, R3, bal_num (by omega) (by omega), by simp; omega⟩
              simp -implicitDefEqProofs [Tryz.f182, e1, g1, g2, hb, kw, hh1, e2, g3, kn, kn2, e3, -decide_eq_true_eq, -decide_eq_false_iff_not, -List.any_eq_true, -List.any_eq_false, -bne_iff_ne, -beq_iff_eq, -beq_eq_false_iff_ne, -bne_eq_false_iff_eq]
            · refine .inr ⟨14, h2, c, ?_, by decide, R2.hz⟩
              simp -implicitDefEqProofs [Tryz.f182, e1, g1, g2, hb, kw, hh1, e2, g3, fail_c, -decide_eq_true_eq, -decide_eq_false_iff_not, -List.any_eq_true, -List.any_eq_false, -bne_iff_ne, -beq_iff_eq, -beq_eq_false_iff_ne, -bne_eq_false_iff_eq]
          · refine .inr ⟨14, h2, c, ?_, by decide, z2⟩
            simp -implicitDefEqProofs [Tryz.f182, e1, g1, g2, hb, kw, hh1, e2, -decide_eq_true_eq, -decide_eq_false_iff_not, -List.any_eq_true, -List.any_eq_false, -bne_iff_ne, -beq_iff_eq, -beq_eq_false_iff_ne, -bne_eq_false_iff_eq]
      · refine out_of (bracket_ev ih R) (fun h' c' e2 => ?_) (fun n h' c' e2 => ?_)
        · rw [call_heap rfl, run_eq (show mA 182 = some .heap from rfl) rfl, Tryz.func182]
          simp -implicitDefEqProofs [Tryz.f182, e1, g1, e2, -decide_eq_true_eq, -decide_eq_false_iff_not, -List.any_eq_true, -List.any_eq_false, -bne_iff_ne, -beq_iff_eq, -beq_eq_false_iff_ne, -bne_eq_false_iff_eq]
        · rw [call_heap rfl, run_eq (show mA 182 = some .heap from rfl) rfl, Tryz.func182]
          simp -implicitDefEqProofs [Tryz.f182, e1, g1, e2, -decide_eq_true_eq, -decide_eq_false_iff_not, -List.any_eq_true, -List.any_eq_false, -bne_iff_ne, -beq_iff_eq, -beq_eq_false_iff_ne, -bne_eq_false_iff_eq]
  intro i
  exact key _ i rfl
end Go.Proofs.YtmpcjfkfgjpebaaGreatDoor.AM
