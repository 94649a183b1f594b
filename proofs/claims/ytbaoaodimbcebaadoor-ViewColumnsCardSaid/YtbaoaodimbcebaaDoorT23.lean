/- Texts of the proof: part T23. -/
import Derived.Test.YtbaoaodimbcebaaDoorT22
set_option maxHeartbeats 0
set_option maxRecDepth 8000
set_option linter.unusedSimpArgs false
set_option linter.unusedVariables false
set_option linter.unusedSectionVars false
namespace Go.Proofs.YtbaoaodimbcebaaDoor.AM
open Go Go.Proofs
attribute [local simp] fieldAddrA ld setCells stA skipV appendA hd makeA bnd kindA freshA killOk loadsAt newT empT lay_get allocA buildA buildRow lenA els indexAddrA isNil opA evA lit_int lit_bool lit_nil lit_nilf yldA binI unA pickA boolV intV fieldA mk eqs
/-- What is asked of a row, of all rows. -/
def SOk (l : List Str) : Prop := ∀ y ∈ l, y.length ≤ 5000
def rowOk (r : Row) : Prop := r.2.length ≤ 1200 ∧ SOk r.2
def ROk (l : List Row) : Prop := ∀ r ∈ l, rowOk r
def Bd (rs : List Row) : Prop := rs.length ≤ 1200 ∧ ROk rs
theorem sok_step {l : List Str} {i : Nat} {y : Str} (h : SOk (l.take i)) (hy : l[i]? = some y) (hl : y.length ≤ 5000) : SOk (l.take (i + 1)) := by
  intro x hx
  rw [List.take_add_one, hy] at hx
  rcases List.mem_append.1 hx with hx | hx
  · exact h x hx
  · simp at hx; subst hx; exact hl
theorem rok_step {l : List Row} {i : Nat} {y : Row} (h : ROk (l.take i)) (hy : l[i]? = some y) (hl : rowOk y) : ROk (l.take (i + 1)) := by
  intro x hx
  rw [List.take_add_one, hy] at hx
  rcases List.mem_append.1 hx with hx | hx
  · exact h x hx
  · simp only [Option.toList_some, List.mem_singleton] at hx; subst hx; exact hl
theorem sok_nil : SOk [] := fun _ h => by cases h
theorem rok_nil : ROk [] := fun _ h => by cases h
def LongR (rs : List Row) (o : Option (AV × Heap × Nat)) : Prop := ∃ b : Bool, (∃ h c, o = some (B b, h, c)) ∧ (b = false → Bd rs)
theorem long_ev (z : Bool) (rs : List Row) : LongR rs (run Tryd.prog (mdT tblT) 11 [.ro z (rowsE rs)] Heap.none 0) := by
  rw [run_eq (show mdT tblT 11 = some .pure from rfl) rfl, Tryd.func11]
  by_cases g : 1200 < rs.length
  · have k : decide (1200 < (rs.length : Int)) = true := by simp; omega
    simp -implicitDefEqProofs [Tryd.f11, k, -decide_eq_true_eq, -decide_eq_false_iff_not, -List.any_eq_true, -List.any_eq_false, -bne_iff_ne, -beq_iff_eq, -beq_eq_false_iff_ne, -bne_eq_false_iff_eq]
    exact ⟨true, ⟨_, _, rfl⟩, by simp⟩
  · have k : decide (1200 < (rs.length : Int)) = false := by simp; omega
    simp -implicitDefEqProofs [Tryd.f11, k, Option.bind_assoc, -decide_eq_true_eq, -decide_eq_false_iff_not, -List.any_eq_true, -List.any_eq_false, -bne_iff_ne, -beq_iff_eq, -beq_eq_false_iff_ne, -bne_eq_false_iff_eq]
    refine loop_to (R := LongR rs)
      (fun k s => ∃ j, k = rs.length - j ∧ j ≤ rs.length ∧ s.t 0 = .ro z (rowsE rs) ∧ (∃ n, s.t 3 = I n) ∧ s.t 4 = I (j : Nat) ∧ ROk (rs.take j))
      (fun e s => (e = .exit 0 ∧ ROk rs) ∨ (e = .ret ∧ s.t 2 = B true)) ?_ ?_ rs.length _ ?_
    · rintro k0 ⟨t, h, c⟩ ⟨j, rfl, hj, h0, ⟨n, h3⟩, h4, hok⟩
      simp only at h0 h3 h4
      by_cases g1 : j < rs.length
      · have k1 : decide (j < rs.length) = true := by simp [g1]
        obtain ⟨r, hr⟩ : ∃ r, rs[j]? = some r := ⟨rs[j], by simp [g1]⟩
        by_cases g2 : 1200 < r.2.length
        · have k2 : decide (1200 < (r.2.length : Int)) = true := by simp; omega
          simp -implicitDefEqProofs [h0, h3, h4, k1, hr, k2, to_normal, to_exit, to_ret, -decide_eq_true_eq, -decide_eq_false_iff_not, -List.any_eq_true, -List.any_eq_false, -bne_iff_ne, -beq_iff_eq, -beq_eq_false_iff_ne, -bne_eq_false_iff_eq]
        · have k2 : decide (1200 < (r.2.length : Int)) = false := by simp; omega
          simp -implicitDefEqProofs [h0, h3, h4, k1, hr, k2, to_normal, to_exit, to_ret, Option.bind_assoc, -decide_eq_true_eq, -decide_eq_false_iff_not, -List.any_eq_true, -List.any_eq_false, -bne_iff_ne, -beq_iff_eq, -beq_eq_false_iff_ne, -bne_eq_false_iff_eq]
          refine loop_to (R := RoundTo (fun k s => ∃ j, k = rs.length - j ∧ j ≤ rs.length ∧ s.t 0 = .ro z (rowsE rs) ∧ (∃ n, s.t 3 = I n) ∧ s.t 4 = I (j : Nat) ∧ ROk (rs.take j)) (fun e s => (e = .exit 0 ∧ ROk rs) ∨ (e = .ret ∧ s.t 2 = B true)) (rs.length - j))
            (fun k s => ∃ i, k = r.2.length - i ∧ i ≤ r.2.length ∧ s.t 0 = .ro z (rowsE rs) ∧ (∃ n, s.t 3 = I n) ∧ s.t 4 = I (j : Nat) ∧ s.t 5 = I (i : Nat) ∧ SOk (r.2.take i))
            (fun e s => (e = .exit 2 ∧ s.t 0 = .ro z (rowsE rs) ∧ (∃ n, s.t 3 = I n) ∧ s.t 4 = I (j : Nat) ∧ SOk r.2) ∨ (e = .ret ∧ s.t 2 = B true)) ?_ ?_ r.2.length _ ?_
          · rintro k0 ⟨t2, h2, c2⟩ ⟨i, rfl, hi, a0, ⟨n2, a3⟩, a4, a5, hoks⟩
            simp only at a0 a3 a4 a5
            by_cases g3 : i < r.2.length
            · have k3 : decide (i < r.2.length) = true := by simp [g3]
              obtain ⟨y, hy⟩ : ∃ y, r.2[i]? = some y := ⟨r.2[i], by simp [g3]⟩
              by_cases g4 : 5000 < y.length
              · have k4 : decide (5000 < (y.length : Int)) = true := by simp; omega
                simp -implicitDefEqProofs [a0, a3, a4, a5, k3, hr, hy, k4, to_normal, to_exit, to_ret, -decide_eq_true_eq, -decide_eq_false_iff_not, -List.any_eq_true, -List.any_eq_false, -bne_iff_ne, -beq_iff_eq, -beq_eq_false_iff_ne, -bne_eq_false_iff_eq]
              · have k4 : decide (5000 < (y.length : Int)) = false := by simp; omega
                cases k5 : decide (200000 < n2)
                · have ki : IntKind.i64.wrap ((i : Int) + 1) = ((i + 1 : Nat) : Int) := wrap_succ (by omega)
                  simp -implicitDefEqProofs [a0, a3, a4, a5, k3, hr, hy, k4, k5, ki, to_normal, to_exit, to_ret, -decide_eq_true_eq, -decide_eq_false_iff_not, -List.any_eq_true, -List.any_eq_false, -bne_iff_ne, -beq_iff_eq, -beq_eq_false_iff_ne, -bne_eq_false_iff_eq]
                  exact ⟨r.2.length - (i + 1), by omega, i + 1, rfl, by omega, rfl, sok_step hoks hy (by omega)⟩
                · simp -implicitDefEqProofs [a0, a3, a4, a5, k3, hr, hy, k4, k5, to_normal, to_exit, to_ret, -decide_eq_true_eq, -decide_eq_false_iff_not, -List.any_eq_true, -List.any_eq_false, -bne_iff_ne, -beq_iff_eq, -beq_eq_false_iff_ne, -bne_eq_false_iff_eq]
            · have k3 : decide (i < r.2.length) = false := by simp; omega
              simp -implicitDefEqProofs [a0, a3, a4, a5, k3, hr, to_normal, to_exit, to_ret, -decide_eq_true_eq, -decide_eq_false_iff_not, -List.any_eq_true, -List.any_eq_false, -bne_iff_ne, -beq_iff_eq, -beq_eq_false_iff_ne, -bne_eq_false_iff_eq]
              rw [List.take_of_length_le (by omega)] at hoks
              exact hoks
          · rintro e ⟨t2, h2, c2⟩ (⟨rfl, a0, ⟨n2, a3⟩, a4, hoks⟩ | ⟨rfl, a2⟩)
            · simp only at a0 a3 a4
              have ki : IntKind.i64.wrap ((j : Int) + 1) = ((j + 1 : Nat) : Int) := wrap_succ (by omega)
              simp -implicitDefEqProofs [a0, a3, a4, ki, to_normal, to_exit, to_ret, -decide_eq_true_eq, -decide_eq_false_iff_not, -List.any_eq_true, -List.any_eq_false, -bne_iff_ne, -beq_iff_eq, -beq_eq_false_iff_ne, -bne_eq_false_iff_eq]
              exact ⟨rs.length - (j + 1), by omega, j + 1, rfl, by omega, rfl, rok_step hok hr ⟨by omega, hoks⟩⟩
            · simp only at a2
              simp -implicitDefEqProofs [a2, to_normal, to_exit, to_ret, -decide_eq_true_eq, -decide_eq_false_iff_not, -List.any_eq_true, -List.any_eq_false, -bne_iff_ne, -beq_iff_eq, -beq_eq_false_iff_ne, -bne_eq_false_iff_eq]
          · exact ⟨0, by simp, by omega, by simp [h0], ⟨n, by simp [h3]⟩, by simp [h4], by simp, by simpa using sok_nil⟩
      · have k1 : decide (j < rs.length) = false := by simp; omega
        simp -implicitDefEqProofs [h0, h3, h4, k1, to_normal, to_exit, to_ret, -decide_eq_true_eq, -decide_eq_false_iff_not, -List.any_eq_true, -List.any_eq_false, -bne_iff_ne, -beq_iff_eq, -beq_eq_false_iff_ne, -bne_eq_false_iff_eq]
        rw [List.take_of_length_le (by omega)] at hok
        exact hok
    · rintro e ⟨t, h, c⟩ (⟨rfl, hok⟩ | ⟨rfl, h2⟩)
      · simp -implicitDefEqProofs [-decide_eq_true_eq, -decide_eq_false_iff_not, -List.any_eq_true, -List.any_eq_false, -bne_iff_ne, -beq_iff_eq, -beq_eq_false_iff_ne, -bne_eq_false_iff_eq]
        exact ⟨false, ⟨_, _, rfl⟩, fun _ => ⟨by omega, hok⟩⟩
      · simp only at h2
        simp -implicitDefEqProofs [h2, -decide_eq_true_eq, -decide_eq_false_iff_not, -List.any_eq_true, -List.any_eq_false, -bne_iff_ne, -beq_iff_eq, -beq_eq_false_iff_ne, -bne_eq_false_iff_eq]
        exact ⟨true, ⟨_, _, rfl⟩, by simp⟩
    · exact ⟨0, by simp, by omega, by simp, ⟨0, by simp⟩, by simp, by simpa using rok_nil⟩
theorem long_c (z : Bool) (rs : List Row) : ∃ b, (∀ h c, callA (mdT tblT) (run Tryd.prog (mdT tblT)) 11 [.ro z (rowsE rs)] h c = some (B b, h, c)) ∧ (b = false → Bd rs) := by
  obtain ⟨b, ⟨h', c', e⟩, e2⟩ := long_ev z rs
  exact ⟨b, fun h c => call_of rfl rfl e rfl rfl, e2⟩
end Go.Proofs.YtbaoaodimbcebaaDoor.AM
