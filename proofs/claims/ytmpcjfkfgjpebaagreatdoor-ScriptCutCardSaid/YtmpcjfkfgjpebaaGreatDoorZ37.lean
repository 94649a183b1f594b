/- Texts of the proof: part Z37. -/
import Derived.Test.YtmpcjfkfgjpebaaGreatDoorZ36
set_option maxHeartbeats 0
set_option maxRecDepth 8000
set_option linter.unusedSimpArgs false
set_option linter.unusedVariables false
set_option linter.unusedSectionVars false
namespace Go.Proofs.YtmpcjfkfgjpebaaGreatDoor.AM
open Go Go.Proofs
attribute [local simp] fieldAddrA ld setCells stA skipV appendA hd makeA bnd kindA freshA killOk loadsAt edgesOn Region.binds newT empT lay_get allocA buildA buildRow lenA els indexAddrA isNil opA evA lit_int lit_bool lit_nil lit_nilf yldA binI unA pickA boolV intV fieldA mk eqs nilC mayP
theorem known_z (h : Heap) (c : Nat) : callA mZ (run Tryz.prog mZ) 6 [] h c = some (B true, h, c) := extA (g := gKnown) rfl (fun _ => rfl) rfl rfl h c
theorem compiled_ev (s : Str) : ∃ h c, run Tryz.prog mZ 3 [S s] Heap.none 0 = some (B true, h, c) := by
  rw [run_eq (show mZ 3 = some .pure from rfl) rfl, Tryz.func3]
  have e6 := known_z
  cases g0 : decide (30000 < (s.length : Int))
  rotate_left
  · simp -implicitDefEqProofs [Tryz.f3, g0, e6, -decide_eq_true_eq, -decide_eq_false_iff_not, -List.any_eq_true, -List.any_eq_false, -bne_iff_ne, -beq_iff_eq, -beq_eq_false_iff_ne, -bne_eq_false_iff_eq]
  have g0' : s.length ≤ 30000 := by simp at g0; omega
  obtain ⟨o, hC, e7⟩ := compile_c s (by omega)
  obtain ⟨pv, line, e, rfl, H⟩ := hC
  rcases H with ⟨he, rfl⟩ | ⟨rfl, nb, cb, names, code, rfl, F, V⟩
  · have g1 : (e != 0) = true := by simpa using he
    simp -implicitDefEqProofs [Tryz.f3, g0, e6, e7, g1, -decide_eq_true_eq, -decide_eq_false_iff_not, -List.any_eq_true, -List.any_eq_false, -bne_iff_ne, -beq_iff_eq, -beq_eq_false_iff_ne, -bne_eq_false_iff_eq]
  · have e8 := fun h c => start_c (nb := nb) (cb := cb) F V h c
    have e9 := fun h c => validate_c (nb := nb) (cb := cb) F V h c
    have g1 : ((names.length : Int) == (names.length : Int)) = true := by simp
    simp -implicitDefEqProofs [Tryz.f3, g0, e6, e7, e8, e9, -decide_eq_true_eq, -decide_eq_false_iff_not, -List.any_eq_true, -List.any_eq_false, -bne_iff_ne, -beq_iff_eq, -beq_eq_false_iff_ne, -bne_eq_false_iff_eq]
end Go.Proofs.YtmpcjfkfgjpebaaGreatDoor.AM
