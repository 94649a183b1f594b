/- Texts of the proof: part S5. -/
import Derived.Test.YtgbdbenepnbajaaGreatDoorS3
set_option maxHeartbeats 0
set_option maxRecDepth 8000
set_option linter.unusedSimpArgs false
set_option linter.unusedVariables false
set_option linter.unusedSectionVars false
namespace Go.Proofs.YtgbdbenepnbajaaGreatDoor.AM
open Go Go.Proofs
attribute [local simp] fieldAddrA ld setCells stA skipV appendA hd makeA bnd kindA freshA killOk loadsAt edgesOn Region.binds newT empT lay_get allocA buildA buildRow lenA els indexAddrA isNil opA evA lit_int lit_bool lit_nil lit_nilf yldA binI unA pickA boolV intV fieldA mk eqs eqK nilC mayP sliceA shA
theorem mixL : Tryz.prog.follows .mixedOrders = true := by kernel_rfl
def gKnown : List AV → Option AV
  | [] => some (.val (.bool true))
  | _ => none
noncomputable def tblL : List (Nat × CMode) := [(3, .pure), (4, .ext gKnown), (5, .pure), (6, .pure), (7, .pure), (12, .pure), (13, .pure), (14, .pure), (15, .pure), (16, .heap), (17, .heap), (32, .heap), (33, .heap), (34, .pure), (35, .heap)]
noncomputable abbrev mL : Nat → Option CMode := mdT tblL
theorem chkL : tblChk Tryz.prog tblL = true := by kernel_rfl
abbrev Y (n : Int) : AV := .val (.int .u8 n)
abbrev bys (l : List Int) : List (List AV) := l.map fun n => [Y n]
/-- A codec that reads. -/
abbrev cdB (nb : Bool) (l : List Int) (bad : Bool) : Blk := ⟨4, [[.ro nb (bys l), B true, B bad, I 0]], some 79⟩
abbrev yB (n : Int) : Blk := ⟨1, [[Y n]], some 5⟩
abbrev iB (n : Int) : Blk := ⟨1, [[I n]], some 3⟩
theorem tk_bys (l : List Int) : List.take l.length (l.map fun n => [Y n]) = l.map fun n => [Y n] := List.take_of_length_le (by simp)
theorem hd_bys (l : List Int) : AM.hd (bys l) 1 = true := by cases l <;> rfl
theorem cv_5_3 (h : Heap) (n : Int) : convA Tryz.prog 5 3 h (Y n) = some (I (IntKind.i64.wrap n)) := by simp [convA, Tryz.underlying5, Tryz.underlying3]
theorem cv_5_32 (h : Heap) (n : Int) : convA Tryz.prog 5 32 h (Y n) = some (.val (.int .u64 (IntKind.u64.wrap n))) := by simp [convA, Tryz.underlying5, Tryz.underlying32]
theorem cv_32_3 (h : Heap) (n : Int) : convA Tryz.prog 32 3 h (.val (.int .u64 n)) = some (I (IntKind.i64.wrap n)) := by simp [convA, Tryz.underlying32, Tryz.underlying3]
theorem cv_5_113 (h : Heap) (n : Int) : convA Tryz.prog 5 113 h (Y n) = some (.val (.int .u32 (IntKind.u32.wrap n))) := by simp [convA, Tryz.underlying5, Tryz.underlying113]
theorem cv_113_3 (h : Heap) (n : Int) : convA Tryz.prog 113 3 h (.val (.int .u32 n)) = some (I (IntKind.i64.wrap n)) := by simp [convA, Tryz.underlying113, Tryz.underlying3]
/-- A byte is read. -/
theorem octet_cons {k p : Nat} (hk : p ≠ k) {h : Heap} {c : Nat} {nb bad : Bool} {y x0 : Int} {l : List Int} (a : h k = some (cdB nb (y :: l) bad)) (b : h p = some (yB x0)) :
    callA mL (run Tryz.prog mL) 16 [.ptr k 0 0, .ptr p 0 0] h c = some (.tup [], (h.put p (some (yB y))).put k (some (cdB nb l bad)), c) := by
  rw [call_heap rfl, run_eq (show mL 16 = some .heap from rfl) rfl, Tryz.func16]
  have k1 : k ≠ p := fun e => hk e.symm
  have k2 : (p != k) = true := by simpa using hk
  have k3 : (k != p) = true := by simpa using k1
  have g0 : (((l.length : Int) + 1) == 0) = false := by simp; omega
  have g1 : (1 : Int) ≤ (l.length : Int) + 1 := by omega
  simp -implicitDefEqProofs [Tryz.f16, a, b, hk, k1, k2, k3, g0, g1, tk_bys, -decide_eq_true_eq, -decide_eq_false_iff_not, -List.any_eq_true, -List.any_eq_false, -bne_iff_ne, -beq_iff_eq, -beq_eq_false_iff_ne, -bne_eq_false_iff_eq]
theorem octet_nil {k p : Nat} (hk : p ≠ k) {h : Heap} {c : Nat} {nb bad : Bool} {x0 : Int} (a : h k = some (cdB nb [] bad)) (b : h p = some (yB x0)) :
    callA mL (run Tryz.prog mL) 16 [.ptr k 0 0, .ptr p 0 0] h c = some (.tup [], (h.put k (some (cdB nb [] true))).put p (some (yB 0)), c) := by
  rw [call_heap rfl, run_eq (show mL 16 = some .heap from rfl) rfl, Tryz.func16]
  have k1 : k ≠ p := fun e => hk e.symm
  simp -implicitDefEqProofs [Tryz.f16, a, b, hk, k1, -decide_eq_true_eq, -decide_eq_false_iff_not, -List.any_eq_true, -List.any_eq_false, -bne_iff_ne, -beq_iff_eq, -beq_eq_false_iff_ne, -bne_eq_false_iff_eq]
  rfl
end Go.Proofs.YtgbdbenepnbajaaGreatDoor.AM
