/- Texts of the proof: part T4. -/
import Derived.Test.YtbaoaodimbcebaaDoorT3
set_option maxHeartbeats 0
set_option linter.unusedSimpArgs false
set_option linter.unusedVariables false
set_option linter.unusedSectionVars false
namespace Go.Proofs.YtbaoaodimbcebaaDoor.AM
open Go Go.Proofs
attribute [local simp] fieldAddrA ld setCells stA skipV appendA hd makeA bnd kindA freshA killOk loadsAt newT empT lay_get allocA buildA buildRow lenA els indexAddrA isNil opA evA lit_int lit_bool lit_nil lit_nilf yldA binI unA pickA boolV intV fieldA mk eqs
theorem ne_zip : ∀ (a b : List Str), a.length = b.length → (a.zip b).any (fun p => p.1 != p.2) = !(a == b)
  | [], [], _ => rfl
  | x :: a, y :: b, h => by
    have := ne_zip a b (by simpa using h)
    rw [List.zip_cons_cons, List.any_cons, this]
    show (!(x == y) || !(a == b)) = !(x == y && a == b)
    cases (x == y) <;> rfl
  | [], _ :: _, h => by simp at h
  | _ :: _, [], h => by simp at h
theorem list_ev (z z' : Bool) (a b : List Str) (hl : a.length ≤ 9000000000000) : ∃ h c, run Tryd.prog (mdT tblT) 9 [.ro z (strs a), .ro z' (strs b)] Heap.none 0 = some (B (a == b), h, c) := by
  rw [run_eq (show mdT tblT 9 = some .pure from rfl) rfl, Tryd.func9]
  by_cases g0 : a.length = b.length
  · have k0 : ((a.length : Int) != (b.length : Int)) = false := by simp; omega
    simp -implicitDefEqProofs [Tryd.f9, k0, Option.bind_assoc, -decide_eq_true_eq, -decide_eq_false_iff_not]
    refine scan_list (R := fun o => ∃ h c, o = some (B (a == b), h, c)) (a.zip b) (fun p => p.1 != p.2) (fun j s => s.t 0 = .ro z (strs a) ∧ s.t 1 = .ro z' (strs b) ∧ s.t 5 = I j) _ ?_ ?_ ?_ ?_
    · simp
    · rintro j ⟨t, h, c⟩ ⟨h0, h1, h5⟩ hj hf
      simp only at h0 h1 h5
      have hj1 : j < a.length := by simp at hj; omega
      have hj2 : j < b.length := by simp at hj; omega
      have k1 : decide ((j : Int) < (a.length : Int)) = true := by simp; omega
      simp only [List.getElem_zip] at hf
      simp -implicitDefEqProofs [h0, h1, h5, k1, hf, hj1, hj2, -decide_eq_true_eq, -decide_eq_false_iff_not, -bne_iff_ne, -bne_eq_false_iff_eq]
      exact wrap_succ (by omega)
    · rintro j ⟨t, h, c⟩ ⟨h0, h1, h5⟩ hj hf ha
      simp only at h0 h1 h5
      have hj1 : j < a.length := by simp at hj; omega
      have hj2 : j < b.length := by simp at hj; omega
      have k1 : decide ((j : Int) < (a.length : Int)) = true := by simp; omega
      simp only [List.getElem_zip] at hf
      rw [ne_zip a b g0] at ha
      have ha' : (a == b) = false := by simpa using ha
      simp -implicitDefEqProofs [h0, h1, h5, k1, hf, hj1, hj2, ha', -decide_eq_true_eq, -decide_eq_false_iff_not, -bne_iff_ne, -bne_eq_false_iff_eq, -beq_iff_eq, -beq_eq_false_iff_ne]
    · rintro ⟨t, h, c⟩ ⟨h0, h1, h5⟩ ha
      simp only at h0 h1 h5
      rw [ne_zip a b g0] at ha
      have ha' : (a == b) = true := by simpa using ha
      have hz : (a.zip b).length = a.length := by simp; omega
      rw [hz] at h5
      simp -implicitDefEqProofs [h0, h1, h5, ha', -decide_eq_true_eq, -decide_eq_false_iff_not, -bne_iff_ne, -bne_eq_false_iff_eq, -beq_iff_eq, -beq_eq_false_iff_ne]
  · have k0 : ((a.length : Int) != (b.length : Int)) = true := by simp; omega
    have ha' : (a == b) = false := by
      rw [beq_eq_false_iff_ne]
      intro e
      exact g0 (by rw [e])
    simp -implicitDefEqProofs [Tryd.f9, k0, ha', -decide_eq_true_eq, -decide_eq_false_iff_not, -bne_iff_ne, -beq_iff_eq, -beq_eq_false_iff_ne]
theorem frz_strs (h : Heap) (n : Nat) (b : Bool) (a : List Str) : frz h (n + 1) (.ro b (strs a)) = some (.ro b (strs a)) := rfl
theorem list_c (z z' : Bool) (a b : List Str) (hl : a.length ≤ 9000000000000) (h : Heap) (c : Nat) : callA (mdT tblT) (run Tryd.prog (mdT tblT)) 9 [.ro z (strs a), .ro z' (strs b)] h c = some (B (a == b), h, c) := by
  obtain ⟨h', c', e⟩ := list_ev z z' a b hl
  exact call_of rfl rfl e rfl rfl
/-! ### the first blank -/
abbrev idx (l : Str) : Int := Lib.indexByte l 32
theorem call74 (orc : Orc) (l : Str) (n : Int) (h : Heap) (c : Nat) : callA (mdT tblT) orc 74 [S l, .val (.int .u8 n)] h c = some (I (Lib.indexByte l n.toNat.toUInt8), h, c) := rfl
theorem ib_ev (l : Str) : ∃ h c, run Tryd.prog (mdT tblT) 72 [S l, .val (.int .u8 32)] Heap.none 0 = some (I (idx l), h, c) := by
  rw [run_eq (show mdT tblT 72 = some .pure from rfl) rfl, Tryd.func72]
  simp -implicitDefEqProofs [Tryd.f72, call74]
theorem ib_c (l : Str) (h : Heap) (c : Nat) : callA (mdT tblT) (run Tryd.prog (mdT tblT)) 72 [S l, .val (.int .u8 32)] h c = some (I (idx l), h, c) := by
  obtain ⟨h', c', e⟩ := ib_ev l
  exact call_of rfl rfl e rfl rfl
theorem ib_u (l : Str) (h : Heap) (c : Nat) : callA (mdT tblT) (run Tryd.prog (mdT tblT)) 72 [S l, U 32] h c = some (I (idx l), h, c) := ib_c l h c
theorem ix_ev (l : Str) : ∃ h c, run Tryd.prog (mdT tblT) 67 [S l, S [32]] Heap.none 0 = some (I (idx l), h, c) := by
  rw [run_eq (show mdT tblT 67 = some .pure from rfl) rfl, Tryd.func67]
  cases g : (([32] : Str) == l)
  · simp -implicitDefEqProofs [Tryd.f67, g, ib_u, -beq_iff_eq, -beq_eq_false_iff_ne]
  · have e : l = [32] := (beq_iff_eq.1 g).symm
    subst e
    simp -implicitDefEqProofs [Tryd.f67, idx, Lib.indexByte]
theorem ix_c (l : Str) (h : Heap) (c : Nat) : callA (mdT tblT) (run Tryd.prog (mdT tblT)) 67 [S l, S [32]] h c = some (I (idx l), h, c) := by
  obtain ⟨h', c', e⟩ := ix_ev l
  exact call_of rfl rfl e rfl rfl
theorem index_ev (l : Str) : ∃ h c, run Tryd.prog (mdT tblT) 62 [S l, S [32]] Heap.none 0 = some (I (idx l), h, c) := by
  rw [run_eq (show mdT tblT 62 = some .pure from rfl) rfl, Tryd.func62]
  simp -implicitDefEqProofs [Tryd.f62, ix_c]
theorem index_c (l : Str) (h : Heap) (c : Nat) : callA (mdT tblT) (run Tryd.prog (mdT tblT)) 62 [S l, S [32]] h c = some (I (idx l), h, c) := by
  obtain ⟨h', c', e⟩ := index_ev l
  exact call_of rfl rfl e rfl rfl
end Go.Proofs.YtbaoaodimbcebaaDoor.AM
