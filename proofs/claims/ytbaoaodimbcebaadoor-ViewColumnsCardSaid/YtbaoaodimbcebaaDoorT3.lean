/- Texts of the proof: part T3. -/
import Derived.Test.YtbaoaodimbcebaaDoorT2
set_option maxHeartbeats 0
set_option linter.unusedSimpArgs false
set_option linter.unusedVariables false
set_option linter.unusedSectionVars false
namespace Go.Proofs.YtbaoaodimbcebaaDoor.AM
open Go Go.Proofs
attribute [local simp] fieldAddrA ld setCells stA skipV appendA hd makeA bnd kindA freshA killOk loadsAt newT empT lay_get allocA buildA buildRow lenA els indexAddrA isNil opA evA lit_int lit_bool lit_nil lit_nilf yldA binI unA pickA boolV intV fieldA mk eqs
theorem known_n : (callN Tryd.prog (mdT tblT) 60 6 [] Heap.none 0).map Prod.fst = some (boolV true) := by kernel_rfl
theorem known_T : ∃ h c, run Tryd.prog (mdT tblT) 6 [] Heap.none 0 = some (boolV true, h, c) := by
  have h := known_n
  cases e : callN Tryd.prog (mdT tblT) 60 6 [] Heap.none 0 with
  | none => rw [e] at h; cases h
  | some p =>
    rw [e] at h
    obtain ⟨r, h', c'⟩ := p
    cases h
    exact ⟨h', c', run_some.mpr ⟨60, e⟩⟩
@[simp] theorem known_c (h : Heap) (c : Nat) : callA (mdT tblT) (run Tryd.prog (mdT tblT)) 6 [] h c = some (B true, h, c) := by
  obtain ⟨h', c', e⟩ := known_T
  exact call_of rfl rfl e rfl rfl
def outP (n lo hi : Int) : Bool := decide (n < lo) || decide (hi < n)
theorem out_ev (n lo hi : Int) : ∃ h c, run Tryd.prog (mdT tblT) 15 [I n, I lo, I hi] Heap.none 0 = some (B (outP n lo hi), h, c) := by
  rw [run_eq (show mdT tblT 15 = some .pure from rfl) rfl, Tryd.func15, outP]
  cases h : decide (n < lo) <;> simp -implicitDefEqProofs [Tryd.f15, h]
@[simp] theorem out_c (n lo hi : Int) (h : Heap) (c : Nat) : callA (mdT tblT) (run Tryd.prog (mdT tblT)) 15 [I n, I lo, I hi] h c = some (B (outP n lo hi), h, c) := by
  obtain ⟨h', c', e⟩ := out_ev n lo hi
  exact call_of rfl rfl e rfl rfl
theorem narrow_ev (n : Int) : ∃ h c, run Tryd.prog (mdT tblT) 17 [I n] Heap.none 0 = some (B (!outP n 1 400), h, c) := by
  rw [run_eq (show mdT tblT 17 = some .pure from rfl) rfl, Tryd.func17, outP]
  by_cases g : 1 ≤ n
  · have k1 : decide (1 ≤ n) = true := by simp [g]
    have k2 : decide (n < 1) = false := by simp; omega
    by_cases g3 : n ≤ 400
    · have k3 : decide (n ≤ 400) = true := by simp [g3]
      have k4 : decide (400 < n) = false := by simp; omega
      simp -implicitDefEqProofs [Tryd.f17, k1, k2, k3, k4, -decide_eq_true_eq, -decide_eq_false_iff_not]
    · have k3 : decide (n ≤ 400) = false := by simp; omega
      have k4 : decide (400 < n) = true := by simp; omega
      simp -implicitDefEqProofs [Tryd.f17, k1, k2, k3, k4, -decide_eq_true_eq, -decide_eq_false_iff_not]
  · have k1 : decide (1 ≤ n) = false := by simp; omega
    have k2 : decide (n < 1) = true := by simp; omega
    simp -implicitDefEqProofs [Tryd.f17, k1, k2, -decide_eq_true_eq, -decide_eq_false_iff_not]
@[simp] theorem narrow_c (n : Int) (h : Heap) (c : Nat) : callA (mdT tblT) (run Tryd.prog (mdT tblT)) 17 [I n] h c = some (B (!outP n 1 400), h, c) := by
  obtain ⟨h', c', e⟩ := narrow_ev n
  exact call_of rfl rfl e rfl rfl
def oddb (b : UInt8) : Bool := outP (b.toNat : Int) 32 126
theorem plain_ev (l : Str) (hl : l.length ≤ 9000000000000) : ∃ h c, run Tryd.prog (mdT tblT) 18 [S l] Heap.none 0 = some (B (!l.any oddb), h, c) := by
  rw [run_eq (show mdT tblT 18 = some .pure from rfl) rfl, Tryd.func18]
  simp -implicitDefEqProofs [Tryd.f18, Option.bind_assoc]
  refine scan_list (R := fun o => ∃ h c, o = some (B (!l.any oddb), h, c)) l oddb (fun j s => s.t 0 = S l ∧ s.t 5 = I l.length ∧ s.t 6 = I j) _ ?_ ?_ ?_ ?_
  · simp
  · rintro j ⟨t, h, c⟩ ⟨h0, h5, h6⟩ hj hf
    simp only at h0 h5 h6
    have k0 : decide ((j : Int) < (l.length : Int)) = true := by simp; omega
    have k1 := hf
    unfold oddb outP at k1
    rw [Bool.or_eq_false_iff] at k1
    obtain ⟨k1, k2⟩ := k1
    simp -implicitDefEqProofs [h0, h5, h6, k0, k1, k2, hj, -decide_eq_true_eq, -decide_eq_false_iff_not]
    exact wrap_succ (by omega)
  · rintro j ⟨t, h, c⟩ ⟨h0, h5, h6⟩ hj hf ha
    simp only at h0 h5 h6
    have k0 : decide ((j : Int) < (l.length : Int)) = true := by simp; omega
    have k1 := hf
    unfold oddb outP at k1
    cases k2 : decide ((l[j].toNat : Int) < 32)
    · rw [k2, Bool.false_or] at k1
      simp -implicitDefEqProofs [h0, h5, h6, k0, k1, k2, hj, ha, -decide_eq_true_eq, -decide_eq_false_iff_not, -List.any_eq_true, -List.any_eq_false]
    · simp -implicitDefEqProofs [h0, h5, h6, k0, k2, hj, ha, -decide_eq_true_eq, -decide_eq_false_iff_not, -List.any_eq_true, -List.any_eq_false]
  · rintro ⟨t, h, c⟩ ⟨h0, h5, h6⟩ ha
    simp only at h0 h5 h6
    simp -implicitDefEqProofs [h0, h5, h6, ha, -decide_eq_true_eq, -decide_eq_false_iff_not, -List.any_eq_true, -List.any_eq_false]
theorem plain_c (l : Str) (hl : l.length ≤ 9000000000000) (h : Heap) (c : Nat) : callA (mdT tblT) (run Tryd.prog (mdT tblT)) 18 [S l] h c = some (B (!l.any oddb), h, c) := by
  obtain ⟨h', c', e⟩ := plain_ev l hl
  exact call_of rfl rfl e rfl rfl
theorem odd_ev (l : Str) (hl : l.length ≤ 9000000000000) : ∃ h c, run Tryd.prog (mdT tblT) 16 [S l] Heap.none 0 = some (B (l.any oddb), h, c) := by
  rw [run_eq (show mdT tblT 16 = some .pure from rfl) rfl, Tryd.func16]
  simp -implicitDefEqProofs [Tryd.f16, Option.bind_assoc]
  refine scan_list (R := fun o => ∃ h c, o = some (B (l.any oddb), h, c)) l oddb (fun j s => s.t 0 = S l ∧ s.t 3 = I j) _ ?_ ?_ ?_ ?_
  · simp
  · rintro j ⟨t, h, c⟩ ⟨h0, h3⟩ hj hf
    simp only at h0 h3
    have k0 : decide ((j : Int) < (l.length : Int)) = true := by simp; omega
    have k1 := hf
    unfold oddb outP at k1
    rw [Bool.or_eq_false_iff] at k1
    obtain ⟨k1, k2⟩ := k1
    simp -implicitDefEqProofs [h0, h3, k0, k1, k2, hj, -decide_eq_true_eq, -decide_eq_false_iff_not]
    exact wrap_succ (by omega)
  · rintro j ⟨t, h, c⟩ ⟨h0, h3⟩ hj hf ha
    simp only at h0 h3
    have k0 : decide ((j : Int) < (l.length : Int)) = true := by simp; omega
    have k1 := hf
    unfold oddb outP at k1
    cases k2 : decide ((l[j].toNat : Int) < 32)
    · rw [k2, Bool.false_or] at k1
      simp -implicitDefEqProofs [h0, h3, k0, k1, k2, hj, ha, -decide_eq_true_eq, -decide_eq_false_iff_not, -List.any_eq_true, -List.any_eq_false]
    · simp -implicitDefEqProofs [h0, h3, k0, k2, hj, ha, -decide_eq_true_eq, -decide_eq_false_iff_not, -List.any_eq_true, -List.any_eq_false]
  · rintro ⟨t, h, c⟩ ⟨h0, h3⟩ ha
    simp only at h0 h3
    simp -implicitDefEqProofs [h0, h3, ha, -decide_eq_true_eq, -decide_eq_false_iff_not, -List.any_eq_true, -List.any_eq_false]
theorem odd_c (l : Str) (hl : l.length ≤ 9000000000000) (h : Heap) (c : Nat) : callA (mdT tblT) (run Tryd.prog (mdT tblT)) 16 [S l] h c = some (B (l.any oddb), h, c) := by
  obtain ⟨h', c', e⟩ := odd_ev l hl
  exact call_of rfl rfl e rfl rfl
end Go.Proofs.YtbaoaodimbcebaaDoor.AM
