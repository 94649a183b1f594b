/- Texts of the proof: part B3. -/
import Derived.Test.YtdckleaemkcapaaB2
set_option maxHeartbeats 0
set_option linter.unusedSimpArgs false
set_option linter.unusedVariables false
set_option linter.unusedSectionVars false
namespace Go.Proofs.Ytdckleaemkcapaa.AM
open Go Go.Proofs
attribute [local simp] AV.cells okc AV.isBad fieldAddrA ld setCells stA skipV appendA hd makeA bnd sliceA kindA freshA killOk loadsAt newT empT lay_get allocA buildA buildRow builtinA lenA els indexAddrA isNil opA evA lit yldA binA binI unA pickA boolV intV fieldA mk flat lf lf.lfs frz
def outP (n lo hi : Int) : Bool := decide (n < lo) || decide (hi < n)
theorem outP_false {n lo hi : Int} : outP n lo hi = false ↔ lo ≤ n ∧ n ≤ hi := by
  unfold outP
  simp only [Bool.or_eq_false_iff, decide_eq_false_iff_not]
  omega
theorem outP_true {n lo hi : Int} : outP n lo hi = true ↔ n < lo ∨ hi < n := by
  unfold outP
  simp only [Bool.or_eq_true, decide_eq_true_eq]
abbrev MM : Int := 1000000000000
theorem out_ev (n lo hi : Int) : ∃ h c, run Try.prog (mdT tblB) 59 [I n, I lo, I hi] Heap.none 0 = some (B (outP n lo hi), h, c) := by
  rw [run_eq, show mdT tblB 59 = some .pure from rfl, Option.bind_some, Try.func59, outP]
  cases h : decide (n < lo) <;> simp -implicitDefEqProofs [Try.f59, h]
@[simp] theorem out_c (n lo hi : Int) (h : Heap) (c : Nat) : callA (mdT tblB) (run Try.prog (mdT tblB)) 59 [I n, I lo, I hi] h c = some (B (outP n lo hi), h, c) := by
  obtain ⟨h', c', e⟩ := out_ev n lo hi
  exact call_of rfl rfl e rfl rfl
theorem within_ev (n hi : Int) : ∃ h c, run Try.prog (mdT tblB) 61 [I n, I hi] Heap.none 0 = some (B (!outP n 0 hi), h, c) := by
  rw [run_eq, show mdT tblB 61 = some .pure from rfl, Option.bind_some, Try.func61]
  by_cases g : 0 ≤ n
  · by_cases k : n ≤ hi
    · have e : outP n 0 hi = false := outP_false.2 ⟨g, k⟩
      simp -implicitDefEqProofs [Try.f61, g, k, e]
    · have e : outP n 0 hi = true := outP_true.2 (by omega)
      simp -implicitDefEqProofs [Try.f61, g, k, e]
  · have e : outP n 0 hi = true := outP_true.2 (by omega)
    simp -implicitDefEqProofs [Try.f61, g, e]
@[simp] theorem within_c (n hi : Int) (h : Heap) (c : Nat) : callA (mdT tblB) (run Try.prog (mdT tblB)) 61 [I n, I hi] h c = some (B (!outP n 0 hi), h, c) := by
  obtain ⟨h', c', e⟩ := within_ev n hi
  exact call_of rfl rfl e rfl rfl
theorem amount_ev (n : Int) : ∃ h c, run Try.prog (mdT tblB) 63 [I n] Heap.none 0 = some (B (!outP n (-1000000000000) 1000000000000), h, c) := by
  rw [run_eq, show mdT tblB 63 = some .pure from rfl, Option.bind_some, Try.func63]
  by_cases g : -1000000000000 ≤ n
  · by_cases k : n ≤ 1000000000000
    · have e : outP n (-1000000000000) 1000000000000 = false := outP_false.2 ⟨g, k⟩
      simp -implicitDefEqProofs [Try.f63, g, k, e]
    · have e : outP n (-1000000000000) 1000000000000 = true := outP_true.2 (by omega)
      simp -implicitDefEqProofs [Try.f63, g, k, e]
  · have e : outP n (-1000000000000) 1000000000000 = true := outP_true.2 (by omega)
    simp -implicitDefEqProofs [Try.f63, g, e]
@[simp] theorem amount_c (n : Int) (h : Heap) (c : Nat) : callA (mdT tblB) (run Try.prog (mdT tblB)) 63 [I n] h c = some (B (!outP n (-1000000000000) 1000000000000), h, c) := by
  obtain ⟨h', c', e⟩ := amount_ev n
  exact call_of rfl rfl e rfl rfl
@[simp] theorem sound1_c (n : Int) (h : Heap) (c : Nat) : callA (mdT tblB) (run Try.prog (mdT tblB)) 87 [I n] h c = some (B (outP n (-1000000000000) 1000000000000), h, c) := by
  obtain ⟨h', c', e⟩ : ∃ h c, run Try.prog (mdT tblB) 87 [I n] Heap.none 0 = some (B (outP n (-1000000000000) 1000000000000), h, c) := by
    rw [run_eq, show mdT tblB 87 = some .pure from rfl, Option.bind_some, Try.func87]
    simp -implicitDefEqProofs [Try.f87]
  exact call_of rfl rfl e rfl rfl
/-- slices.IndexFunc: its answer is at least 0 where one of the list has it. -/
theorem indexf_c (z : Bool) (l : List Int) (hl : l.length ≤ 9223372036854775807) (f : Nat) (caps : List AV) (p : Int → Bool) (h : Heap) (c : Nat)
    (H : ∀ n, callA (mdT tblB) (run Try.prog (mdT tblB)) f (I n :: caps) h c = some (B (p n), h, c)) :
    ∃ i, callA (mdT tblB) (run Try.prog (mdT tblB)) 92 [.ro z (ints l), .fn f caps] h c = some (I i, h, c) ∧ decide (0 ≤ i) = l.any p := by
  have hm : l.length ≤ 9223372036854775807 := hl
  rw [call_heap rfl, run_eq, show mdT tblB 92 = some .heap from rfl, Option.bind_some, Try.func92]
  simp -implicitDefEqProofs [Try.f92, Option.bind_assoc]
  refine scan_list (R := fun o => ∃ i, o = some (I i, h, c) ∧ decide (0 ≤ i) = l.any p) l p (fun j s => s.h = h ∧ s.c = c ∧ s.t 0 = .ro z (ints l) ∧ s.t 1 = .fn f caps ∧ s.t 7 = I l.length ∧ s.t 8 = I j) _ ?_ ?_ ?_ ?_
  · simp
  · rintro j ⟨t, h', c'⟩ ⟨rfl, rfl, t0, t1, t7, t8⟩ hj hp
    simp only at t0 t1 t7 t8
    simp -implicitDefEqProofs [t0, t1, t7, t8, hj, H, hp]
    exact wrap_succ (by omega)
  · rintro j ⟨t, h', c'⟩ ⟨rfl, rfl, t0, t1, t7, t8⟩ hj hp ha
    simp only at t0 t1 t7 t8
    simp -implicitDefEqProofs only [ha, decide_eq_true_eq]
    simp -implicitDefEqProofs [t0, t1, t7, t8, hj, H, hp]
  · rintro ⟨t, h', c'⟩ ⟨rfl, rfl, t0, t1, t7, t8⟩ ha
    simp only at t0 t1 t7 t8
    rw [ha]
    simp -implicitDefEqProofs [t0, t1, t7, t8, H]
theorem containsf_c (z : Bool) (l : List Int) (hl : l.length ≤ 9223372036854775807) (f : Nat) (caps : List AV) (p : Int → Bool) (h : Heap) (c : Nat)
    (H : ∀ n, callA (mdT tblB) (run Try.prog (mdT tblB)) f (I n :: caps) h c = some (B (p n), h, c)) :
    callA (mdT tblB) (run Try.prog (mdT tblB)) 81 [.ro z (ints l), .fn f caps] h c = some (B (l.any p), h, c) := by
  obtain ⟨i, h1, h2⟩ := indexf_c z l hl f caps p h c H
  rw [call_heap rfl, run_eq, show mdT tblB 81 = some .heap from rfl, Option.bind_some, Try.func81]
  simp -implicitDefEqProofs [Try.f81, h1, h2, -decide_eq_true_eq, -decide_eq_false_iff_not]
end Go.Proofs.Ytdckleaemkcapaa.AM
