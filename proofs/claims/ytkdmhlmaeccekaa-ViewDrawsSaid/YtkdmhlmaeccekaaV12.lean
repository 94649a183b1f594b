/- Texts of the proof: part V12. -/
import Derived.Test.YtkdmhlmaeccekaaV6
import Derived.Test.YtkdmhlmaeccekaaAmLoop
set_option maxHeartbeats 0
namespace Go.Proofs.Ytkdmhlmaeccekaa.AM
open Go Go.Proofs
attribute [local simp] AV.cells okc AV.isBad fieldAddrA ld setCells stA skipV kindA freshA lay_get allocA buildA buildRow builtinA lenA els indexAddrA isNil opA evA lit yldA binA binI unA pickA boolV intV fieldA mk flat lf lf.lfs frz
def valP (bs : List Bx) : Int := if 4000 < bs.length then 4 else if bs.all Bx.ok then 0 else 1
abbrev ros (z : Bool) (bs : List Bx) : AV := .ro z (bs.map fun b => b.av.cells)
theorem vval_ev (z : Bool) (bs : List Bx) : ∃ h c, run Try.prog (mdT tblV) 12 [ros z bs] Heap.none 0 = some (E (valP bs), h, c) := by
  rw [run_eq, show mdT tblV 12 = some .pure from rfl, Option.bind_some, Try.func12]
  by_cases g0 : 4000 < bs.length
  · have k0 : decide (4000 < (bs.length : Int)) = true := by simp; omega
    simp -implicitDefEqProofs [Try.f12, valP, g0, k0, -decide_eq_true_eq]
  · have k0 : decide (4000 < (bs.length : Int)) = false := by simp; omega
    rw [valP, if_neg g0]
    generalize hv : (if bs.all Bx.ok = true then (0 : Int) else 1) = v
    simp -implicitDefEqProofs [Try.f12, k0, -decide_eq_true_eq, -decide_eq_false_iff_not, Option.bind_assoc]
    refine loop_rule (fun k s => ∃ j : Nat, k = bs.length - j ∧ j ≤ bs.length ∧ s.t 8 = ros z bs ∧ s.t 9 = I bs.length ∧ s.t 10 = I j ∧ (bs.take j).all Bx.ok = true) (fun o => ∃ h c, o = some (E v, h, c)) ?_ bs.length _ ⟨0, ?_⟩
    · rintro k ⟨t, h, c⟩ ⟨j, hk, hj, h8, h9, h10, hall⟩
      simp only at h8 h9 h10
      by_cases g1 : j < bs.length
      · have k1 : decide ((j : Int) < (bs.length : Int)) = true := by simp; omega
        have hb : bs[j]? = some bs[j] := by simp [g1]
        have ha : (bs.take (j + 1)).all Bx.ok = bs[j].ok := by rw [List.take_add_one, hb, List.all_append, hall]; simp
        have hin : bs[j] ∈ bs := List.getElem_mem g1
        cases g2 : bs[j].ok
        · have hv1 : v = 1 := by
            rw [← hv, if_neg]
            intro h1
            have := List.all_eq_true.mp h1 _ hin
            rw [g2] at this
            cases this
          simp -implicitDefEqProofs [h8, h9, h10, k1, g1, g2, good_normal, good_exit, good_ret, hv1, -decide_eq_true_eq, -decide_eq_false_iff_not, Bx.av]
        · rw [g2] at ha
          simp -implicitDefEqProofs [h8, h9, h10, k1, g1, g2, good_normal, good_exit, good_ret, -decide_eq_true_eq, -decide_eq_false_iff_not, Bx.av]
          exact ⟨bs.length - (j + 1), by omega, j + 1, by omega, by omega, wrap_succ (by omega), by simpa using ha⟩
      · have k1 : decide ((j : Int) < (bs.length : Int)) = false := by simp; omega
        have hv1 : v = 0 := by
          rw [← hv, if_pos]
          rw [List.take_of_length_le (by omega)] at hall
          exact hall
        simp -implicitDefEqProofs [h8, h9, h10, k1, g1, hv1, good_normal, good_exit, good_ret, -decide_eq_true_eq, -decide_eq_false_iff_not]
    · simp
@[simp] theorem vval_c (z : Bool) (bs : List Bx) (hp : Heap) (c : Nat) : callA (mdT tblV) (run Try.prog (mdT tblV)) 12 [.ro z (bs.map fun b => b.av.cells)] hp c = some (E (valP bs), hp, c) := by
  obtain ⟨h', c', e⟩ := vval_ev z bs
  exact call_of rfl rfl e rfl rfl
theorem rval_ev (z : Bool) (bs : List Bx) : ∃ h c, run Try.prog (mdT tblV) 11 [ros z bs] Heap.none 0 = some (E (valP bs), h, c) := by
  rw [run_eq, show mdT tblV 11 = some .pure from rfl, Option.bind_some, Try.func11]
  by_cases g0 : 4000 < bs.length
  · have k0 : decide (4000 < (bs.length : Int)) = true := by simp; omega
    simp -implicitDefEqProofs [Try.f11, valP, g0, k0, -decide_eq_true_eq]
  · have k0 : decide (4000 < (bs.length : Int)) = false := by simp; omega
    rw [valP, if_neg g0]
    generalize hv : (if bs.all Bx.ok = true then (0 : Int) else 1) = v
    simp -implicitDefEqProofs [Try.f11, k0, -decide_eq_true_eq, -decide_eq_false_iff_not, Option.bind_assoc]
    refine loop_rule (fun k s => ∃ j : Nat, k = bs.length - j ∧ j ≤ bs.length ∧ s.t 0 = ros z bs ∧ s.t 3 = I j ∧ (bs.take j).all Bx.ok = true) (fun o => ∃ h c, o = some (E v, h, c)) ?_ bs.length _ ⟨0, ?_⟩
    · rintro k ⟨t, h, c⟩ ⟨j, hk, hj, h8, h10, hall⟩
      simp only at h8 h10
      by_cases g1 : j < bs.length
      · have k1 : decide ((j : Int) < (bs.length : Int)) = true := by simp; omega
        have hb : bs[j]? = some bs[j] := by simp [g1]
        have ha : (bs.take (j + 1)).all Bx.ok = bs[j].ok := by rw [List.take_add_one, hb, List.all_append, hall]; simp
        have hin : bs[j] ∈ bs := List.getElem_mem g1
        cases g2 : bs[j].ok
        · have hv1 : v = 1 := by
            rw [← hv, if_neg]
            intro h1
            have := List.all_eq_true.mp h1 _ hin
            rw [g2] at this
            cases this
          simp -implicitDefEqProofs [h8, h10, k1, g1, g2, good_normal, good_exit, good_ret, hv1, -decide_eq_true_eq, -decide_eq_false_iff_not, Bx.av]
        · rw [g2] at ha
          simp -implicitDefEqProofs [h8, h10, k1, g1, g2, good_normal, good_exit, good_ret, -decide_eq_true_eq, -decide_eq_false_iff_not, Bx.av]
          exact ⟨bs.length - (j + 1), by omega, j + 1, by omega, by omega, wrap_succ (by omega), by simpa using ha⟩
      · have k1 : decide ((j : Int) < (bs.length : Int)) = false := by simp; omega
        have hv1 : v = 0 := by
          rw [← hv, if_pos]
          rw [List.take_of_length_le (by omega)] at hall
          exact hall
        simp -implicitDefEqProofs [h8, h10, k1, g1, hv1, good_normal, good_exit, good_ret, -decide_eq_true_eq, -decide_eq_false_iff_not]
    · simp
@[simp] theorem rval_c (z : Bool) (bs : List Bx) (hp : Heap) (c : Nat) : callA (mdT tblV) (run Try.prog (mdT tblV)) 11 [.ro z (bs.map fun b => b.av.cells)] hp c = some (E (valP bs), hp, c) := by
  obtain ⟨h', c', e⟩ := rval_ev z bs
  exact call_of rfl rfl e rfl rfl
theorem law3 (z : Bool) (bs : List Bx) : ∃ hp c, run Try.prog (mdT tblV) 3 [ros z bs] Heap.none 0 = some (B true, hp, c) := by
  rw [run_eq, show mdT tblV 3 = some .pure from rfl, Option.bind_some, Try.func3]
  by_cases g0 : 6000 < bs.length
  · have k0 : decide (6000 < (bs.length : Int)) = true := by simp; omega
    simp -implicitDefEqProofs [Try.f3, g0, k0, -decide_eq_true_eq]
  · have k0 : decide (6000 < (bs.length : Int)) = false := by simp; omega
    simp -implicitDefEqProofs [Try.f3, g0, k0, -decide_eq_true_eq, -decide_eq_false_iff_not]
theorem pure3 (x0 : AV) (h0 : TyArg Try.prog 8 22 x0) : ∃ h c, run Try.prog (mdT tblV) 3 [x0] Heap.none 0 = some (B true, h, c) := by
  obtain ⟨z, bs, rfl, _⟩ := arg22 h0
  exact law3 z bs
end Go.Proofs.Ytkdmhlmaeccekaa.AM
