/- Texts of the proof: part V7. -/
import Derived.Test.YtkdmhlmaeccekaaV6
set_option maxHeartbeats 0
namespace Go.Proofs.Ytkdmhlmaeccekaa.AM
open Go Go.Proofs
attribute [local simp] AV.cells okc AV.isBad fieldAddrA ld setCells stA skipV kindA freshA lay_get opA evA lit yldA binA binI unA pickA boolV intV fieldA mk flat lf lf.lfs frz
def vpx (b : Bx) (s : Int) : Int := IntKind.i64.wrap (IntKind.i64.wrap (IntKind.i64.wrap (b.x - b.y) * 2) * s)
def vpy (b : Bx) (s : Int) : Int := IntKind.i64.wrap (IntKind.i64.wrap (IntKind.i64.wrap (b.x + b.y) * s) - IntKind.i64.wrap (b.z * s))
def ptT (b : Bx) (s x y : Int) : AV := bif b.ok && (decide (1 ≤ s) && decide (s ≤ 8)) then .tup [I x, I y, E 0] else .tup [I 0, I 0, E 1]
theorem frz_ptT (b : Bx) (s x y : Int) (h : Heap) : frz h depth (ptT b s x y) = some (ptT b s x y) := by
  unfold ptT; cases b.ok && (decide (1 ≤ s) && decide (s ≤ 8)) <;> rfl
theorem flat_ptT (b : Bx) (s x y : Int) : flat (ptT b s x y) = true := by
  unfold ptT; cases b.ok && (decide (1 ≤ s) && decide (s ≤ 8)) <;> rfl
theorem vPt_ev (b : Bx) (s : Int) : ∃ h c, run Try.prog (mdT tblV) 19 [b.av, I s] Heap.none 0 = some (ptT b s (vpx b s) (vpy b s), h, c) := by
  rw [run_eq, show mdT tblV 19 = some .pure from rfl, Option.bind_some, Try.func19, ptT, Bx.av]
  unfold vpx vpy
  cases g0 : b.ok
  · simp -implicitDefEqProofs [Try.f19, g0]
  · by_cases g1 : 1 ≤ s
    · by_cases g2 : s ≤ 8
      · have k1 : decide (s < 1) = false := by simp; omega
        have k2 : decide (8 < s) = false := by simp; omega
        simp -implicitDefEqProofs [Try.f19, g0, g1, g2, k1, k2, -decide_eq_true_eq, -decide_eq_false_iff_not]
      · have k1 : decide (s < 1) = false := by simp; omega
        have k2 : decide (8 < s) = true := by simp; omega
        simp -implicitDefEqProofs [Try.f19, g0, g1, g2, k1, k2, -decide_eq_true_eq, -decide_eq_false_iff_not]
    · have k1 : decide (s < 1) = true := by simp; omega
      simp -implicitDefEqProofs [Try.f19, g0, g1, k1, -decide_eq_true_eq, -decide_eq_false_iff_not]
@[simp] theorem vPt_c (b : Bx) (s : Int) (h : Heap) (c : Nat) : callA (mdT tblV) (run Try.prog (mdT tblV)) 19 [AV.agg [I b.x, I b.y, I b.z, I b.dx, I b.dy, I b.dz, I b.s], I s] h c = some (ptT b s (vpx b s) (vpy b s), h, c) := by
  obtain ⟨h', c', e⟩ := vPt_ev b s
  exact call_of rfl rfl e (frz_ptT ..) (flat_ptT ..)
theorem rPt_ev (b : Bx) (s : Int) : ∃ h c, run Try.prog (mdT tblV) 18 [b.av, I s] Heap.none 0 = some (ptT b s (vpx b s) (vpy b s), h, c) := by
  rw [run_eq, show mdT tblV 18 = some .pure from rfl, Option.bind_some, Try.func18, ptT, Bx.av]
  unfold vpx vpy
  cases g0 : b.ok
  · simp -implicitDefEqProofs [Try.f18, g0]
  · by_cases g1 : 1 ≤ s
    · by_cases g2 : s ≤ 8
      · have k1 : decide (s < 1) = false := by simp; omega
        have k2 : decide (8 < s) = false := by simp; omega
        simp -implicitDefEqProofs [Try.f18, g0, g1, g2, k1, k2, -decide_eq_true_eq, -decide_eq_false_iff_not]
      · have k1 : decide (s < 1) = false := by simp; omega
        have k2 : decide (8 < s) = true := by simp; omega
        simp -implicitDefEqProofs [Try.f18, g0, g1, g2, k1, k2, -decide_eq_true_eq, -decide_eq_false_iff_not]
    · have k1 : decide (s < 1) = true := by simp; omega
      simp -implicitDefEqProofs [Try.f18, g0, g1, k1, -decide_eq_true_eq, -decide_eq_false_iff_not]
@[simp] theorem rPt_c (b : Bx) (s : Int) (h : Heap) (c : Nat) : callA (mdT tblV) (run Try.prog (mdT tblV)) 18 [AV.agg [I b.x, I b.y, I b.z, I b.dx, I b.dy, I b.dz, I b.s], I s] h c = some (ptT b s (vpx b s) (vpy b s), h, c) := by
  obtain ⟨h', c', e⟩ := rPt_ev b s
  exact call_of rfl rfl e (frz_ptT ..) (flat_ptT ..)
end Go.Proofs.Ytkdmhlmaeccekaa.AM
