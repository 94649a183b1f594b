/- Texts of the proof: part V8. -/
import Derived.Test.YtkdmhlmaeccekaaV7
set_option maxHeartbeats 0
namespace Go.Proofs.Ytkdmhlmaeccekaa.AM
open Go Go.Proofs
attribute [local simp] AV.cells okc AV.isBad fieldAddrA ld setCells stA skipV kindA freshA lay_get opA evA lit yldA binA binI unA pickA boolV intV fieldA mk flat lf lf.lfs frz
def Bx.up (b : Bx) : Bx := { b with x := IntKind.i64.wrap (b.x + 1) }
theorem pt_pt (b : Bx) (s : Int) (h : (b.ok && (decide (1 ≤ s) && decide (s ≤ 8))) = true) (h' : (b.up.ok && (decide (1 ≤ s) && decide (s ≤ 8))) = true) :
    vpx b.up s = IntKind.i64.wrap (vpx b s + IntKind.i64.wrap (2 * s)) ∧ vpy b.up s = IntKind.i64.wrap (vpy b s + s) := by
  simp only [Bool.and_eq_true, decide_eq_true_eq] at h h'
  obtain ⟨hb, h1, h2⟩ := h
  rw [ok_iff] at hb
  have e0 : b.up = { b with x := b.x + 1 } := by unfold Bx.up; rw [wrap_id (by omega) (by omega)]
  rw [e0]
  simp only [vpx, vpy]
  have hs : s = 1 ∨ s = 2 ∨ s = 3 ∨ s = 4 ∨ s = 5 ∨ s = 6 ∨ s = 7 ∨ s = 8 := by omega
  rcases hs with rfl | rfl | rfl | rfl | rfl | rfl | rfl | rfl <;> simp only [wrap_eq] <;> constructor <;> omega
theorem law7 (b : Bx) (s : Int) : ∃ h c, run Try.prog (mdT tblV) 7 [b.av, I s] Heap.none 0 = some (B true, h, c) := by
  rw [run_eq, show mdT tblV 7 = some .pure from rfl, Option.bind_some, Try.func7, Bx.av]
  have q := pt_pt b s
  have hu : (⟨IntKind.i64.wrap (b.x + 1), b.y, b.z, b.dx, b.dy, b.dz, b.s⟩ : Bx) = b.up := rfl
  have e1 := @vPt_c b.up s
  simp only [Bx.up] at e1
  cases c1 : (b.ok && (decide (1 ≤ s) && decide (s ≤ 8)))
  · have r1 : ptT b s (vpx b s) (vpy b s) = .tup [I 0, I 0, E 1] := by unfold ptT; rw [c1]; rfl
    cases c2 : (b.up.ok && (decide (1 ≤ s) && decide (s ≤ 8)))
    · have r2 : ptT b.up s (vpx b.up s) (vpy b.up s) = .tup [I 0, I 0, E 1] := by unfold ptT; rw [c2]; rfl
      simp -implicitDefEqProofs [Try.f7, r1, e1, hu, r2]
    · have r2 : ptT b.up s (vpx b.up s) (vpy b.up s) = .tup [I (vpx b.up s), I (vpy b.up s), E 0] := by unfold ptT; rw [c2]; rfl
      simp -implicitDefEqProofs [Try.f7, r1, e1, hu, r2]
  · have r1 : ptT b s (vpx b s) (vpy b s) = .tup [I (vpx b s), I (vpy b s), E 0] := by unfold ptT; rw [c1]; rfl
    cases c2 : (b.up.ok && (decide (1 ≤ s) && decide (s ≤ 8)))
    · have r2 : ptT b.up s (vpx b.up s) (vpy b.up s) = .tup [I 0, I 0, E 1] := by unfold ptT; rw [c2]; rfl
      simp -implicitDefEqProofs [Try.f7, r1, e1, hu, r2]
    · have r2 : ptT b.up s (vpx b.up s) (vpy b.up s) = .tup [I (vpx b.up s), I (vpy b.up s), E 0] := by unfold ptT; rw [c2]; rfl
      obtain ⟨q1, q2⟩ := q c1 c2
      rw [q1, q2] at r2
      simp -implicitDefEqProofs [Try.f7, r1, e1, hu, r2, q1, q2]
theorem pure7 (x0 x1 : AV) (h0 : TyArg Try.prog 8 32 x0) (h1 : TyArg Try.prog 8 3 x1) : ∃ h c, run Try.prog (mdT tblV) 7 [x0, x1] Heap.none 0 = some (B true, h, c) := by
  obtain ⟨a, rfl, _⟩ := arg32 h0
  obtain ⟨b, rfl, _⟩ := arg3 h1
  exact law7 a b
end Go.Proofs.Ytkdmhlmaeccekaa.AM
