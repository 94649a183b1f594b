/- Texts of the proof: part V5. -/
import Derived.Test.YtkdmhlmaeccekaaV4
set_option maxHeartbeats 0
namespace Go.Proofs.Ytkdmhlmaeccekaa.AM
open Go Go.Proofs
attribute [local simp] AV.cells okc AV.isBad fieldAddrA ld setCells stA skipV kindA freshA lay_get opA evA lit yldA binA binI unA pickA boolV intV fieldA mk flat lf lf.lfs frz
@[simp] theorem sound_c (b : Bx) (h : Heap) (c : Nat) : callA (mdT tblV) (run Try.prog (mdT tblV)) 23 [AV.agg [I b.x, I b.y, I b.z, I b.dx, I b.dy, I b.dz, I b.s]] h c = some (B b.ok, h, c) := by
  obtain ⟨h', c', e⟩ := sound_ev b
  exact call_of rfl rfl e rfl rfl
@[simp] theorem bad_c (b : Bx) (h : Heap) (c : Nat) : callA (mdT tblV) (run Try.prog (mdT tblV)) 22 [AV.agg [I b.x, I b.y, I b.z, I b.dx, I b.dy, I b.dz, I b.s]] h c = some (B (!b.ok), h, c) := by
  obtain ⟨h', c', e⟩ := bad_ev b
  exact call_of rfl rfl e rfl rfl
@[simp] theorem meet_c (a b : Bx) (h : Heap) (c : Nat) : callA (mdT tblV) (run Try.prog (mdT tblV)) 34 [AV.agg [I a.x, I a.y, I a.z, I a.dx, I a.dy, I a.dz, I a.s], AV.agg [I b.x, I b.y, I b.z, I b.dx, I b.dy, I b.dz, I b.s]] h c = some (B (meetP a b), h, c) := by
  obtain ⟨h', c', e⟩ := meet_ev a b
  exact call_of rfl rfl e rfl rfl
@[simp] theorem vbeh_c (a b : Bx) (h : Heap) (c : Nat) : callA (mdT tblV) (run Try.prog (mdT tblV)) 26 [AV.agg [I a.x, I a.y, I a.z, I a.dx, I a.dy, I a.dz, I a.s], AV.agg [I b.x, I b.y, I b.z, I b.dx, I b.dy, I b.dz, I b.s]] h c = some (B (behP a b), h, c) := by
  obtain ⟨h', c', e⟩ := vbeh_ev a b
  exact call_of rfl rfl e rfl rfl
@[simp] theorem known_c (h : Heap) (c : Nat) : callA (mdT tblV) (run Try.prog (mdT tblV)) 10 [] h c = some (B true, h, c) := by
  obtain ⟨h', c', e⟩ := known_V
  exact call_of rfl rfl e rfl rfl
theorem rbeh_ev (a b : Bx) : ∃ h c, run Try.prog (mdT tblV) 24 [a.av, b.av] Heap.none 0 = some (B (!meetP a b && behP a b), h, c) := by
  rw [run_eq, show mdT tblV 24 = some .pure from rfl, Option.bind_some, Try.func24, behP, Bx.av, Bx.av]
  cases k : meetP a b
  · cases g0 : decide (IntKind.i64.wrap (a.x + a.dx) ≤ b.x)
    · cases g1 : decide (IntKind.i64.wrap (a.y + a.dy) ≤ b.y)
      · cases g2 : decide (IntKind.i64.wrap (a.z + a.dz) ≤ b.z)
        · simp -implicitDefEqProofs [Try.f24, g0, g1, g2, k]
        · simp -implicitDefEqProofs [Try.f24, g0, g1, g2, k]
      · simp -implicitDefEqProofs [Try.f24, g0, g1, k]
    · simp -implicitDefEqProofs [Try.f24, g0, k]
  · simp -implicitDefEqProofs [Try.f24, k]
@[simp] theorem rbeh_c (a b : Bx) (h : Heap) (c : Nat) : callA (mdT tblV) (run Try.prog (mdT tblV)) 24 [AV.agg [I a.x, I a.y, I a.z, I a.dx, I a.dy, I a.dz, I a.s], AV.agg [I b.x, I b.y, I b.z, I b.dx, I b.dy, I b.dz, I b.s]] h c = some (B (!meetP a b && behP a b), h, c) := by
  obtain ⟨h', c', e⟩ := rbeh_ev a b
  exact call_of rfl rfl e rfl rfl
def behT (a b : Bx) (v : Bool) : AV := bif a.ok && b.ok then .tup [B v, E 0] else .tup [B false, E 1]
theorem rBeh_ev (a b : Bx) : ∃ h c, run Try.prog (mdT tblV) 16 [a.av, b.av] Heap.none 0 = some (behT a b (!meetP a b && behP a b), h, c) := by
  rw [run_eq, show mdT tblV 16 = some .pure from rfl, Option.bind_some, Try.func16, behT, Bx.av, Bx.av]
  cases g0 : a.ok
  · simp -implicitDefEqProofs [Try.f16, g0]
  · cases g1 : b.ok
    · simp -implicitDefEqProofs [Try.f16, g0, g1]
    · simp -implicitDefEqProofs [Try.f16, g0, g1]
theorem vBeh_ev (a b : Bx) : ∃ h c, run Try.prog (mdT tblV) 17 [a.av, b.av] Heap.none 0 = some (behT a b (behP a b), h, c) := by
  rw [run_eq, show mdT tblV 17 = some .pure from rfl, Option.bind_some, Try.func17, behT, Bx.av, Bx.av]
  cases g0 : a.ok
  · simp -implicitDefEqProofs [Try.f17, g0]
  · cases g1 : b.ok
    · simp -implicitDefEqProofs [Try.f17, g0, g1]
    · simp -implicitDefEqProofs [Try.f17, g0, g1]
theorem frz_behT (a b : Bx) (v : Bool) (h : Heap) : frz h depth (behT a b v) = some (behT a b v) := by
  unfold behT; cases a.ok && b.ok <;> rfl
theorem flat_behT (a b : Bx) (v : Bool) : flat (behT a b v) = true := by
  unfold behT; cases a.ok && b.ok <;> rfl
@[simp] theorem rBeh_c (a b : Bx) (h : Heap) (c : Nat) : callA (mdT tblV) (run Try.prog (mdT tblV)) 16 [AV.agg [I a.x, I a.y, I a.z, I a.dx, I a.dy, I a.dz, I a.s], AV.agg [I b.x, I b.y, I b.z, I b.dx, I b.dy, I b.dz, I b.s]] h c = some (behT a b (!meetP a b && behP a b), h, c) := by
  obtain ⟨h', c', e⟩ := rBeh_ev a b
  exact call_of rfl rfl e (frz_behT ..) (flat_behT ..)
@[simp] theorem vBeh_c (a b : Bx) (h : Heap) (c : Nat) : callA (mdT tblV) (run Try.prog (mdT tblV)) 17 [AV.agg [I a.x, I a.y, I a.z, I a.dx, I a.dy, I a.dz, I a.s], AV.agg [I b.x, I b.y, I b.z, I b.dx, I b.dy, I b.dz, I b.s]] h c = some (behT a b (behP a b), h, c) := by
  obtain ⟨h', c', e⟩ := vBeh_ev a b
  exact call_of rfl rfl e (frz_behT ..) (flat_behT ..)
theorem ok_iff (b : Bx) : b.ok = true ↔ (-100000 ≤ b.x ∧ b.x ≤ 100000) ∧ (-100000 ≤ b.y ∧ b.y ≤ 100000) ∧ (-100000 ≤ b.z ∧ b.z ≤ 100000) ∧ (1 ≤ b.dx ∧ b.dx ≤ 64) ∧ (1 ≤ b.dy ∧ b.dy ≤ 64) ∧ (1 ≤ b.dz ∧ b.dz ≤ 64) := by
  simp [Bx.ok, wideP, thickP, and_assoc]
theorem beh_same (a b : Bx) (ha : a.ok = true) (hb : b.ok = true) : (!meetP a b && behP a b) = behP a b := by
  rw [ok_iff] at ha hb
  simp only [meetP, behP]
  rw [wrap_id (n := a.x + a.dx) (by omega) (by omega), wrap_id (n := a.y + a.dy) (by omega) (by omega), wrap_id (n := a.z + a.dz) (by omega) (by omega), wrap_id (n := b.x + b.dx) (by omega) (by omega), wrap_id (n := b.y + b.dy) (by omega) (by omega), wrap_id (n := b.z + b.dz) (by omega) (by omega)]
  rw [Bool.eq_iff_iff]
  simp
  omega
theorem behT_same (a b : Bx) : behT a b (!meetP a b && behP a b) = behT a b (behP a b) := by
  unfold behT
  cases ha : a.ok <;> cases hb : b.ok <;> try rfl
  rw [beh_same a b ha hb]
theorem law5 (a b : Bx) : ∃ h c, run Try.prog (mdT tblV) 5 [a.av, b.av] Heap.none 0 = some (B true, h, c) := by
  rw [run_eq, show mdT tblV 5 = some .pure from rfl, Option.bind_some, Try.func5, Bx.av, Bx.av]
  cases k : a.ok && b.ok <;> simp -implicitDefEqProofs [Try.f5, behT_same] <;> simp -implicitDefEqProofs [behT, k]
end Go.Proofs.Ytkdmhlmaeccekaa.AM
