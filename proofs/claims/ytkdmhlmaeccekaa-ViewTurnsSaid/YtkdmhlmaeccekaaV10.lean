/- Texts of the proof: part V10. -/
import Derived.Test.YtkdmhlmaeccekaaV9
set_option maxHeartbeats 0
namespace Go.Proofs.Ytkdmhlmaeccekaa.AM
open Go Go.Proofs
attribute [local simp] AV.cells okc AV.isBad fieldAddrA ld setCells stA skipV kindA freshA lay_get allocA buildA buildRow builtinA lenA els indexAddrA isNil opA evA lit yldA binA binI unA pickA boolV intV fieldA mk flat lf lf.lfs frz
def inR (n lo hi : Int) : Bool := !(decide (n < lo)) && !(decide (n > hi))
def rotOk (b : Bx) (w h r : Int) : Bool := b.ok && inR w 4 32 && inR h 4 32 && inR r 0 3
def zeroBx : Bx := ⟨0, 0, 0, 0, 0, 0, 0⟩
def rotT (b : Bx) (w h r : Int) : AV := bif rotOk b w h r && (rotP b w h r).ok then .tup [(rotP b w h r).av, E 0] else .tup [zeroBx.av, E 1]
theorem rotT_f {b : Bx} {w h r : Int} (g : (rotOk b w h r && (rotP b w h r).ok) = false) : rotT b w h r = .tup [AV.agg [I 0, I 0, I 0, I 0, I 0, I 0, I 0], E 1] := by
  unfold rotT; rw [g]; rfl
theorem rotT_t {b : Bx} {w h r : Int} (g : (rotOk b w h r && (rotP b w h r).ok) = true) : rotT b w h r = .tup [AV.agg [I (rotP b w h r).x, I (rotP b w h r).y, I (rotP b w h r).z, I (rotP b w h r).dx, I (rotP b w h r).dy, I (rotP b w h r).dz, I (rotP b w h r).s], E 0] := by
  unfold rotT; rw [g]; rfl
theorem frz_rotT (b : Bx) (w h r : Int) (hp : Heap) : frz hp depth (rotT b w h r) = some (rotT b w h r) := by
  unfold rotT; cases rotOk b w h r && (rotP b w h r).ok <;> rfl
theorem flat_rotT (b : Bx) (w h r : Int) : flat (rotT b w h r) = true := by
  unfold rotT; cases rotOk b w h r && (rotP b w h r).ok <;> rfl
theorem vRt_ev (b : Bx) (w h r : Int) : ∃ hp c, run Try.prog (mdT tblV) 21 [b.av, I w, I h, I r] Heap.none 0 = some (rotT b w h r, hp, c) := by
  rw [run_eq, show mdT tblV 21 = some .pure from rfl, Option.bind_some, Try.func21, rotT, rotOk, inR, inR, inR, Bx.av, Bx.av, Bx.av, zeroBx]
  cases g0 : b.ok
  · simp -implicitDefEqProofs [Try.f21, g0, Bx.av]
  · cases g1 : decide (w < 4)
    · cases g2 : decide (w > 32)
      · cases g3 : decide (h < 4)
        · cases g4 : decide (h > 32)
          · cases g5 : decide (r < 0)
            · cases g6 : decide (r > 3)
              · have a1 : 0 ≤ r := by simpa using g5
                have a2 : r ≤ 3 := by simpa using g6
                cases g7 : (rotP b w h r).ok
                · simp -implicitDefEqProofs [Try.f21, g0, g1, g2, g3, g4, g5, g6, a1, a2, g7, Bx.av]
                · simp -implicitDefEqProofs [Try.f21, g0, g1, g2, g3, g4, g5, g6, a1, a2, g7, Bx.av]
              · simp -implicitDefEqProofs [Try.f21, g0, g1, g2, g3, g4, g5, g6, Bx.av]
            · simp -implicitDefEqProofs [Try.f21, g0, g1, g2, g3, g4, g5, Bx.av]
          · simp -implicitDefEqProofs [Try.f21, g0, g1, g2, g3, g4, Bx.av]
        · simp -implicitDefEqProofs [Try.f21, g0, g1, g2, g3, Bx.av]
      · simp -implicitDefEqProofs [Try.f21, g0, g1, g2, Bx.av]
    · simp -implicitDefEqProofs [Try.f21, g0, g1, Bx.av]
@[simp] theorem vRt_c (b : Bx) (w h r : Int) (hp : Heap) (c : Nat) : callA (mdT tblV) (run Try.prog (mdT tblV)) 21 [AV.agg [I b.x, I b.y, I b.z, I b.dx, I b.dy, I b.dz, I b.s], I w, I h, I r] hp c = some (rotT b w h r, hp, c) := by
  obtain ⟨h', c', e⟩ := vRt_ev b w h r
  exact call_of rfl rfl e (frz_rotT ..) (flat_rotT ..)
theorem rRt_ev (b : Bx) (w h r : Int) : ∃ hp c, run Try.prog (mdT tblV) 20 [b.av, I w, I h, I r] Heap.none 0 = some (rotT b w h r, hp, c) := by
  rw [run_eq, show mdT tblV 20 = some .pure from rfl, Option.bind_some, Try.func20, rotT, rotOk, inR, inR, inR, Bx.av, Bx.av, Bx.av, zeroBx]
  cases g0 : b.ok
  · simp -implicitDefEqProofs [Try.f20, g0, Bx.av]
  · cases g1 : decide (w < 4)
    · cases g2 : decide (w > 32)
      · cases g3 : decide (h < 4)
        · cases g4 : decide (h > 32)
          · cases g5 : decide (r < 0)
            · cases g6 : decide (r > 3)
              · have a1 : 0 ≤ r := by simpa using g5
                have a2 : r ≤ 3 := by simpa using g6
                cases g7 : (rotP b w h r).ok
                · simp -implicitDefEqProofs [Try.f20, g0, g1, g2, g3, g4, g5, g6, a1, a2, g7, Bx.av]
                · simp -implicitDefEqProofs [Try.f20, g0, g1, g2, g3, g4, g5, g6, a1, a2, g7, Bx.av]
              · simp -implicitDefEqProofs [Try.f20, g0, g1, g2, g3, g4, g5, g6, Bx.av]
            · simp -implicitDefEqProofs [Try.f20, g0, g1, g2, g3, g4, g5, Bx.av]
          · simp -implicitDefEqProofs [Try.f20, g0, g1, g2, g3, g4, Bx.av]
        · simp -implicitDefEqProofs [Try.f20, g0, g1, g2, g3, Bx.av]
      · simp -implicitDefEqProofs [Try.f20, g0, g1, g2, Bx.av]
    · simp -implicitDefEqProofs [Try.f20, g0, g1, Bx.av]
@[simp] theorem rRt_c (b : Bx) (w h r : Int) (hp : Heap) (c : Nat) : callA (mdT tblV) (run Try.prog (mdT tblV)) 20 [AV.agg [I b.x, I b.y, I b.z, I b.dx, I b.dy, I b.dz, I b.s], I w, I h, I r] hp c = some (rotT b w h r, hp, c) := by
  obtain ⟨h', c', e⟩ := rRt_ev b w h r
  exact call_of rfl rfl e (frz_rotT ..) (flat_rotT ..)
theorem law8 (b : Bx) (w h r : Int) : ∃ hp c, run Try.prog (mdT tblV) 8 [b.av, I w, I h, I r] Heap.none 0 = some (B true, hp, c) := by
  rw [run_eq, show mdT tblV 8 = some .pure from rfl, Option.bind_some, Try.func8, Bx.av]
  cases g : rotOk b w h r && (rotP b w h r).ok
  · have e := rotT_f g
    simp -implicitDefEqProofs [Try.f8, e, eqs]
  · have e := rotT_t g
    simp -implicitDefEqProofs [Try.f8, e, eqs]
theorem pure8 (x0 x1 x2 x3 : AV) (h0 : TyArg Try.prog 8 32 x0) (h1 : TyArg Try.prog 8 3 x1) (h2 : TyArg Try.prog 8 3 x2) (h3 : TyArg Try.prog 8 3 x3) : ∃ h c, run Try.prog (mdT tblV) 8 [x0, x1, x2, x3] Heap.none 0 = some (B true, h, c) := by
  obtain ⟨a, rfl, _⟩ := arg32 h0
  obtain ⟨b, rfl, _⟩ := arg3 h1
  obtain ⟨c, rfl, _⟩ := arg3 h2
  obtain ⟨d, rfl, _⟩ := arg3 h3
  exact law8 a b c d
end Go.Proofs.Ytkdmhlmaeccekaa.AM
