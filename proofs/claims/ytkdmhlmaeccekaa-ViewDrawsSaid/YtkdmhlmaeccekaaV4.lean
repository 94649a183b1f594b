/- Texts of the proof: part V4. -/
import Derived.Test.YtkdmhlmaeccekaaV3
set_option maxHeartbeats 0
namespace Go.Proofs.Ytkdmhlmaeccekaa.AM
open Go Go.Proofs
attribute [local simp] AV.cells okc AV.isBad fieldAddrA ld setCells stA skipV kindA freshA lay_get opA evA lit yldA binA binI unA pickA boolV intV fieldA mk flat lf lf.lfs frz
def behP (a b : Bx) : Bool := decide (IntKind.i64.wrap (a.x + a.dx) ≤ b.x) || decide (IntKind.i64.wrap (a.y + a.dy) ≤ b.y) || decide (IntKind.i64.wrap (a.z + a.dz) ≤ b.z)
def meetP (a b : Bx) : Bool := (decide (a.x < IntKind.i64.wrap (b.x + b.dx)) && decide (b.x < IntKind.i64.wrap (a.x + a.dx))) && (decide (a.y < IntKind.i64.wrap (b.y + b.dy)) && decide (b.y < IntKind.i64.wrap (a.y + a.dy))) && (decide (a.z < IntKind.i64.wrap (b.z + b.dz)) && decide (b.z < IntKind.i64.wrap (a.z + a.dz)))
theorem meet_ev (a b : Bx) : ∃ h c, run Try.prog (mdT tblV) 34 [a.av, b.av] Heap.none 0 = some (B (meetP a b), h, c) := by
  rw [run_eq, show mdT tblV 34 = some .pure from rfl, Option.bind_some, Try.func34, meetP, Bx.av, Bx.av]
  cases g0 : decide (a.x < IntKind.i64.wrap (b.x + b.dx))
  · cases g1 : decide (a.y < IntKind.i64.wrap (b.y + b.dy))
    · cases g2 : decide (a.z < IntKind.i64.wrap (b.z + b.dz))
      · simp -implicitDefEqProofs [Try.f34, g0, g1, g2]
      · cases g3 : decide (b.z < IntKind.i64.wrap (a.z + a.dz))
        · simp -implicitDefEqProofs [Try.f34, g0, g1, g2, g3]
        · simp -implicitDefEqProofs [Try.f34, g0, g1, g2, g3]
    · cases g2 : decide (b.y < IntKind.i64.wrap (a.y + a.dy))
      · cases g3 : decide (a.z < IntKind.i64.wrap (b.z + b.dz))
        · simp -implicitDefEqProofs [Try.f34, g0, g1, g2, g3]
        · cases g4 : decide (b.z < IntKind.i64.wrap (a.z + a.dz))
          · simp -implicitDefEqProofs [Try.f34, g0, g1, g2, g3, g4]
          · simp -implicitDefEqProofs [Try.f34, g0, g1, g2, g3, g4]
      · cases g3 : decide (a.z < IntKind.i64.wrap (b.z + b.dz))
        · simp -implicitDefEqProofs [Try.f34, g0, g1, g2, g3]
        · cases g4 : decide (b.z < IntKind.i64.wrap (a.z + a.dz))
          · simp -implicitDefEqProofs [Try.f34, g0, g1, g2, g3, g4]
          · simp -implicitDefEqProofs [Try.f34, g0, g1, g2, g3, g4]
  · cases g1 : decide (b.x < IntKind.i64.wrap (a.x + a.dx))
    · cases g2 : decide (a.y < IntKind.i64.wrap (b.y + b.dy))
      · cases g3 : decide (a.z < IntKind.i64.wrap (b.z + b.dz))
        · simp -implicitDefEqProofs [Try.f34, g0, g1, g2, g3]
        · cases g4 : decide (b.z < IntKind.i64.wrap (a.z + a.dz))
          · simp -implicitDefEqProofs [Try.f34, g0, g1, g2, g3, g4]
          · simp -implicitDefEqProofs [Try.f34, g0, g1, g2, g3, g4]
      · cases g3 : decide (b.y < IntKind.i64.wrap (a.y + a.dy))
        · cases g4 : decide (a.z < IntKind.i64.wrap (b.z + b.dz))
          · simp -implicitDefEqProofs [Try.f34, g0, g1, g2, g3, g4]
          · cases g5 : decide (b.z < IntKind.i64.wrap (a.z + a.dz))
            · simp -implicitDefEqProofs [Try.f34, g0, g1, g2, g3, g4, g5]
            · simp -implicitDefEqProofs [Try.f34, g0, g1, g2, g3, g4, g5]
        · cases g4 : decide (a.z < IntKind.i64.wrap (b.z + b.dz))
          · simp -implicitDefEqProofs [Try.f34, g0, g1, g2, g3, g4]
          · cases g5 : decide (b.z < IntKind.i64.wrap (a.z + a.dz))
            · simp -implicitDefEqProofs [Try.f34, g0, g1, g2, g3, g4, g5]
            · simp -implicitDefEqProofs [Try.f34, g0, g1, g2, g3, g4, g5]
    · cases g2 : decide (a.y < IntKind.i64.wrap (b.y + b.dy))
      · cases g3 : decide (a.z < IntKind.i64.wrap (b.z + b.dz))
        · simp -implicitDefEqProofs [Try.f34, g0, g1, g2, g3]
        · cases g4 : decide (b.z < IntKind.i64.wrap (a.z + a.dz))
          · simp -implicitDefEqProofs [Try.f34, g0, g1, g2, g3, g4]
          · simp -implicitDefEqProofs [Try.f34, g0, g1, g2, g3, g4]
      · cases g3 : decide (b.y < IntKind.i64.wrap (a.y + a.dy))
        · cases g4 : decide (a.z < IntKind.i64.wrap (b.z + b.dz))
          · simp -implicitDefEqProofs [Try.f34, g0, g1, g2, g3, g4]
          · cases g5 : decide (b.z < IntKind.i64.wrap (a.z + a.dz))
            · simp -implicitDefEqProofs [Try.f34, g0, g1, g2, g3, g4, g5]
            · simp -implicitDefEqProofs [Try.f34, g0, g1, g2, g3, g4, g5]
        · cases g4 : decide (a.z < IntKind.i64.wrap (b.z + b.dz))
          · simp -implicitDefEqProofs [Try.f34, g0, g1, g2, g3, g4]
          · cases g5 : decide (b.z < IntKind.i64.wrap (a.z + a.dz))
            · simp -implicitDefEqProofs [Try.f34, g0, g1, g2, g3, g4, g5]
            · simp -implicitDefEqProofs [Try.f34, g0, g1, g2, g3, g4, g5]
theorem vbeh_ev (a b : Bx) : ∃ h c, run Try.prog (mdT tblV) 26 [a.av, b.av] Heap.none 0 = some (B (behP a b), h, c) := by
  rw [run_eq, show mdT tblV 26 = some .pure from rfl, Option.bind_some, Try.func26, behP, Bx.av, Bx.av]
  cases g0 : decide (IntKind.i64.wrap (a.x + a.dx) ≤ b.x)
  · cases g1 : decide (IntKind.i64.wrap (a.y + a.dy) ≤ b.y)
    · cases g2 : decide (IntKind.i64.wrap (a.z + a.dz) ≤ b.z)
      · simp -implicitDefEqProofs [Try.f26, g0, g1, g2]
      · simp -implicitDefEqProofs [Try.f26, g0, g1, g2]
    · simp -implicitDefEqProofs [Try.f26, g0, g1]
  · simp -implicitDefEqProofs [Try.f26, g0]
end Go.Proofs.Ytkdmhlmaeccekaa.AM
