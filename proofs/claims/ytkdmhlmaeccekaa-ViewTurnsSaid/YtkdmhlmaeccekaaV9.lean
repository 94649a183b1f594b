/- Texts of the proof: part V9. -/
import Derived.Test.YtkdmhlmaeccekaaV8
set_option maxHeartbeats 0
namespace Go.Proofs.Ytkdmhlmaeccekaa.AM
open Go Go.Proofs
attribute [local simp] AV.cells okc AV.isBad fieldAddrA ld setCells stA skipV kindA freshA lay_get allocA buildA buildRow builtinA lenA els indexAddrA isNil opA evA lit yldA binA binI unA pickA boolV intV fieldA mk flat lf lf.lfs frz
def turn1 (b : Bx) (h : Int) : Bx := ⟨IntKind.i64.wrap (IntKind.i64.wrap (IntKind.i64.wrap (16 * h) - b.y) - b.dy), b.x, b.z, b.dy, b.dx, b.dz, b.s⟩
def rotP (b : Bx) (w h r : Int) : Bx := if r = 0 then b else if r = 1 then turn1 b h else if r = 2 then turn1 (turn1 b h) w else turn1 (turn1 (turn1 b h) w) h
theorem vrt_ev (b : Bx) (w h r : Int) (h0 : 0 ≤ r) (h3 : r ≤ 3) : ∃ hp c, run Try.prog (mdT tblV) 31 [b.av, I w, I h, I r] Heap.none 0 = some ((rotP b w h r).av, hp, c) := by
  rw [run_eq, show mdT tblV 31 = some .pure from rfl, Option.bind_some, Try.func31, Bx.av, Bx.av]
  have hr : r = 0 ∨ r = 1 ∨ r = 2 ∨ r = 3 := by omega
  rcases hr with rfl | rfl | rfl | rfl <;> simp -implicitDefEqProofs [Try.f31, rotP, turn1, loop_step, wrap_id, Bx.av]
@[simp] theorem vrt_c (b : Bx) (w h r : Int) (h0 : 0 ≤ r) (h3 : r ≤ 3) (hp : Heap) (c : Nat) : callA (mdT tblV) (run Try.prog (mdT tblV)) 31 [AV.agg [I b.x, I b.y, I b.z, I b.dx, I b.dy, I b.dz, I b.s], I w, I h, I r] hp c = some ((rotP b w h r).av, hp, c) := by
  obtain ⟨h', c', e⟩ := vrt_ev b w h r h0 h3
  exact call_of rfl rfl e rfl rfl
theorem rrt_ev (b : Bx) (w h r : Int) (h0 : 0 ≤ r) (h3 : r ≤ 3) : ∃ hp c, run Try.prog (mdT tblV) 30 [b.av, I w, I h, I r] Heap.none 0 = some ((rotP b w h r).av, hp, c) := by
  rw [run_eq, show mdT tblV 30 = some .pure from rfl, Option.bind_some, Try.func30, Bx.av, Bx.av]
  have hr : r = 0 ∨ r = 1 ∨ r = 2 ∨ r = 3 := by omega
  rcases hr with rfl | rfl | rfl | rfl <;> simp -implicitDefEqProofs [Try.f30, rotP, turn1, loop_step, wrap_id, Bx.av]
@[simp] theorem rrt_c (b : Bx) (w h r : Int) (h0 : 0 ≤ r) (h3 : r ≤ 3) (hp : Heap) (c : Nat) : callA (mdT tblV) (run Try.prog (mdT tblV)) 30 [AV.agg [I b.x, I b.y, I b.z, I b.dx, I b.dy, I b.dz, I b.s], I w, I h, I r] hp c = some ((rotP b w h r).av, hp, c) := by
  obtain ⟨h', c', e⟩ := rrt_ev b w h r h0 h3
  exact call_of rfl rfl e rfl rfl
end Go.Proofs.Ytkdmhlmaeccekaa.AM
