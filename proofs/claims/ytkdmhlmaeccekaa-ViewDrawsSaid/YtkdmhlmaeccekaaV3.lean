/- Texts of the proof: part V3. -/
import Derived.Test.YtkdmhlmaeccekaaV2
namespace Go.Proofs.Ytkdmhlmaeccekaa.AM
open Go Go.Proofs
/-- A call of a function that is called by value, and that answers with scalars. -/
theorem call_of {f : Nat} {args vs : List AV} {r : AV} {h h' : Heap} {c c' : Nat} (hm : mdT tblV f = some .pure) (ha : args.mapM (frz h depth) = some vs)
    (e : run Try.prog (mdT tblV) f vs Heap.none 0 = some (r, h', c')) (fr : frz h' depth r = some r) (fl : flat r = true) :
    callA (mdT tblV) (run Try.prog (mdT tblV)) f args h c = some (r, h, c) := by
  rw [call_pure _ _ _ _ _ _ hm, ha, Option.bind_some, e, Option.bind_some]
  rw [fr, Option.bind_some, fl]
  rw [show (lf.lfs args || true || okO h' depth r) = true by simp]
  rfl

attribute [local simp] AV.cells okc AV.isBad fieldAddrA ld setCells stA skipV opA evA lit yldA binA binI unA pickA boolV intV fieldA mk flat lf lf.lfs
/-- The words of a box. -/
structure Bx where
  x : Int
  y : Int
  z : Int
  dx : Int
  dy : Int
  dz : Int
  s : Int
  deriving DecidableEq

abbrev I (n : Int) : AV := .val (.int .i64 n)
abbrev B (b : Bool) : AV := .val (.bool b)
abbrev M : Nat → Option CMode := mdT tblV
abbrev E (n : Int) : AV := .val (.int .i64 n)
def Bx.av (b : Bx) : AV := .agg [I b.x, I b.y, I b.z, I b.dx, I b.dy, I b.dz, I b.s]
def wideP (n : Int) : Bool := decide (n ≥ -100000) && decide (n ≤ 100000)
def thickP (n : Int) : Bool := decide (n ≥ 1) && decide (n ≤ 64)


theorem out_ev (n lo hi : Int) : run Try.prog (mdT tblV) 29 [I n, I lo, I hi] Heap.none 0 = some (B (decide (n < lo) || decide (n > hi)), Heap.none, 0) := by
  rw [run_eq, show mdT tblV 29 = some .pure from rfl, Option.bind_some, Try.func29]
  cases h : decide (n < lo) <;> simp [Try.f29, h]
theorem wide_ev (n : Int) : run Try.prog (mdT tblV) 32 [I n] Heap.none 0 = some (B (wideP n), Heap.none, 0) := by
  rw [run_eq, show mdT tblV 32 = some .pure from rfl, Option.bind_some, Try.func32, wideP]
  cases h : decide (n ≥ -100000) <;> simp [Try.f32, h]
theorem thick_ev (n : Int) : run Try.prog (mdT tblV) 33 [I n] Heap.none 0 = some (B (thickP n), Heap.none, 0) := by
  rw [run_eq, show mdT tblV 33 = some .pure from rfl, Option.bind_some, Try.func33, thickP]
  cases h : decide (n ≥ 1) <;> simp [Try.f33, h]
@[simp] theorem out_c (n lo hi : Int) (h : Heap) (c : Nat) : callA (mdT tblV) (run Try.prog (mdT tblV)) 29 [I n, I lo, I hi] h c = some (B (decide (n < lo) || decide (n > hi)), h, c) :=
  call_of rfl rfl (out_ev n lo hi) rfl rfl
@[simp] theorem wide_c (n : Int) (h : Heap) (c : Nat) : callA (mdT tblV) (run Try.prog (mdT tblV)) 32 [I n] h c = some (B (wideP n), h, c) :=
  call_of rfl rfl (wide_ev n) rfl rfl
@[simp] theorem thick_c (n : Int) (h : Heap) (c : Nat) : callA (mdT tblV) (run Try.prog (mdT tblV)) 33 [I n] h c = some (B (thickP n), h, c) :=
  call_of rfl rfl (thick_ev n) rfl rfl

def Bx.ok (b : Bx) : Bool := wideP b.x && wideP b.y && wideP b.z && thickP b.dx && thickP b.dy && thickP b.dz
theorem sound_ev (b : Bx) : ∃ h c, run Try.prog (mdT tblV) 23 [b.av] Heap.none 0 = some (B b.ok, h, c) := by
  rw [run_eq, show mdT tblV 23 = some .pure from rfl, Option.bind_some, Try.func23, Bx.ok, Bx.av]
  cases g0 : wideP b.x
  · simp -implicitDefEqProofs [Try.f23, g0]
  cases g1 : wideP b.y
  · simp -implicitDefEqProofs [Try.f23, g0, g1]
  cases g2 : wideP b.z
  · simp -implicitDefEqProofs [Try.f23, g0, g1, g2]
  cases g3 : thickP b.dx
  · simp -implicitDefEqProofs [Try.f23, g0, g1, g2, g3]
  cases g4 : thickP b.dy
  · simp -implicitDefEqProofs [Try.f23, g0, g1, g2, g3, g4]
  cases g5 : thickP b.dz
  · simp -implicitDefEqProofs [Try.f23, g0, g1, g2, g3, g4, g5]
  simp -implicitDefEqProofs [Try.f23, g0, g1, g2, g3, g4, g5]
theorem wide_out (n : Int) : (decide (n < -100000) || decide (n > 100000)) = !wideP n := by
  simp only [wideP]; by_cases h : n < -100000 <;> by_cases g : n > 100000 <;> simp [h, g] <;> omega
theorem thick_out (n : Int) : (decide (n < 1) || decide (n > 64)) = !thickP n := by
  simp only [thickP]; by_cases h : n < 1 <;> by_cases g : n > 64 <;> simp [h, g] <;> omega
@[simp] theorem wide_o (n : Int) (h : Heap) (c : Nat) : callA (mdT tblV) (run Try.prog (mdT tblV)) 29 [I n, I (-100000), I 100000] h c = some (B (!wideP n), h, c) := by
  rw [out_c, wide_out]
@[simp] theorem thick_o (n : Int) (h : Heap) (c : Nat) : callA (mdT tblV) (run Try.prog (mdT tblV)) 29 [I n, I 1, I 64] h c = some (B (!thickP n), h, c) := by
  rw [out_c, thick_out]
theorem bad_ev (b : Bx) : ∃ h c, run Try.prog (mdT tblV) 22 [b.av] Heap.none 0 = some (B (!b.ok), h, c) := by
  rw [run_eq, show mdT tblV 22 = some .pure from rfl, Option.bind_some, Try.func22, Bx.ok, Bx.av]
  cases g0 : wideP b.x
  · simp -implicitDefEqProofs [Try.f22, g0, -out_c]
  cases g1 : wideP b.y
  · simp -implicitDefEqProofs [Try.f22, g0, g1, -out_c]
  cases g2 : wideP b.z
  · simp -implicitDefEqProofs [Try.f22, g0, g1, g2, -out_c]
  cases g3 : thickP b.dx
  · simp -implicitDefEqProofs [Try.f22, g0, g1, g2, g3, -out_c]
  cases g4 : thickP b.dy
  · simp -implicitDefEqProofs [Try.f22, g0, g1, g2, g3, g4, -out_c]
  cases g5 : thickP b.dz
  · simp -implicitDefEqProofs [Try.f22, g0, g1, g2, g3, g4, g5, -out_c]
  simp -implicitDefEqProofs [Try.f22, g0, g1, g2, g3, g4, g5, -out_c]
end Go.Proofs.Ytkdmhlmaeccekaa.AM
