/- Texts of the proof: part V11. -/
import Derived.Test.YtkdmhlmaeccekaaV10
set_option maxHeartbeats 0
namespace Go.Proofs.Ytkdmhlmaeccekaa.AM
open Go Go.Proofs
attribute [local simp] AV.cells okc AV.isBad fieldAddrA ld setCells stA skipV kindA freshA lay_get allocA buildA buildRow builtinA lenA els indexAddrA isNil opA evA lit yldA binA binI unA pickA boolV intV fieldA mk flat lf lf.lfs frz
theorem turns_eq (b : Bx) (w h one two : Int) (hb : b.ok = true) (h1 : one = 0 ∨ one = 1 ∨ one = 2 ∨ one = 3) (h2 : 0 ≤ two) (h3 : two ≤ 3) :
    (if one = 1 ∨ one = 3 then rotP (rotP b w h one) h w two else rotP (rotP b w h one) w h two) = rotP b w h (Int.tmod (one + two) 4) := by
  have ht : two = 0 ∨ two = 1 ∨ two = 2 ∨ two = 3 := by omega
  rw [ok_iff] at hb
  obtain ⟨x, y, z, dx, dy, dz, s⟩ := b
  simp only at hb
  rcases h1 with rfl | rfl | rfl | rfl <;> rcases ht with rfl | rfl | rfl | rfl <;> simp [rotP, turn1] <;> (simp only [wrap_eq]; omega)
theorem tmod4 {n : Int} (h1 : 0 ≤ n) (h2 : n ≤ 6) : 0 ≤ Int.tmod n 4 ∧ Int.tmod n 4 ≤ 3 := by
  have : n = 0 ∨ n = 1 ∨ n = 2 ∨ n = 3 ∨ n = 4 ∨ n = 5 ∨ n = 6 := by omega
  rcases this with rfl | rfl | rfl | rfl | rfl | rfl | rfl <;> decide
theorem inR_iff (n lo hi : Int) : inR n lo hi = true ↔ lo ≤ n ∧ n ≤ hi := by
  simp [inR]
theorem law9 (b : Bx) (w h one two : Int) : ∃ hp c, run Try.prog (mdT tblV) 9 [b.av, I w, I h, I one, I two] Heap.none 0 = some (B true, hp, c) := by
  rw [run_eq, show mdT tblV 9 = some .pure from rfl, Option.bind_some, Try.func9, Bx.av]
  cases g : rotOk b w h one && (rotP b w h one).ok
  · have e := rotT_f g
    simp -implicitDefEqProofs [Try.f9, e]
  have e := rotT_t g
  have g' := g
  simp only [rotOk, Bool.and_eq_true, inR_iff] at g'
  obtain ⟨⟨⟨⟨hb, hw⟩, hh⟩, ho⟩, hx⟩ := g'
  cases k1 : decide (two < 0)
  · cases k2 : decide (two > 3)
    · have t1 : 0 ≤ two := by simpa using k1
      have t2 : two ≤ 3 := by simpa using k2
      have hone : one = 0 ∨ one = 1 ∨ one = 2 ∨ one = 3 := by omega
      have eq := turns_eq b w h one two hb hone t1 t2
      have wr : IntKind.i64.wrap (one + two) = one + two := wrap_id (by omega) (by omega)
      have t3 := tmod4 (n := one + two) (by omega) (by omega)
      have third : ∀ y : Bx, y = rotP b w h (Int.tmod (one + two) 4) → y.ok = true → (rotOk b w h (Int.tmod (one + two) 4) && (rotP b w h (Int.tmod (one + two) 4)).ok) = true := by
        intro y hy hok
        rw [← hy, hok, Bool.and_true]
        simp only [rotOk, Bool.and_eq_true, inR_iff]
        exact ⟨⟨⟨hb, hw⟩, hh⟩, t3⟩
      rcases hone with rfl | rfl | rfl | rfl
      · cases g2 : rotOk (rotP b w h 0) w h two && (rotP (rotP b w h 0) w h two).ok
        · have e2 := rotT_f g2
          simp -implicitDefEqProofs [Try.f9, e, k1, k2, e2]
        · have e2 := rotT_t g2
          simp at eq
          rw [Bool.and_eq_true] at g2
          have e3 := rotT_t (third _ (by simpa using eq) g2.2)
          try simp at e3
          try simp at wr
          rw [eq] at e2
          simp -implicitDefEqProofs [Try.f9, e, k1, k2, e2, e3, wr, eqs]
      · cases g2 : rotOk (rotP b w h 1) h w two && (rotP (rotP b w h 1) h w two).ok
        · have e2 := rotT_f g2
          simp -implicitDefEqProofs [Try.f9, e, k1, k2, e2]
        · have e2 := rotT_t g2
          simp at eq
          rw [Bool.and_eq_true] at g2
          have e3 := rotT_t (third _ (by simpa using eq) g2.2)
          try simp at e3
          try simp at wr
          rw [eq] at e2
          simp -implicitDefEqProofs [Try.f9, e, k1, k2, e2, e3, wr, eqs]
      · cases g2 : rotOk (rotP b w h 2) w h two && (rotP (rotP b w h 2) w h two).ok
        · have e2 := rotT_f g2
          simp -implicitDefEqProofs [Try.f9, e, k1, k2, e2]
        · have e2 := rotT_t g2
          simp at eq
          rw [Bool.and_eq_true] at g2
          have e3 := rotT_t (third _ (by simpa using eq) g2.2)
          try simp at e3
          try simp at wr
          rw [eq] at e2
          simp -implicitDefEqProofs [Try.f9, e, k1, k2, e2, e3, wr, eqs]
      · cases g2 : rotOk (rotP b w h 3) h w two && (rotP (rotP b w h 3) h w two).ok
        · have e2 := rotT_f g2
          simp -implicitDefEqProofs [Try.f9, e, k1, k2, e2]
        · have e2 := rotT_t g2
          simp at eq
          rw [Bool.and_eq_true] at g2
          have e3 := rotT_t (third _ (by simpa using eq) g2.2)
          try simp at e3
          try simp at wr
          rw [eq] at e2
          simp -implicitDefEqProofs [Try.f9, e, k1, k2, e2, e3, wr, eqs]
    · simp -implicitDefEqProofs [Try.f9, e, k1, k2]
  · simp -implicitDefEqProofs [Try.f9, e, k1]
theorem pure9 (x0 x1 x2 x3 x4 : AV) (h0 : TyArg Try.prog 8 32 x0) (h1 : TyArg Try.prog 8 3 x1) (h2 : TyArg Try.prog 8 3 x2) (h3 : TyArg Try.prog 8 3 x3) (h4 : TyArg Try.prog 8 3 x4) : ∃ h c, run Try.prog (mdT tblV) 9 [x0, x1, x2, x3, x4] Heap.none 0 = some (B true, h, c) := by
  obtain ⟨a, rfl, _⟩ := arg32 h0
  obtain ⟨b, rfl, _⟩ := arg3 h1
  obtain ⟨c, rfl, _⟩ := arg3 h2
  obtain ⟨d, rfl, _⟩ := arg3 h3
  obtain ⟨e, rfl, _⟩ := arg3 h4
  exact law9 a b c d e
end Go.Proofs.Ytkdmhlmaeccekaa.AM
