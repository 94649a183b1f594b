/- Texts of the proof: part S8. -/
import Derived.Test.YtgbdbenepnbajaaGreatDoorS7
set_option maxHeartbeats 0
set_option maxRecDepth 8000
set_option linter.unusedSimpArgs false
set_option linter.unusedVariables false
set_option linter.unusedSectionVars false
namespace Go.Proofs.YtgbdbenepnbajaaGreatDoor.AM
open Go Go.Proofs
attribute [local simp] fieldAddrA ld setCells stA skipV appendA hd makeA bnd kindA freshA killOk loadsAt edgesOn Region.binds newT empT lay_get allocA buildA buildRow lenA els indexAddrA isNil opA evA lit_int lit_bool lit_nil lit_nilf yldA binI unA pickA boolV intV fieldA mk eqs eqK nilC mayP sliceA shA
/-- How a save begins. -/
def bgP : List Int → Int × Int
  | x :: y :: z :: _ => if x ≠ 72 ∨ y ≠ 76 then (0, 16) else if z < 1 ∨ 3 < z then (0, 17) else (IntKind.i64.wrap z, 0)
  | _ => (0, 16)
theorem begin_c (nb : Bool) (l : List Int) (h : Heap) (c : Nat) : callA mL (run Tryz.prog mL) 15 [.ro nb (bys l)] h c = some (.tup [I (bgP l).1, E (bgP l).2], h, c) := by
  have key : ∃ h c, run Tryz.prog mL 15 [.ro nb (bys l)] Heap.none 0 = some (.tup [I (bgP l).1, E (bgP l).2], h, c) := by
    rw [run_eq (show mL 15 = some .pure from rfl) rfl, Tryz.func15]
    rcases l with _ | ⟨x, _ | ⟨y, _ | ⟨z, r⟩⟩⟩
    · simp -implicitDefEqProofs [Tryz.f15, bgP, -decide_eq_true_eq, -decide_eq_false_iff_not, -List.any_eq_true, -List.any_eq_false, -bne_iff_ne, -beq_iff_eq, -beq_eq_false_iff_ne, -bne_eq_false_iff_eq]
    · simp -implicitDefEqProofs [Tryz.f15, bgP, -decide_eq_true_eq, -decide_eq_false_iff_not, -List.any_eq_true, -List.any_eq_false, -bne_iff_ne, -beq_iff_eq, -beq_eq_false_iff_ne, -bne_eq_false_iff_eq]
    · simp -implicitDefEqProofs [Tryz.f15, bgP, -decide_eq_true_eq, -decide_eq_false_iff_not, -List.any_eq_true, -List.any_eq_false, -bne_iff_ne, -beq_iff_eq, -beq_eq_false_iff_ne, -bne_eq_false_iff_eq]
    · have kl : decide ((r.length : Int) + 1 + 1 + 1 < 3) = false := by simp; omega
      have q0 : (0 : Int) < (r.length : Int) + 1 + 1 + 1 := by omega
      have q1 : (1 : Int) < (r.length : Int) + 1 + 1 + 1 := by omega
      have q2 : (2 : Int) < (r.length : Int) + 1 + 1 + 1 := by omega
      cases g1 : (x != 72)
      · cases g2 : (y != 76)
        · have h1 : x = 72 := by simpa using g1
          have h2 : y = 76 := by simpa using g2
          cases g3 : decide (z < 1)
          · cases g4 : decide (3 < z)
            · have hb : bgP (x :: y :: z :: r) = (IntKind.i64.wrap z, 0) := by simp at g3 g4; simp [bgP, h1, h2]; omega
              rw [hb]
              simp -implicitDefEqProofs [Tryz.f15, kl, q0, q1, q2, g1, g2, g3, g4, cv_5_3, -decide_eq_true_eq, -decide_eq_false_iff_not, -List.any_eq_true, -List.any_eq_false, -bne_iff_ne, -beq_iff_eq, -beq_eq_false_iff_ne, -bne_eq_false_iff_eq]
            · have hb : bgP (x :: y :: z :: r) = (0, 17) := by simp at g3 g4; simp [bgP, h1, h2]; omega
              rw [hb]
              simp -implicitDefEqProofs [Tryz.f15, kl, q0, q1, q2, g1, g2, g3, g4, cv_5_3, -decide_eq_true_eq, -decide_eq_false_iff_not, -List.any_eq_true, -List.any_eq_false, -bne_iff_ne, -beq_iff_eq, -beq_eq_false_iff_ne, -bne_eq_false_iff_eq]
          · have hb : bgP (x :: y :: z :: r) = (0, 17) := by simp at g3; simp [bgP, h1, h2]; omega
            rw [hb]
            simp -implicitDefEqProofs [Tryz.f15, kl, q0, q1, q2, g1, g2, g3, cv_5_3, -decide_eq_true_eq, -decide_eq_false_iff_not, -List.any_eq_true, -List.any_eq_false, -bne_iff_ne, -beq_iff_eq, -beq_eq_false_iff_ne, -bne_eq_false_iff_eq]
        · have hb : bgP (x :: y :: z :: r) = (0, 16) := by simp at g2; simp [bgP, g2]
          rw [hb]
          simp -implicitDefEqProofs [Tryz.f15, kl, q0, q1, q2, g1, g2, cv_5_3, -decide_eq_true_eq, -decide_eq_false_iff_not, -List.any_eq_true, -List.any_eq_false, -bne_iff_ne, -beq_iff_eq, -beq_eq_false_iff_ne, -bne_eq_false_iff_eq]
      · have hb : bgP (x :: y :: z :: r) = (0, 16) := by simp at g1; simp [bgP, g1]
        rw [hb]
        simp -implicitDefEqProofs [Tryz.f15, kl, q0, q1, q2, g1, cv_5_3, -decide_eq_true_eq, -decide_eq_false_iff_not, -List.any_eq_true, -List.any_eq_false, -bne_iff_ne, -beq_iff_eq, -beq_eq_false_iff_ne, -bne_eq_false_iff_eq]
  obtain ⟨h', c', e⟩ := key
  exact call_of rfl rfl e rfl rfl
theorem rbegin_c (nb : Bool) (l : List Int) (h : Heap) (c : Nat) : callA mL (run Tryz.prog mL) 13 [.ro nb (bys l)] h c = some (E (bgP l).2, h, c) := by
  have key : ∃ h c, run Tryz.prog mL 13 [.ro nb (bys l)] Heap.none 0 = some (E (bgP l).2, h, c) := by
    rw [run_eq (show mL 13 = some .pure from rfl) rfl, Tryz.func13]
    rcases l with _ | ⟨x, _ | ⟨y, _ | ⟨z, r⟩⟩⟩
    · simp -implicitDefEqProofs [Tryz.f13, bgP, -decide_eq_true_eq, -decide_eq_false_iff_not, -List.any_eq_true, -List.any_eq_false, -bne_iff_ne, -beq_iff_eq, -beq_eq_false_iff_ne, -bne_eq_false_iff_eq]
    · simp -implicitDefEqProofs [Tryz.f13, bgP, -decide_eq_true_eq, -decide_eq_false_iff_not, -List.any_eq_true, -List.any_eq_false, -bne_iff_ne, -beq_iff_eq, -beq_eq_false_iff_ne, -bne_eq_false_iff_eq]
    · simp -implicitDefEqProofs [Tryz.f13, bgP, -decide_eq_true_eq, -decide_eq_false_iff_not, -List.any_eq_true, -List.any_eq_false, -bne_iff_ne, -beq_iff_eq, -beq_eq_false_iff_ne, -bne_eq_false_iff_eq]
    · have kl : decide ((r.length : Int) + 1 + 1 + 1 < 3) = false := by simp; omega
      have q0 : (0 : Int) < (r.length : Int) + 1 + 1 + 1 := by omega
      have q1 : (1 : Int) < (r.length : Int) + 1 + 1 + 1 := by omega
      have q2 : (2 : Int) < (r.length : Int) + 1 + 1 + 1 := by omega
      cases g1 : (x != 72)
      · cases g2 : (y != 76)
        · have h1 : x = 72 := by simpa using g1
          have h2 : y = 76 := by simpa using g2
          cases g3 : decide (z < 1)
          · cases g4 : decide (3 < z)
            · have hb : bgP (x :: y :: z :: r) = (IntKind.i64.wrap z, 0) := by simp at g3 g4; simp [bgP, h1, h2]; omega
              rw [hb]
              simp -implicitDefEqProofs [Tryz.f13, kl, q0, q1, q2, g1, g2, g3, g4, cv_5_3, -decide_eq_true_eq, -decide_eq_false_iff_not, -List.any_eq_true, -List.any_eq_false, -bne_iff_ne, -beq_iff_eq, -beq_eq_false_iff_ne, -bne_eq_false_iff_eq]
            · have hb : bgP (x :: y :: z :: r) = (0, 17) := by simp at g3 g4; simp [bgP, h1, h2]; omega
              rw [hb]
              simp -implicitDefEqProofs [Tryz.f13, kl, q0, q1, q2, g1, g2, g3, g4, cv_5_3, -decide_eq_true_eq, -decide_eq_false_iff_not, -List.any_eq_true, -List.any_eq_false, -bne_iff_ne, -beq_iff_eq, -beq_eq_false_iff_ne, -bne_eq_false_iff_eq]
          · have hb : bgP (x :: y :: z :: r) = (0, 17) := by simp at g3; simp [bgP, h1, h2]; omega
            rw [hb]
            simp -implicitDefEqProofs [Tryz.f13, kl, q0, q1, q2, g1, g2, g3, cv_5_3, -decide_eq_true_eq, -decide_eq_false_iff_not, -List.any_eq_true, -List.any_eq_false, -bne_iff_ne, -beq_iff_eq, -beq_eq_false_iff_ne, -bne_eq_false_iff_eq]
        · have hb : bgP (x :: y :: z :: r) = (0, 16) := by simp at g2; simp [bgP, g2]
          rw [hb]
          simp -implicitDefEqProofs [Tryz.f13, kl, q0, q1, q2, g1, g2, cv_5_3, -decide_eq_true_eq, -decide_eq_false_iff_not, -List.any_eq_true, -List.any_eq_false, -bne_iff_ne, -beq_iff_eq, -beq_eq_false_iff_ne, -bne_eq_false_iff_eq]
      · have hb : bgP (x :: y :: z :: r) = (0, 16) := by simp at g1; simp [bgP, g1]
        rw [hb]
        simp -implicitDefEqProofs [Tryz.f13, kl, q0, q1, q2, g1, cv_5_3, -decide_eq_true_eq, -decide_eq_false_iff_not, -List.any_eq_true, -List.any_eq_false, -bne_iff_ne, -beq_iff_eq, -beq_eq_false_iff_ne, -bne_eq_false_iff_eq]
  obtain ⟨h', c', e⟩ := key
  exact call_of rfl rfl e rfl rfl
/-- A chunk. -/
structure Ck where
  a : Int
  b : Int
  c : Int
  g : Bool
abbrev Ck.row (k : Ck) : List AV := [I k.a, I k.b, I k.c, B k.g]
abbrev ckR (ks : List Ck) : List (List AV) := ks.map Ck.row
theorem inK_30 : inK Tryz.prog 30 = some [false, false, false, true] := by kernel_rfl
def TOut (o : Option (AV × Heap × Nat)) : Prop := ∃ h c, o = some (B true, h, c)
def LI7 (b1 b2 : Bool) (ks : List Ck) (kk : Nat) (st : St) : Prop := ∃ i : Nat, kk = ks.length - i ∧ i ≤ ks.length ∧ st.t 0 = .ro b1 (ckR ks) ∧ st.t 1 = .ro b2 (ckR ks) ∧ st.t 5 = I i
theorem list_c (b1 b2 : Bool) (ks : List Ck) (hl : ks.length ≤ 1000000) (h : Heap) (c : Nat) : callA mL (run Tryz.prog mL) 7 [.ro b1 (ckR ks), .ro b2 (ckR ks)] h c = some (B true, h, c) := by
  have key : TOut (run Tryz.prog mL 7 [.ro b1 (ckR ks), .ro b2 (ckR ks)] Heap.none 0) := by
    rw [run_eq (show mL 7 = some .pure from rfl) rfl, Tryz.func7]
    simp -implicitDefEqProofs [Tryz.f7, Option.bind_assoc, -decide_eq_true_eq, -decide_eq_false_iff_not, -List.any_eq_true, -List.any_eq_false, -bne_iff_ne, -beq_iff_eq, -beq_eq_false_iff_ne, -bne_eq_false_iff_eq]
    refine loop_to (R := TOut) (LI7 b1 b2 ks) (fun e st => e = .exit 0) ?_ ?_ ks.length _ ?_
    · rintro kk ⟨t, h, c⟩ ⟨i, rfl, hi, a0, a1, a5⟩
      simp only at a0 a1 a5
      by_cases g : i < ks.length
      · have g1 : decide (i < ks.length) = true := by simp [g]
        have w1 : IntKind.i64.wrap ((i : Int) + 1) = ((i + 1 : Nat) : Int) := wrap_id' (by omega)
        obtain ⟨x, hx⟩ : ∃ x, ks[i]? = some x := ⟨ks[i], by simp [g]⟩
        simp -implicitDefEqProofs [a0, a1, a5, g1, hx, w1, inK_30, binA, to_normal, to_exit, to_ret, -decide_eq_true_eq, -decide_eq_false_iff_not, -List.any_eq_true, -List.any_eq_false, -bne_iff_ne, -beq_iff_eq, -beq_eq_false_iff_ne, -bne_eq_false_iff_eq]
        exact ⟨ks.length - (i + 1), by omega, i + 1, rfl, by omega, by simp [a0], by simp [a1], by simp⟩
      · have g1 : decide (i < ks.length) = false := by simp; omega
        simp -implicitDefEqProofs [a0, a1, a5, g1, to_normal, to_exit, to_ret, -decide_eq_true_eq, -decide_eq_false_iff_not, -List.any_eq_true, -List.any_eq_false, -bne_iff_ne, -beq_iff_eq, -beq_eq_false_iff_ne, -bne_eq_false_iff_eq]
    · rintro e ⟨t, h, c⟩ rfl
      simp -implicitDefEqProofs [-decide_eq_true_eq, -decide_eq_false_iff_not, -List.any_eq_true, -List.any_eq_false, -bne_iff_ne, -beq_iff_eq, -beq_eq_false_iff_ne, -bne_eq_false_iff_eq]
      exact ⟨_, _, rfl⟩
    · exact ⟨0, by simp, by simp, by simp, by simp, by simp⟩
  obtain ⟨h', c', e⟩ := key
  exact call_of rfl rfl e rfl rfl
end Go.Proofs.YtgbdbenepnbajaaGreatDoor.AM
