/- Texts of the proof: part S6. -/
import Derived.Test.YtgbdbenepnbajaaGreatDoorS5
set_option maxHeartbeats 0
set_option maxRecDepth 8000
set_option linter.unusedSimpArgs false
set_option linter.unusedVariables false
set_option linter.unusedSectionVars false
namespace Go.Proofs.YtgbdbenepnbajaaGreatDoor.AM
open Go Go.Proofs
attribute [local simp] fieldAddrA ld setCells stA skipV appendA hd makeA bnd kindA freshA killOk loadsAt edgesOn Region.binds newT empT lay_get allocA buildA buildRow lenA els indexAddrA isNil opA evA lit_int lit_bool lit_nil lit_nilf yldA binI unA pickA boolV intV fieldA mk eqs eqK nilC mayP sliceA shA
/-- One byte more of a number. -/
def upU (u x s : Int) : Int := orI .u64 u (shlI .u64 (IntKind.u64.wrap (andI .u8 x 127)) s)
/-- A number's bytes. -/
def vP : List Int → Int → Int → Option (Int × List Int)
  | [], _, _ => none
  | x :: r, u, s => if ((s == 63) && decide (1 < x)) || (decide (0 < s) && (x == 0)) then none else if x < 128 then some (upU u x s, r) else vP r (upU u x s) (s + 7)
/-- The number that they tell. -/
def dcI (u : Int) : Int := if andI .u64 u 1 = 1 then notI .i64 (IntKind.i64.wrap (shrI .u64 u 1)) else IntKind.i64.wrap (shrI .u64 u 1)
/-- Elsewhere the memory is as it was. -/
def Same (c0 k q : Nat) (h0 h : Heap) : Prop := ∀ m, m < c0 → m ≠ k → m ≠ q → h m = h0 m
/-- What reading a number leaves. -/
def WO (nb : Bool) (c0 k q : Nat) (h0 : Heap) (res : Option (Int × List Int)) (o : Option (AV × Heap × Nat)) : Prop := ∃ h' c', o = some (.tup [], h', c') ∧ c0 ≤ c' ∧ Same c0 k q h0 h' ∧
  ((∃ u r, res = some (u, r) ∧ h' k = some (cdB nb r false) ∧ h' q = some (iB (dcI u))) ∨ (res = none ∧ (∃ l', h' k = some (cdB nb l' true)) ∧ h' q = some (iB 0)))
def WI (nb : Bool) (c0 k q : Nat) (h0 : Heap) (res : Option (Int × List Int)) (kk : Nat) (st : St) : Prop := ∃ (l : List Int) (u s n0 : Int), kk = l.length ∧ 0 ≤ s ∧ s ≤ 63 ∧ s % 7 = 0 ∧ res = vP l u s ∧ st.t 0 = .ptr k 0 0 ∧ st.t 1 = .ptr q 0 0 ∧ st.t 5 = .val (.int .u64 u) ∧ st.t 6 = I s ∧ st.h k = some (cdB nb l false) ∧ st.h q = some (iB n0) ∧ c0 ≤ st.c ∧ Same c0 k q h0 st.h
def WE (nb : Bool) (c0 k q : Nat) (h0 : Heap) (res : Option (Int × List Int)) (e : Ex) (st : St) : Prop := c0 ≤ st.c ∧ Same c0 k q h0 st.h ∧ ((e = .exit 2 ∧ ∃ (u n0 : Int) (r : List Int), res = some (u, r) ∧ st.t 0 = .ptr k 0 0 ∧ st.t 1 = .ptr q 0 0 ∧ st.t 5 = .val (.int .u64 u) ∧ st.h k = some (cdB nb r false) ∧ st.h q = some (iB n0)) ∨
  (e = .ret ∧ res = none ∧ (∃ l', st.h k = some (cdB nb l' true)) ∧ st.h q = some (iB 0)))
theorem whole_ev {nb : Bool} {k q : Nat} {h : Heap} {c : Nat} {l : List Int} {n0 : Int} (hkq : k ≠ q) (hk : k < c) (hq : q < c) (a : h k = some (cdB nb l false)) (b : h q = some (iB n0)) :
    WO nb c k q h (vP l 0 0) (run Tryz.prog mL 35 [.ptr k 0 0, .ptr q 0 0] h c) := by
  rw [run_eq (show mL 35 = some .heap from rfl) rfl, Tryz.func35]
  have hqk : q ≠ k := fun e => hkq e.symm
  simp -implicitDefEqProofs [Tryz.f35, a, b, hkq, hqk, Option.bind_assoc, -decide_eq_true_eq, -decide_eq_false_iff_not, -List.any_eq_true, -List.any_eq_false, -bne_iff_ne, -beq_iff_eq, -beq_eq_false_iff_ne, -bne_eq_false_iff_eq]
  refine loop_to (R := WO nb c k q h (vP l 0 0)) (WI nb c k q h (vP l 0 0)) (WE nb c k q h (vP l 0 0)) ?_ ?_ l.length _ ?_
  · rintro kk ⟨t, h1, c1⟩ ⟨l1, u, s, m0, rfl, hs0, hs1, hs2, hres, a0, a1, a5, a6, b1, b2, hc, hS⟩
    simp only at a0 a1 a5 a6 b1 b2 hc hS
    have d1 : c1 ≠ k := by omega
    have d2 : c1 ≠ q := by omega
    have d3 : k ≠ c1 := by omega
    have d4 : q ≠ c1 := by omega
    have hs9 : ¬ s < 0 := by omega
    have w7 : IntKind.i64.wrap (s + 7) = s + 7 := wrap_id (by omega) (by omega)
    cases l1 with
    | nil =>
      have e16 := octet_nil (nb := nb) (bad := false) (x0 := 0) d1 (h := h1.put c1 (some (yB 0))) (c := c1 + 1) (by simp [d3, b1]) (by simp)
      simp -implicitDefEqProofs [a0, a1, a5, a6, b1, b2, e16, d1, d2, d3, d4, hkq, hqk, to_normal, to_exit, to_ret, -decide_eq_true_eq, -decide_eq_false_iff_not, -List.any_eq_true, -List.any_eq_false, -bne_iff_ne, -beq_iff_eq, -beq_eq_false_iff_ne, -bne_eq_false_iff_eq]
      refine ⟨by simp only; omega, fun m hm hmk hmq => ?_, .inr ⟨rfl, by rw [hres]; rfl, ⟨[], by simp [d3, hkq]⟩, by simp [d4]⟩⟩
      simp only
      have : m ≠ c1 := by omega
      simp [this, hmk, hmq]
      exact hS m hm hmk hmq
    | cons x r =>
      have e16 := octet_cons (nb := nb) (bad := false) (x0 := 0) (y := x) (l := r) d1 (h := h1.put c1 (some (yB 0))) (c := c1 + 1) (by simp [d3, b1]) (by simp)
      have hS' : ∀ hh : Heap, (∀ m, m < c → m ≠ k → m ≠ q → hh m = h1 m) → Same c k q h hh := fun hh H m h2 h3 h4 => by rw [H m h2 h3 h4]; exact hS m h2 h3 h4
      cases g1 : (s == 63)
      · have h63 : s ≠ 63 := by simpa using g1
        cases g3 : decide (0 < s)
        · cases g5 : decide (x < 128)
          · have h5 : ¬ x < 128 := by simpa using g5
            have hlt : s + 7 ≤ 63 := by have := (by simpa using g3 : s ≤ 0); omega
            simp -implicitDefEqProofs [a0, a1, a5, a6, b1, b2, e16, cv_5_32, w7, hs9, g1, g3, g5, d1, d2, d3, d4, hkq, hqk, to_normal, to_exit, to_ret, -decide_eq_true_eq, -decide_eq_false_iff_not, -List.any_eq_true, -List.any_eq_false, -bne_iff_ne, -beq_iff_eq, -beq_eq_false_iff_ne, -bne_eq_false_iff_eq]
            refine ⟨r.length, by simp, r, upU u x s, s + 7, m0, rfl, by omega, hlt, by omega, by rw [hres, vP]; simp [g1, g3, h5], by simp [a0], by simp [a1], by simp [upU], by simp, by simp, by simp [hqk, d4, b2], by simp only; omega, hS' _ fun m h2 h3 h4 => ?_⟩
            have : m ≠ c1 := by omega
            simp [this, h3, h4]
          · have h5 : x < 128 := by simpa using g5
            simp -implicitDefEqProofs [a0, a1, a5, a6, b1, b2, e16, cv_5_32, w7, hs9, g1, g3, g5, d1, d2, d3, d4, hkq, hqk, to_normal, to_exit, to_ret, -decide_eq_true_eq, -decide_eq_false_iff_not, -List.any_eq_true, -List.any_eq_false, -bne_iff_ne, -beq_iff_eq, -beq_eq_false_iff_ne, -bne_eq_false_iff_eq]
            refine ⟨by simp only; omega, hS' _ fun m h2 h3 h4 => ?_, .inl ⟨rfl, upU u x s, m0, r, by rw [hres, vP]; simp [g1, g3, h5], by simp [a0], by simp [a1], by simp [upU], by simp, by simp [hqk, d4, b2]⟩⟩
            have : m ≠ c1 := by omega
            simp [this, h3, h4]

        · cases g4 : (x == 0)
          · cases g5 : decide (x < 128)
            · have h5 : ¬ x < 128 := by simpa using g5
              have hlt : s + 7 ≤ 63 := by omega
              simp -implicitDefEqProofs [a0, a1, a5, a6, b1, b2, e16, cv_5_32, w7, hs9, g1, g3, g4, g5, d1, d2, d3, d4, hkq, hqk, to_normal, to_exit, to_ret, -decide_eq_true_eq, -decide_eq_false_iff_not, -List.any_eq_true, -List.any_eq_false, -bne_iff_ne, -beq_iff_eq, -beq_eq_false_iff_ne, -bne_eq_false_iff_eq]
              refine ⟨r.length, by simp, r, upU u x s, s + 7, m0, rfl, by omega, hlt, by omega, by rw [hres, vP]; simp [g1, g3, g4, h5], by simp [a0], by simp [a1], by simp [upU], by simp, by simp, by simp [hqk, d4, b2], by simp only; omega, hS' _ fun m h2 h3 h4 => ?_⟩
              have : m ≠ c1 := by omega
              simp [this, h3, h4]
            · have h5 : x < 128 := by simpa using g5
              simp -implicitDefEqProofs [a0, a1, a5, a6, b1, b2, e16, cv_5_32, w7, hs9, g1, g3, g4, g5, d1, d2, d3, d4, hkq, hqk, to_normal, to_exit, to_ret, -decide_eq_true_eq, -decide_eq_false_iff_not, -List.any_eq_true, -List.any_eq_false, -bne_iff_ne, -beq_iff_eq, -beq_eq_false_iff_ne, -bne_eq_false_iff_eq]
              refine ⟨by simp only; omega, hS' _ fun m h2 h3 h4 => ?_, .inl ⟨rfl, upU u x s, m0, r, by rw [hres, vP]; simp [g1, g3, g4, h5], by simp [a0], by simp [a1], by simp [upU], by simp, by simp [hqk, d4, b2]⟩⟩
              have : m ≠ c1 := by omega
              simp [this, h3, h4]

          · simp -implicitDefEqProofs [a0, a1, a5, a6, b1, b2, e16, cv_5_32, w7, hs9, g1, g3, g4, d1, d2, d3, d4, hkq, hqk, to_normal, to_exit, to_ret, -decide_eq_true_eq, -decide_eq_false_iff_not, -List.any_eq_true, -List.any_eq_false, -bne_iff_ne, -beq_iff_eq, -beq_eq_false_iff_ne, -bne_eq_false_iff_eq]
            refine ⟨by simp only; omega, hS' _ fun m h2 h3 h4 => ?_, .inr ⟨rfl, by rw [hres, vP]; simp [g1, g3, g4], ⟨r, by simp [d3, hkq]⟩, by simp [d4]⟩⟩
            have : m ≠ c1 := by omega
            simp [this, h3, h4]

      · have h63 : s = 63 := by simpa using g1
        have g3 : decide (0 < s) = true := by simp; omega
        cases g2 : decide (1 < x)
        · cases g4 : (x == 0)
          · cases g5 : decide (x < 128)
            · have h5 : ¬ x < 128 := by simpa using g5
              have hlt : s + 7 ≤ 63 := by have := (by simpa using g2 : x ≤ 1); omega
              simp -implicitDefEqProofs [a0, a1, a5, a6, b1, b2, e16, cv_5_32, w7, hs9, g1, g2, g3, g4, g5, d1, d2, d3, d4, hkq, hqk, to_normal, to_exit, to_ret, -decide_eq_true_eq, -decide_eq_false_iff_not, -List.any_eq_true, -List.any_eq_false, -bne_iff_ne, -beq_iff_eq, -beq_eq_false_iff_ne, -bne_eq_false_iff_eq]
              refine ⟨r.length, by simp, r, upU u x s, s + 7, m0, rfl, by omega, hlt, by omega, by rw [hres, vP]; simp [g1, g2, g3, g4, h5], by simp [a0], by simp [a1], by simp [upU], by simp, by simp, by simp [hqk, d4, b2], by simp only; omega, hS' _ fun m h2 h3 h4 => ?_⟩
              have : m ≠ c1 := by omega
              simp [this, h3, h4]
            · have h5 : x < 128 := by simpa using g5
              simp -implicitDefEqProofs [a0, a1, a5, a6, b1, b2, e16, cv_5_32, w7, hs9, g1, g2, g3, g4, g5, d1, d2, d3, d4, hkq, hqk, to_normal, to_exit, to_ret, -decide_eq_true_eq, -decide_eq_false_iff_not, -List.any_eq_true, -List.any_eq_false, -bne_iff_ne, -beq_iff_eq, -beq_eq_false_iff_ne, -bne_eq_false_iff_eq]
              refine ⟨by simp only; omega, hS' _ fun m h2 h3 h4 => ?_, .inl ⟨rfl, upU u x s, m0, r, by rw [hres, vP]; simp [g1, g2, g3, g4, h5], by simp [a0], by simp [a1], by simp [upU], by simp, by simp [hqk, d4, b2]⟩⟩
              have : m ≠ c1 := by omega
              simp [this, h3, h4]

          · simp -implicitDefEqProofs [a0, a1, a5, a6, b1, b2, e16, cv_5_32, w7, hs9, g1, g2, g3, g4, d1, d2, d3, d4, hkq, hqk, to_normal, to_exit, to_ret, -decide_eq_true_eq, -decide_eq_false_iff_not, -List.any_eq_true, -List.any_eq_false, -bne_iff_ne, -beq_iff_eq, -beq_eq_false_iff_ne, -bne_eq_false_iff_eq]
            refine ⟨by simp only; omega, hS' _ fun m h2 h3 h4 => ?_, .inr ⟨rfl, by rw [hres, vP]; simp [g1, g2, g3, g4], ⟨r, by simp [d3, hkq]⟩, by simp [d4]⟩⟩
            have : m ≠ c1 := by omega
            simp [this, h3, h4]

        · simp -implicitDefEqProofs [a0, a1, a5, a6, b1, b2, e16, cv_5_32, w7, hs9, g1, g2, d1, d2, d3, d4, hkq, hqk, to_normal, to_exit, to_ret, -decide_eq_true_eq, -decide_eq_false_iff_not, -List.any_eq_true, -List.any_eq_false, -bne_iff_ne, -beq_iff_eq, -beq_eq_false_iff_ne, -bne_eq_false_iff_eq]
          refine ⟨by simp only; omega, hS' _ fun m h2 h3 h4 => ?_, .inr ⟨rfl, by rw [hres, vP]; simp [g1, g2], ⟨r, by simp [d3, hkq]⟩, by simp [d4]⟩⟩
          have : m ≠ c1 := by omega
          simp [this, h3, h4]

  · rintro e ⟨t, h1, c1⟩ ⟨hc, hS, H⟩
    simp only at hc hS H
    rcases H with ⟨rfl, u, m0, r, hres, a0, a1, a5, b1, b2⟩ | ⟨rfl, hres, ⟨l', b1⟩, b2⟩
    · cases g : (andI .u64 u 1 == 1)
      · simp -implicitDefEqProofs [a0, a1, a5, b1, b2, cv_32_3, g, hkq, hqk, -decide_eq_true_eq, -decide_eq_false_iff_not, -List.any_eq_true, -List.any_eq_false, -bne_iff_ne, -beq_iff_eq, -beq_eq_false_iff_ne, -bne_eq_false_iff_eq]
        refine ⟨_, _, rfl, hc, fun m h2 h3 h4 => ?_, .inl ⟨u, r, hres, by simp [hkq, b1], ?_⟩⟩
        · simp [h4]; exact hS m h2 h3 h4
        · have : dcI u = IntKind.i64.wrap (shrI .u64 u 1) := by unfold dcI; rw [if_neg (by simpa using g)]
          rw [this]; simp
      · simp -implicitDefEqProofs [a0, a1, a5, b1, b2, cv_32_3, g, hkq, hqk, -decide_eq_true_eq, -decide_eq_false_iff_not, -List.any_eq_true, -List.any_eq_false, -bne_iff_ne, -beq_iff_eq, -beq_eq_false_iff_ne, -bne_eq_false_iff_eq]
        refine ⟨_, _, rfl, hc, fun m h2 h3 h4 => ?_, .inl ⟨u, r, hres, by simp [hkq, b1], ?_⟩⟩
        · simp [h4]; exact hS m h2 h3 h4
        · have : dcI u = notI .i64 (IntKind.i64.wrap (shrI .u64 u 1)) := by unfold dcI; rw [if_pos (by simpa using g)]
          rw [this]; simp
    · simp -implicitDefEqProofs [-decide_eq_true_eq, -decide_eq_false_iff_not, -List.any_eq_true, -List.any_eq_false, -bne_iff_ne, -beq_iff_eq, -beq_eq_false_iff_ne, -bne_eq_false_iff_eq]
      exact ⟨_, _, rfl, hc, hS, .inr ⟨hres, ⟨l', b1⟩, b2⟩⟩
  · exact ⟨l, 0, 0, n0, rfl, by omega, by omega, by omega, rfl, by simp, by simp, by simp, by simp, by simp [a], by simp [b], by simp, fun m _ _ _ => rfl⟩
end Go.Proofs.YtgbdbenepnbajaaGreatDoor.AM
