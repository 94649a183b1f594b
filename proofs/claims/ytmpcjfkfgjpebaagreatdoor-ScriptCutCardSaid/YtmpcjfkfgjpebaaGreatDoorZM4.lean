/- Parts of the proof: Z45, Z46, Z47, Z48, Z49, Z50. -/
import Derived.Test.YtmpcjfkfgjpebaaGreatDoorZM3
set_option maxHeartbeats 0
set_option maxRecDepth 8000
set_option linter.unusedSimpArgs false
set_option linter.unusedVariables false
set_option linter.unusedSectionVars false
namespace Go.Proofs.YtmpcjfkfgjpebaaGreatDoor.AM
open Go Go.Proofs
attribute [local simp] fieldAddrA ld setCells stA skipV appendA hd makeA bnd kindA freshA killOk loadsAt edgesOn Region.binds newT empT lay_get allocA buildA buildRow lenA els indexAddrA isNil opA evA lit_int lit_bool lit_nil lit_nilf yldA binI unA pickA boolV intV fieldA mk eqs nilC mayP
/-- A run's state. -/
structure Rn where
  at_ : Nat
  vs : List Int
  x : Int
  y : Int
  z : Bool
abbrev Rn.av (r : Rn) : AV := .agg [I r.at_, .ro false (nums r.vs), I r.x, I r.y, B r.z]
def behP (code : List Ln) (n : Nat) : Int := if n = 0 then -1 else ((code[n - 1]?).map (·.kind)).getD (-1)
def ModeOk (len : Nat) (beh : Int) (n : Nat) (x y : Int) (z : Bool) : Prop := (y = 0 ∧ x = 0 ∧ z = false) ∨ (y = 0 ∧ x = 0 ∧ z = true ∧ (n = len ∨ beh = 6)) ∨ (y = 0 ∧ 0 < x ∧ x ≤ 1000000 ∧ z = false ∧ beh = 5) ∨ (y = 1 ∧ x = 0 ∧ z = false ∧ beh = 3) ∨ (y = 2 ∧ x = 0 ∧ z = false ∧ beh = 4)
structure RunOk (names : List Str) (code : List Ln) (r : Rn) : Prop where
  a : r.at_ ≤ code.length
  vl : r.vs.length = names.length
  vo : okV r.vs
  md : ModeOk code.length (behP code r.at_) r.at_ r.x r.y r.z
section
variable {nb cb : Bool} {names : List Str} {code : List Ln} {r : Rn}
theorem frz_rn (h : Heap) (r : Rn) : frz h depth r.av = some r.av := rfl
theorem behind_ev (F : FrzC code) (ha : r.at_ ≤ code.length) (hc : code.length ≤ 200) : IOut (behP code r.at_) (run Tryz.prog mZ 68 [progV nb cb names code, r.av] Heap.none 0) := by
  rw [run_eq (show mZ 68 = some .pure from rfl) rfl, Tryz.func68]
  by_cases h0 : r.at_ = 0
  · simp -implicitDefEqProofs [Tryz.f68, h0, behP, IOut, -decide_eq_true_eq, -decide_eq_false_iff_not, -List.any_eq_true, -List.any_eq_false, -bne_iff_ne, -beq_iff_eq, -beq_eq_false_iff_ne, -bne_eq_false_iff_eq]
  · have g0 : ((r.at_ : Int) == 0) = false := by simp; exact h0
    have w1 : IntKind.i64.wrap ((r.at_ : Int) - 1) = ((r.at_ - 1 : Nat) : Int) := by rw [wrap_id (by omega) (by omega)]; omega
    obtain ⟨l, hl⟩ : ∃ l, code[r.at_ - 1]? = some l := ⟨code[r.at_ - 1], by simp⟩
    obtain ⟨b, hb⟩ := F l (List.mem_of_getElem? hl)
    have hr := row_ro hb
    have hbe : behP code r.at_ = l.kind := by unfold behP; rw [if_neg h0, hl]; rfl
    rw [hbe]
    simp -implicitDefEqProofs [Tryz.f68, g0, w1, hl, hr, IOut, -decide_eq_true_eq, -decide_eq_false_iff_not, -List.any_eq_true, -List.any_eq_false, -bne_iff_ne, -beq_iff_eq, -beq_eq_false_iff_ne, -bne_eq_false_iff_eq]
theorem behind_c (F : FrzC code) (ha : r.at_ ≤ code.length) (hc : code.length ≤ 200) (h : Heap) (c : Nat) : callA mZ (run Tryz.prog mZ) 68 [progV nb cb names code, r.av] h c = some (I (behP code r.at_), h, c) := by
  obtain ⟨h', c', e⟩ := behind_ev (nb := nb) (cb := cb) (names := names) (r := r) F ha hc
  exact call_of rfl rfl e rfl rfl
def outB (n a b : Int) : Bool := decide (n < a) || decide (n > b)
theorem outq_ev (n a b : Int) : ∃ h c, run Tryz.prog mZ 30 [I n, I a, I b] Heap.none 0 = some (B (outB n a b), h, c) := by
  rw [run_eq (show mZ 30 = some .pure from rfl) rfl, Tryz.func30]
  unfold outB
  cases g : decide (n < a)
  · simp -implicitDefEqProofs [Tryz.f30, g, -decide_eq_true_eq, -decide_eq_false_iff_not, -List.any_eq_true, -List.any_eq_false, -bne_iff_ne, -beq_iff_eq, -beq_eq_false_iff_ne, -bne_eq_false_iff_eq]
  · simp -implicitDefEqProofs [Tryz.f30, g, -decide_eq_true_eq, -decide_eq_false_iff_not, -List.any_eq_true, -List.any_eq_false, -bne_iff_ne, -beq_iff_eq, -beq_eq_false_iff_ne, -bne_eq_false_iff_eq]
theorem outq_c (n a b : Int) (h : Heap) (c : Nat) : callA mZ (run Tryz.prog mZ) 30 [I n, I a, I b] h c = some (B (outB n a b), h, c) := by
  obtain ⟨h', c', e⟩ := outq_ev n a b
  exact call_of rfl rfl e rfl rfl
theorem outB_f {n a b : Int} (h1 : a ≤ n) (h2 : n ≤ b) : outB n a b = false := by
  unfold outB
  simp
  omega
theorem fits_ev (F : FrzC code) (V : ValidP names code) (R : RunOk names code r) : EOut (run Tryz.prog mZ 33 [progV nb cb names code, r.av] Heap.none 0) := by
  rw [run_eq (show mZ 33 = some .pure from rfl) rfl, Tryz.func33]
  have hc2 := V.c200
  have hn16 := V.n16
  have e9 := fun h c => validate_c (nb := nb) (cb := cb) F V h c
  have e68 := fun h c => behind_c (nb := nb) (cb := cb) (names := names) (r := r) F R.a hc2 h c
  have e38 := fun n h c => skept_c n h c
  have ha := R.a
  have hvl := R.vl
  have hvo := R.vo
  have hmd := R.md
  obtain ⟨n, vs, x, y, z⟩ := r
  simp only [Rn.av] at e68 ha hvl hvo hmd ⊢
  have q1 : decide ((n : Int) < 0) = false := by simp
  have q2 : decide ((code.length : Int) < (n : Int)) = false := by simp; omega
  have q2' : decide (code.length < n) = false := by simp; omega
  have q3 : ((vs.length : Int) != (names.length : Int)) = false := by simp; omega
  generalize hbe : behP code n = beh at *
  rcases hmd with ⟨rfl, rfl, rfl⟩ | ⟨rfl, rfl, rfl, hz⟩ | ⟨rfl, hx1, hx2, rfl, rfl⟩ | ⟨rfl, rfl, rfl, rfl⟩ | ⟨rfl, rfl, rfl, rfl⟩
  · have q0 := q2
    simp -implicitDefEqProofs [Tryz.f33, e9, q1, q2, q2', q3, q2, Option.bind_assoc, -decide_eq_true_eq, -decide_eq_false_iff_not, -List.any_eq_true, -List.any_eq_false, -bne_iff_ne, -beq_iff_eq, -beq_eq_false_iff_ne, -bne_eq_false_iff_eq]
    refine loop_to (R := EOut) (fun kk st => ∃ i : Nat, kk = vs.length - i ∧ i ≤ vs.length ∧ st.t 2 = .ptr 0 0 0 ∧ st.t 3 = .ptr 1 0 0 ∧ st.t 65 = .ro false (nums vs) ∧ st.t 66 = I vs.length ∧ st.t 67 = I i ∧ st.h 0 = some ⟨2, [[.ro nb (strs names), .ro cb (code.map Ln.row)]], some 26⟩ ∧ st.h 1 = some ⟨5, [[I n, .ro false (nums vs), I 0, I 0, B false]], some 32⟩)
      (fun e st => e = .exit 0 ∧ st.t 2 = .ptr 0 0 0 ∧ st.t 3 = .ptr 1 0 0 ∧ st.h 0 = some ⟨2, [[.ro nb (strs names), .ro cb (code.map Ln.row)]], some 26⟩ ∧ st.h 1 = some ⟨5, [[I n, .ro false (nums vs), I 0, I 0, B false]], some 32⟩) ?_ ?_ vs.length _ ?_
    · rintro kk ⟨t, h, c⟩ ⟨i, rfl, hi, a2, a3, a65, a66, a67, b0, b1⟩
      simp only at a2 a3 a65 a66 a67 b0 b1
      by_cases g : i < vs.length
      · have g1 : decide (i < vs.length) = true := by simp [g]
        have w2 : IntKind.i64.wrap ((i : Int) + 1) = ((i + 1 : Nat) : Int) := wrap_succ (by omega)
        obtain ⟨q, hq⟩ : ∃ q, vs[i]? = some q := ⟨vs[i], by simp [g]⟩
        have e1 := fun h c => e38 q h c
        rw [hvo q (List.mem_of_getElem? hq)] at e1
        simp -implicitDefEqProofs [a2, a3, a65, a66, a67, b0, b1, g1, hq, e1, w2, to_normal, to_exit, to_ret, -decide_eq_true_eq, -decide_eq_false_iff_not, -List.any_eq_true, -List.any_eq_false, -bne_iff_ne, -beq_iff_eq, -beq_eq_false_iff_ne, -bne_eq_false_iff_eq]
        exact ⟨vs.length - (i + 1), by omega, i + 1, rfl, by omega, by omega⟩
      · have g1 : decide (i < vs.length) = false := by simp; omega
        simp -implicitDefEqProofs [a2, a3, a65, a66, a67, b0, b1, g1, to_normal, to_exit, to_ret, -decide_eq_true_eq, -decide_eq_false_iff_not, -List.any_eq_true, -List.any_eq_false, -bne_iff_ne, -beq_iff_eq, -beq_eq_false_iff_ne, -bne_eq_false_iff_eq]
    · rintro e ⟨t, h, c⟩ ⟨rfl, a2, a3, b0, b1⟩
      simp only at a2 a3 b0 b1
      simp -implicitDefEqProofs [a2, a3, b0, b1, e68, q2, -decide_eq_true_eq, -decide_eq_false_iff_not, -List.any_eq_true, -List.any_eq_false, -bne_iff_ne, -beq_iff_eq, -beq_eq_false_iff_ne, -bne_eq_false_iff_eq]
      exact ⟨_, _, rfl⟩
    · exact ⟨0, by simp, by simp, by simp, by simp, by simp, by simp, by simp, by simp, by simp⟩
  · by_cases hz2 : n = code.length
    · have k1 : decide ((n : Int) < (code.length : Int)) = false := by simp; omega
      have k2 : decide (n < code.length) = false := by simp; omega
      simp -implicitDefEqProofs [Tryz.f33, e9, q1, q2, q2', q3, k1, k2, Option.bind_assoc, -decide_eq_true_eq, -decide_eq_false_iff_not, -List.any_eq_true, -List.any_eq_false, -bne_iff_ne, -beq_iff_eq, -beq_eq_false_iff_ne, -bne_eq_false_iff_eq]
      refine loop_to (R := EOut) (fun kk st => ∃ i : Nat, kk = vs.length - i ∧ i ≤ vs.length ∧ st.t 2 = .ptr 0 0 0 ∧ st.t 3 = .ptr 1 0 0 ∧ st.t 65 = .ro false (nums vs) ∧ st.t 66 = I vs.length ∧ st.t 67 = I i ∧ st.h 0 = some ⟨2, [[.ro nb (strs names), .ro cb (code.map Ln.row)]], some 26⟩ ∧ st.h 1 = some ⟨5, [[I n, .ro false (nums vs), I 0, I 0, B true]], some 32⟩)
        (fun e st => e = .exit 0 ∧ st.t 2 = .ptr 0 0 0 ∧ st.t 3 = .ptr 1 0 0 ∧ st.h 0 = some ⟨2, [[.ro nb (strs names), .ro cb (code.map Ln.row)]], some 26⟩ ∧ st.h 1 = some ⟨5, [[I n, .ro false (nums vs), I 0, I 0, B true]], some 32⟩) ?_ ?_ vs.length _ ?_
      · rintro kk ⟨t, h, c⟩ ⟨i, rfl, hi, a2, a3, a65, a66, a67, b0, b1⟩
        simp only at a2 a3 a65 a66 a67 b0 b1
        by_cases g : i < vs.length
        · have g1 : decide (i < vs.length) = true := by simp [g]
          have w2 : IntKind.i64.wrap ((i : Int) + 1) = ((i + 1 : Nat) : Int) := wrap_succ (by omega)
          obtain ⟨q, hq⟩ : ∃ q, vs[i]? = some q := ⟨vs[i], by simp [g]⟩
          have e1 := fun h c => e38 q h c
          rw [hvo q (List.mem_of_getElem? hq)] at e1
          simp -implicitDefEqProofs [a2, a3, a65, a66, a67, b0, b1, g1, hq, e1, w2, to_normal, to_exit, to_ret, -decide_eq_true_eq, -decide_eq_false_iff_not, -List.any_eq_true, -List.any_eq_false, -bne_iff_ne, -beq_iff_eq, -beq_eq_false_iff_ne, -bne_eq_false_iff_eq]
          exact ⟨vs.length - (i + 1), by omega, i + 1, rfl, by omega, by omega⟩
        · have g1 : decide (i < vs.length) = false := by simp; omega
          simp -implicitDefEqProofs [a2, a3, a65, a66, a67, b0, b1, g1, to_normal, to_exit, to_ret, -decide_eq_true_eq, -decide_eq_false_iff_not, -List.any_eq_true, -List.any_eq_false, -bne_iff_ne, -beq_iff_eq, -beq_eq_false_iff_ne, -bne_eq_false_iff_eq]
      · rintro e ⟨t, h, c⟩ ⟨rfl, a2, a3, b0, b1⟩
        simp only at a2 a3 b0 b1
        simp -implicitDefEqProofs [a2, a3, b0, b1, e68, k1, k2, -decide_eq_true_eq, -decide_eq_false_iff_not, -List.any_eq_true, -List.any_eq_false, -bne_iff_ne, -beq_iff_eq, -beq_eq_false_iff_ne, -bne_eq_false_iff_eq]
        exact ⟨_, _, rfl⟩
      · exact ⟨0, by simp, by simp, by simp, by simp, by simp, by simp, by simp, by simp, by simp⟩
    · have k1 : decide ((n : Int) < (code.length : Int)) = true := by simp; omega
      have k2 : decide (n < code.length) = true := by simp; omega
      obtain rfl : beh = 6 := by rcases hz with h | h; exact absurd h hz2; exact h
      simp -implicitDefEqProofs [Tryz.f33, e9, q1, q2, q2', q3, k1, k2, Option.bind_assoc, -decide_eq_true_eq, -decide_eq_false_iff_not, -List.any_eq_true, -List.any_eq_false, -bne_iff_ne, -beq_iff_eq, -beq_eq_false_iff_ne, -bne_eq_false_iff_eq]
      refine loop_to (R := EOut) (fun kk st => ∃ i : Nat, kk = vs.length - i ∧ i ≤ vs.length ∧ st.t 2 = .ptr 0 0 0 ∧ st.t 3 = .ptr 1 0 0 ∧ st.t 65 = .ro false (nums vs) ∧ st.t 66 = I vs.length ∧ st.t 67 = I i ∧ st.h 0 = some ⟨2, [[.ro nb (strs names), .ro cb (code.map Ln.row)]], some 26⟩ ∧ st.h 1 = some ⟨5, [[I n, .ro false (nums vs), I 0, I 0, B true]], some 32⟩)
        (fun e st => e = .exit 0 ∧ st.t 2 = .ptr 0 0 0 ∧ st.t 3 = .ptr 1 0 0 ∧ st.h 0 = some ⟨2, [[.ro nb (strs names), .ro cb (code.map Ln.row)]], some 26⟩ ∧ st.h 1 = some ⟨5, [[I n, .ro false (nums vs), I 0, I 0, B true]], some 32⟩) ?_ ?_ vs.length _ ?_
      · rintro kk ⟨t, h, c⟩ ⟨i, rfl, hi, a2, a3, a65, a66, a67, b0, b1⟩
        simp only at a2 a3 a65 a66 a67 b0 b1
        by_cases g : i < vs.length
        · have g1 : decide (i < vs.length) = true := by simp [g]
          have w2 : IntKind.i64.wrap ((i : Int) + 1) = ((i + 1 : Nat) : Int) := wrap_succ (by omega)
          obtain ⟨q, hq⟩ : ∃ q, vs[i]? = some q := ⟨vs[i], by simp [g]⟩
          have e1 := fun h c => e38 q h c
          rw [hvo q (List.mem_of_getElem? hq)] at e1
          simp -implicitDefEqProofs [a2, a3, a65, a66, a67, b0, b1, g1, hq, e1, w2, to_normal, to_exit, to_ret, -decide_eq_true_eq, -decide_eq_false_iff_not, -List.any_eq_true, -List.any_eq_false, -bne_iff_ne, -beq_iff_eq, -beq_eq_false_iff_ne, -bne_eq_false_iff_eq]
          exact ⟨vs.length - (i + 1), by omega, i + 1, rfl, by omega, by omega⟩
        · have g1 : decide (i < vs.length) = false := by simp; omega
          simp -implicitDefEqProofs [a2, a3, a65, a66, a67, b0, b1, g1, to_normal, to_exit, to_ret, -decide_eq_true_eq, -decide_eq_false_iff_not, -List.any_eq_true, -List.any_eq_false, -bne_iff_ne, -beq_iff_eq, -beq_eq_false_iff_ne, -bne_eq_false_iff_eq]
      · rintro e ⟨t, h, c⟩ ⟨rfl, a2, a3, b0, b1⟩
        simp only at a2 a3 b0 b1
        simp -implicitDefEqProofs [a2, a3, b0, b1, e68, k1, k2, -decide_eq_true_eq, -decide_eq_false_iff_not, -List.any_eq_true, -List.any_eq_false, -bne_iff_ne, -beq_iff_eq, -beq_eq_false_iff_ne, -bne_eq_false_iff_eq]
        exact ⟨_, _, rfl⟩
      · exact ⟨0, by simp, by simp, by simp, by simp, by simp, by simp, by simp, by simp, by simp⟩
  · have k1 : decide (x < 0) = false := by simp; omega
    have k2 : decide (1000000 < x) = false := by simp; omega
    have k3 : decide (0 < x) = true := by simp; omega
    simp -implicitDefEqProofs [Tryz.f33, e9, q1, q2, q2', q3, k1, k2, k3, Option.bind_assoc, -decide_eq_true_eq, -decide_eq_false_iff_not, -List.any_eq_true, -List.any_eq_false, -bne_iff_ne, -beq_iff_eq, -beq_eq_false_iff_ne, -bne_eq_false_iff_eq]
    refine loop_to (R := EOut) (fun kk st => ∃ i : Nat, kk = vs.length - i ∧ i ≤ vs.length ∧ st.t 2 = .ptr 0 0 0 ∧ st.t 3 = .ptr 1 0 0 ∧ st.t 65 = .ro false (nums vs) ∧ st.t 66 = I vs.length ∧ st.t 67 = I i ∧ st.h 0 = some ⟨2, [[.ro nb (strs names), .ro cb (code.map Ln.row)]], some 26⟩ ∧ st.h 1 = some ⟨5, [[I n, .ro false (nums vs), I x, I 0, B false]], some 32⟩)
      (fun e st => e = .exit 0 ∧ st.t 2 = .ptr 0 0 0 ∧ st.t 3 = .ptr 1 0 0 ∧ st.h 0 = some ⟨2, [[.ro nb (strs names), .ro cb (code.map Ln.row)]], some 26⟩ ∧ st.h 1 = some ⟨5, [[I n, .ro false (nums vs), I x, I 0, B false]], some 32⟩) ?_ ?_ vs.length _ ?_
    · rintro kk ⟨t, h, c⟩ ⟨i, rfl, hi, a2, a3, a65, a66, a67, b0, b1⟩
      simp only at a2 a3 a65 a66 a67 b0 b1
      by_cases g : i < vs.length
      · have g1 : decide (i < vs.length) = true := by simp [g]
        have w2 : IntKind.i64.wrap ((i : Int) + 1) = ((i + 1 : Nat) : Int) := wrap_succ (by omega)
        obtain ⟨q, hq⟩ : ∃ q, vs[i]? = some q := ⟨vs[i], by simp [g]⟩
        have e1 := fun h c => e38 q h c
        rw [hvo q (List.mem_of_getElem? hq)] at e1
        simp -implicitDefEqProofs [a2, a3, a65, a66, a67, b0, b1, g1, hq, e1, w2, to_normal, to_exit, to_ret, -decide_eq_true_eq, -decide_eq_false_iff_not, -List.any_eq_true, -List.any_eq_false, -bne_iff_ne, -beq_iff_eq, -beq_eq_false_iff_ne, -bne_eq_false_iff_eq]
        exact ⟨vs.length - (i + 1), by omega, i + 1, rfl, by omega, by omega⟩
      · have g1 : decide (i < vs.length) = false := by simp; omega
        simp -implicitDefEqProofs [a2, a3, a65, a66, a67, b0, b1, g1, to_normal, to_exit, to_ret, -decide_eq_true_eq, -decide_eq_false_iff_not, -List.any_eq_true, -List.any_eq_false, -bne_iff_ne, -beq_iff_eq, -beq_eq_false_iff_ne, -bne_eq_false_iff_eq]
    · rintro e ⟨t, h, c⟩ ⟨rfl, a2, a3, b0, b1⟩
      simp only at a2 a3 b0 b1
      simp -implicitDefEqProofs [a2, a3, b0, b1, e68, k1, k2, k3, -decide_eq_true_eq, -decide_eq_false_iff_not, -List.any_eq_true, -List.any_eq_false, -bne_iff_ne, -beq_iff_eq, -beq_eq_false_iff_ne, -bne_eq_false_iff_eq]
      exact ⟨_, _, rfl⟩
    · exact ⟨0, by simp, by simp, by simp, by simp, by simp, by simp, by simp, by simp, by simp⟩
  · have q0 := q2
    simp -implicitDefEqProofs [Tryz.f33, e9, q1, q2, q2', q3, q2, Option.bind_assoc, -decide_eq_true_eq, -decide_eq_false_iff_not, -List.any_eq_true, -List.any_eq_false, -bne_iff_ne, -beq_iff_eq, -beq_eq_false_iff_ne, -bne_eq_false_iff_eq]
    refine loop_to (R := EOut) (fun kk st => ∃ i : Nat, kk = vs.length - i ∧ i ≤ vs.length ∧ st.t 2 = .ptr 0 0 0 ∧ st.t 3 = .ptr 1 0 0 ∧ st.t 65 = .ro false (nums vs) ∧ st.t 66 = I vs.length ∧ st.t 67 = I i ∧ st.h 0 = some ⟨2, [[.ro nb (strs names), .ro cb (code.map Ln.row)]], some 26⟩ ∧ st.h 1 = some ⟨5, [[I n, .ro false (nums vs), I 0, I 1, B false]], some 32⟩)
      (fun e st => e = .exit 0 ∧ st.t 2 = .ptr 0 0 0 ∧ st.t 3 = .ptr 1 0 0 ∧ st.h 0 = some ⟨2, [[.ro nb (strs names), .ro cb (code.map Ln.row)]], some 26⟩ ∧ st.h 1 = some ⟨5, [[I n, .ro false (nums vs), I 0, I 1, B false]], some 32⟩) ?_ ?_ vs.length _ ?_
    · rintro kk ⟨t, h, c⟩ ⟨i, rfl, hi, a2, a3, a65, a66, a67, b0, b1⟩
      simp only at a2 a3 a65 a66 a67 b0 b1
      by_cases g : i < vs.length
      · have g1 : decide (i < vs.length) = true := by simp [g]
        have w2 : IntKind.i64.wrap ((i : Int) + 1) = ((i + 1 : Nat) : Int) := wrap_succ (by omega)
        obtain ⟨q, hq⟩ : ∃ q, vs[i]? = some q := ⟨vs[i], by simp [g]⟩
        have e1 := fun h c => e38 q h c
        rw [hvo q (List.mem_of_getElem? hq)] at e1
        simp -implicitDefEqProofs [a2, a3, a65, a66, a67, b0, b1, g1, hq, e1, w2, to_normal, to_exit, to_ret, -decide_eq_true_eq, -decide_eq_false_iff_not, -List.any_eq_true, -List.any_eq_false, -bne_iff_ne, -beq_iff_eq, -beq_eq_false_iff_ne, -bne_eq_false_iff_eq]
        exact ⟨vs.length - (i + 1), by omega, i + 1, rfl, by omega, by omega⟩
      · have g1 : decide (i < vs.length) = false := by simp; omega
        simp -implicitDefEqProofs [a2, a3, a65, a66, a67, b0, b1, g1, to_normal, to_exit, to_ret, -decide_eq_true_eq, -decide_eq_false_iff_not, -List.any_eq_true, -List.any_eq_false, -bne_iff_ne, -beq_iff_eq, -beq_eq_false_iff_ne, -bne_eq_false_iff_eq]
    · rintro e ⟨t, h, c⟩ ⟨rfl, a2, a3, b0, b1⟩
      simp only at a2 a3 b0 b1
      simp -implicitDefEqProofs [a2, a3, b0, b1, e68, q2, -decide_eq_true_eq, -decide_eq_false_iff_not, -List.any_eq_true, -List.any_eq_false, -bne_iff_ne, -beq_iff_eq, -beq_eq_false_iff_ne, -bne_eq_false_iff_eq]
      exact ⟨_, _, rfl⟩
    · exact ⟨0, by simp, by simp, by simp, by simp, by simp, by simp, by simp, by simp, by simp⟩
  · have q0 := q2
    simp -implicitDefEqProofs [Tryz.f33, e9, q1, q2, q2', q3, q2, Option.bind_assoc, -decide_eq_true_eq, -decide_eq_false_iff_not, -List.any_eq_true, -List.any_eq_false, -bne_iff_ne, -beq_iff_eq, -beq_eq_false_iff_ne, -bne_eq_false_iff_eq]
    refine loop_to (R := EOut) (fun kk st => ∃ i : Nat, kk = vs.length - i ∧ i ≤ vs.length ∧ st.t 2 = .ptr 0 0 0 ∧ st.t 3 = .ptr 1 0 0 ∧ st.t 65 = .ro false (nums vs) ∧ st.t 66 = I vs.length ∧ st.t 67 = I i ∧ st.h 0 = some ⟨2, [[.ro nb (strs names), .ro cb (code.map Ln.row)]], some 26⟩ ∧ st.h 1 = some ⟨5, [[I n, .ro false (nums vs), I 0, I 2, B false]], some 32⟩)
      (fun e st => e = .exit 0 ∧ st.t 2 = .ptr 0 0 0 ∧ st.t 3 = .ptr 1 0 0 ∧ st.h 0 = some ⟨2, [[.ro nb (strs names), .ro cb (code.map Ln.row)]], some 26⟩ ∧ st.h 1 = some ⟨5, [[I n, .ro false (nums vs), I 0, I 2, B false]], some 32⟩) ?_ ?_ vs.length _ ?_
    · rintro kk ⟨t, h, c⟩ ⟨i, rfl, hi, a2, a3, a65, a66, a67, b0, b1⟩
      simp only at a2 a3 a65 a66 a67 b0 b1
      by_cases g : i < vs.length
      · have g1 : decide (i < vs.length) = true := by simp [g]
        have w2 : IntKind.i64.wrap ((i : Int) + 1) = ((i + 1 : Nat) : Int) := wrap_succ (by omega)
        obtain ⟨q, hq⟩ : ∃ q, vs[i]? = some q := ⟨vs[i], by simp [g]⟩
        have e1 := fun h c => e38 q h c
        rw [hvo q (List.mem_of_getElem? hq)] at e1
        simp -implicitDefEqProofs [a2, a3, a65, a66, a67, b0, b1, g1, hq, e1, w2, to_normal, to_exit, to_ret, -decide_eq_true_eq, -decide_eq_false_iff_not, -List.any_eq_true, -List.any_eq_false, -bne_iff_ne, -beq_iff_eq, -beq_eq_false_iff_ne, -bne_eq_false_iff_eq]
        exact ⟨vs.length - (i + 1), by omega, i + 1, rfl, by omega, by omega⟩
      · have g1 : decide (i < vs.length) = false := by simp; omega
        simp -implicitDefEqProofs [a2, a3, a65, a66, a67, b0, b1, g1, to_normal, to_exit, to_ret, -decide_eq_true_eq, -decide_eq_false_iff_not, -List.any_eq_true, -List.any_eq_false, -bne_iff_ne, -beq_iff_eq, -beq_eq_false_iff_ne, -bne_eq_false_iff_eq]
    · rintro e ⟨t, h, c⟩ ⟨rfl, a2, a3, b0, b1⟩
      simp only at a2 a3 b0 b1
      simp -implicitDefEqProofs [a2, a3, b0, b1, e68, q2, -decide_eq_true_eq, -decide_eq_false_iff_not, -List.any_eq_true, -List.any_eq_false, -bne_iff_ne, -beq_iff_eq, -beq_eq_false_iff_ne, -bne_eq_false_iff_eq]
      exact ⟨_, _, rfl⟩
    · exact ⟨0, by simp, by simp, by simp, by simp, by simp, by simp, by simp, by simp, by simp⟩
theorem fits_c (F : FrzC code) (V : ValidP names code) (R : RunOk names code r) (h : Heap) (c : Nat) : callA mZ (run Tryz.prog mZ) 33 [progV nb cb names code, r.av] h c = some (E 0, h, c) := by
  obtain ⟨h', c', e⟩ := fits_ev (nb := nb) (cb := cb) F V R
  exact call_of rfl rfl e rfl rfl
end
end Go.Proofs.YtmpcjfkfgjpebaaGreatDoor.AM
namespace Go.Proofs.YtmpcjfkfgjpebaaGreatDoor.AM
open Go Go.Proofs
attribute [local simp] fieldAddrA ld setCells stA skipV appendA hd makeA bnd kindA freshA killOk loadsAt edgesOn Region.binds newT empT lay_get allocA buildA buildRow lenA els indexAddrA isNil opA evA lit_int lit_bool lit_nil lit_nilf yldA binI unA pickA boolV intV fieldA mk eqs nilC mayP
section
variable {nb cb : Bool} {names : List Str} {code : List Ln} {r : Rn}
theorem rfits_ev (F : FrzC code) (V : ValidP names code) (R : RunOk names code r) : TOut (run Tryz.prog mZ 29 [progV nb cb names code, r.av] Heap.none 0) := by
  rw [run_eq (show mZ 29 = some .pure from rfl) rfl, Tryz.func29]
  have hc2 := V.c200
  have hn16 := V.n16
  have e30 := fun n a b h c => outq_c n a b h c
  have ha := R.a
  have hvl := R.vl
  have hvo := R.vo
  have hmd := R.md
  obtain ⟨n, vs, x, y, z⟩ := r
  simp only [Rn.av] at ha hvl hvo hmd ⊢
  have q1 : outB (n : Int) 0 (code.length : Int) = false := outB_f (by omega) (by omega)
  have q3 : ((vs.length : Int) != (names.length : Int)) = false := by simp; omega
  have o1 : outB 0 0 2 = false := rfl
  have o2 : outB 1 0 2 = false := rfl
  have o3 : outB 2 0 2 = false := rfl
  have o4 : outB 0 0 1000000 = false := rfl
  generalize hbe : behP code n = beh at *
  rcases hmd with ⟨rfl, rfl, rfl⟩ | ⟨rfl, rfl, rfl, hz⟩ | ⟨rfl, hx1, hx2, rfl, rfl⟩ | ⟨rfl, rfl, rfl, rfl⟩ | ⟨rfl, rfl, rfl, rfl⟩
  · have q0 := q1
    simp -implicitDefEqProofs [Tryz.f29, e30, q1, q3, o1, o2, o3, o4, q1, Option.bind_assoc, -decide_eq_true_eq, -decide_eq_false_iff_not, -List.any_eq_true, -List.any_eq_false, -bne_iff_ne, -beq_iff_eq, -beq_eq_false_iff_ne, -bne_eq_false_iff_eq]
    refine loop_to (R := TOut) (fun kk st => ∃ i : Nat, kk = vs.length - i ∧ i ≤ vs.length ∧ st.t 2 = .ptr 0 0 0 ∧ st.t 3 = .ptr 1 0 0 ∧ st.t 5 = I i ∧ st.h 0 = some ⟨2, [[.ro nb (strs names), .ro cb (code.map Ln.row)]], some 26⟩ ∧ st.h 1 = some ⟨5, [[I n, .ro false (nums vs), I 0, I 0, B false]], some 32⟩)
      (fun e st => e = .exit 0 ∧ st.t 2 = .ptr 0 0 0 ∧ st.t 3 = .ptr 1 0 0 ∧ st.h 0 = some ⟨2, [[.ro nb (strs names), .ro cb (code.map Ln.row)]], some 26⟩ ∧ st.h 1 = some ⟨5, [[I n, .ro false (nums vs), I 0, I 0, B false]], some 32⟩) ?_ ?_ vs.length _ ?_
    · rintro kk ⟨t, h, c⟩ ⟨i, rfl, hi, a2, a3, a5, b0, b1⟩
      simp only at a2 a3 a5 b0 b1
      by_cases g : i < vs.length
      · have g1 : decide (i < vs.length) = true := by simp [g]
        have g1' : decide ((i : Int) < (vs.length : Int)) = true := by simp; omega
        have w2 : IntKind.i64.wrap ((i : Int) + 1) = ((i + 1 : Nat) : Int) := wrap_succ (by omega)
        obtain ⟨q, hq⟩ : ∃ q, vs[i]? = some q := ⟨vs[i], by simp [g]⟩
        have hin := okV_in hvo (List.mem_of_getElem? hq)
        have hout : outB q (-2147483647) 2147483647 = false := outB_f hin.1 hin.2
        simp -implicitDefEqProofs [a2, a3, a5, b0, b1, g1, g1', hq, e30, hout, w2, to_normal, to_exit, to_ret, -decide_eq_true_eq, -decide_eq_false_iff_not, -List.any_eq_true, -List.any_eq_false, -bne_iff_ne, -beq_iff_eq, -beq_eq_false_iff_ne, -bne_eq_false_iff_eq]
        exact ⟨vs.length - (i + 1), by omega, i + 1, rfl, by omega, by omega⟩
      · have g1 : decide (i < vs.length) = false := by simp; omega
        have g1' : decide ((i : Int) < (vs.length : Int)) = false := by simp; omega
        simp -implicitDefEqProofs [a2, a3, a5, b0, b1, g1, g1', to_normal, to_exit, to_ret, -decide_eq_true_eq, -decide_eq_false_iff_not, -List.any_eq_true, -List.any_eq_false, -bne_iff_ne, -beq_iff_eq, -beq_eq_false_iff_ne, -bne_eq_false_iff_eq]
    · rintro e ⟨t, h, c⟩ ⟨rfl, a2, a3, b0, b1⟩
      simp only at a2 a3 b0 b1
      rcases Nat.eq_zero_or_pos n with hn0 | hn0
      · have hb1 : behP code n = -1 := by rw [hn0]; rfl
        rw [hb1] at hbe
        subst hbe
        have g0 : decide ((0 : Int) < (n : Int)) = false := by simp; omega
        have g0' : decide (0 < n) = false := by simp; omega
        simp -implicitDefEqProofs [a2, a3, b0, b1, g0, g0', q1, -decide_eq_true_eq, -decide_eq_false_iff_not, -List.any_eq_true, -List.any_eq_false, -bne_iff_ne, -beq_iff_eq, -beq_eq_false_iff_ne, -bne_eq_false_iff_eq]
        exact ⟨_, _, rfl⟩
      · have g0 : decide ((0 : Int) < (n : Int)) = true := by simp; omega
        have g0' : decide (0 < n) = true := by simp; omega
        have w1 : IntKind.i64.wrap ((n : Int) - 1) = ((n - 1 : Nat) : Int) := by rw [wrap_id (by omega) (by omega)]; omega
        obtain ⟨l, hl⟩ : ∃ l, code[n - 1]? = some l := ⟨code[n - 1], by simp⟩
        obtain ⟨bb, hb⟩ := F l (List.mem_of_getElem? hl)
        have hr := row_ro hb
        have hk : l.kind = beh := by
          rw [← hbe]
          unfold behP
          rw [if_neg (by omega), hl]
          rfl
        rw [hk] at hr
        simp -implicitDefEqProofs [a2, a3, b0, b1, g0, g0', w1, hl, hr, q1, -decide_eq_true_eq, -decide_eq_false_iff_not, -List.any_eq_true, -List.any_eq_false, -bne_iff_ne, -beq_iff_eq, -beq_eq_false_iff_ne, -bne_eq_false_iff_eq]
        exact ⟨_, _, rfl⟩
    · exact ⟨0, by simp, by simp, by simp, by simp, by simp, by simp, by simp⟩
  · by_cases hz2 : n = code.length
    · have k1 : ((n : Int) == (code.length : Int)) = true := by simp; omega
      simp -implicitDefEqProofs [Tryz.f29, e30, q1, q3, o1, o2, o3, o4, k1, Option.bind_assoc, -decide_eq_true_eq, -decide_eq_false_iff_not, -List.any_eq_true, -List.any_eq_false, -bne_iff_ne, -beq_iff_eq, -beq_eq_false_iff_ne, -bne_eq_false_iff_eq]
      refine loop_to (R := TOut) (fun kk st => ∃ i : Nat, kk = vs.length - i ∧ i ≤ vs.length ∧ st.t 2 = .ptr 0 0 0 ∧ st.t 3 = .ptr 1 0 0 ∧ st.t 5 = I i ∧ st.h 0 = some ⟨2, [[.ro nb (strs names), .ro cb (code.map Ln.row)]], some 26⟩ ∧ st.h 1 = some ⟨5, [[I n, .ro false (nums vs), I 0, I 0, B true]], some 32⟩)
        (fun e st => e = .exit 0 ∧ st.t 2 = .ptr 0 0 0 ∧ st.t 3 = .ptr 1 0 0 ∧ st.h 0 = some ⟨2, [[.ro nb (strs names), .ro cb (code.map Ln.row)]], some 26⟩ ∧ st.h 1 = some ⟨5, [[I n, .ro false (nums vs), I 0, I 0, B true]], some 32⟩) ?_ ?_ vs.length _ ?_
      · rintro kk ⟨t, h, c⟩ ⟨i, rfl, hi, a2, a3, a5, b0, b1⟩
        simp only at a2 a3 a5 b0 b1
        by_cases g : i < vs.length
        · have g1 : decide (i < vs.length) = true := by simp [g]
          have g1' : decide ((i : Int) < (vs.length : Int)) = true := by simp; omega
          have w2 : IntKind.i64.wrap ((i : Int) + 1) = ((i + 1 : Nat) : Int) := wrap_succ (by omega)
          obtain ⟨q, hq⟩ : ∃ q, vs[i]? = some q := ⟨vs[i], by simp [g]⟩
          have hin := okV_in hvo (List.mem_of_getElem? hq)
          have hout : outB q (-2147483647) 2147483647 = false := outB_f hin.1 hin.2
          simp -implicitDefEqProofs [a2, a3, a5, b0, b1, g1, g1', hq, e30, hout, w2, to_normal, to_exit, to_ret, -decide_eq_true_eq, -decide_eq_false_iff_not, -List.any_eq_true, -List.any_eq_false, -bne_iff_ne, -beq_iff_eq, -beq_eq_false_iff_ne, -bne_eq_false_iff_eq]
          exact ⟨vs.length - (i + 1), by omega, i + 1, rfl, by omega, by omega⟩
        · have g1 : decide (i < vs.length) = false := by simp; omega
          have g1' : decide ((i : Int) < (vs.length : Int)) = false := by simp; omega
          simp -implicitDefEqProofs [a2, a3, a5, b0, b1, g1, g1', to_normal, to_exit, to_ret, -decide_eq_true_eq, -decide_eq_false_iff_not, -List.any_eq_true, -List.any_eq_false, -bne_iff_ne, -beq_iff_eq, -beq_eq_false_iff_ne, -bne_eq_false_iff_eq]
      · rintro e ⟨t, h, c⟩ ⟨rfl, a2, a3, b0, b1⟩
        simp only at a2 a3 b0 b1
        rcases Nat.eq_zero_or_pos n with hn0 | hn0
        · have hb1 : behP code n = -1 := by rw [hn0]; rfl
          rw [hb1] at hbe
          subst hbe
          have g0 : decide ((0 : Int) < (n : Int)) = false := by simp; omega
          have g0' : decide (0 < n) = false := by simp; omega
          simp -implicitDefEqProofs [a2, a3, b0, b1, g0, g0', k1, -decide_eq_true_eq, -decide_eq_false_iff_not, -List.any_eq_true, -List.any_eq_false, -bne_iff_ne, -beq_iff_eq, -beq_eq_false_iff_ne, -bne_eq_false_iff_eq]
          exact ⟨_, _, rfl⟩
        · have g0 : decide ((0 : Int) < (n : Int)) = true := by simp; omega
          have g0' : decide (0 < n) = true := by simp; omega
          have w1 : IntKind.i64.wrap ((n : Int) - 1) = ((n - 1 : Nat) : Int) := by rw [wrap_id (by omega) (by omega)]; omega
          obtain ⟨l, hl⟩ : ∃ l, code[n - 1]? = some l := ⟨code[n - 1], by simp⟩
          obtain ⟨bb, hb⟩ := F l (List.mem_of_getElem? hl)
          have hr := row_ro hb
          have hk : l.kind = beh := by
            rw [← hbe]
            unfold behP
            rw [if_neg (by omega), hl]
            rfl
          rw [hk] at hr
          simp -implicitDefEqProofs [a2, a3, b0, b1, g0, g0', w1, hl, hr, k1, -decide_eq_true_eq, -decide_eq_false_iff_not, -List.any_eq_true, -List.any_eq_false, -bne_iff_ne, -beq_iff_eq, -beq_eq_false_iff_ne, -bne_eq_false_iff_eq]
          exact ⟨_, _, rfl⟩
      · exact ⟨0, by simp, by simp, by simp, by simp, by simp, by simp, by simp⟩
    · have k1 : ((n : Int) == (code.length : Int)) = false := by simp; omega
      obtain rfl : beh = 6 := by rcases hz with h | h; exact absurd h hz2; exact h
      simp -implicitDefEqProofs [Tryz.f29, e30, q1, q3, o1, o2, o3, o4, k1, Option.bind_assoc, -decide_eq_true_eq, -decide_eq_false_iff_not, -List.any_eq_true, -List.any_eq_false, -bne_iff_ne, -beq_iff_eq, -beq_eq_false_iff_ne, -bne_eq_false_iff_eq]
      refine loop_to (R := TOut) (fun kk st => ∃ i : Nat, kk = vs.length - i ∧ i ≤ vs.length ∧ st.t 2 = .ptr 0 0 0 ∧ st.t 3 = .ptr 1 0 0 ∧ st.t 5 = I i ∧ st.h 0 = some ⟨2, [[.ro nb (strs names), .ro cb (code.map Ln.row)]], some 26⟩ ∧ st.h 1 = some ⟨5, [[I n, .ro false (nums vs), I 0, I 0, B true]], some 32⟩)
        (fun e st => e = .exit 0 ∧ st.t 2 = .ptr 0 0 0 ∧ st.t 3 = .ptr 1 0 0 ∧ st.h 0 = some ⟨2, [[.ro nb (strs names), .ro cb (code.map Ln.row)]], some 26⟩ ∧ st.h 1 = some ⟨5, [[I n, .ro false (nums vs), I 0, I 0, B true]], some 32⟩) ?_ ?_ vs.length _ ?_
      · rintro kk ⟨t, h, c⟩ ⟨i, rfl, hi, a2, a3, a5, b0, b1⟩
        simp only at a2 a3 a5 b0 b1
        by_cases g : i < vs.length
        · have g1 : decide (i < vs.length) = true := by simp [g]
          have g1' : decide ((i : Int) < (vs.length : Int)) = true := by simp; omega
          have w2 : IntKind.i64.wrap ((i : Int) + 1) = ((i + 1 : Nat) : Int) := wrap_succ (by omega)
          obtain ⟨q, hq⟩ : ∃ q, vs[i]? = some q := ⟨vs[i], by simp [g]⟩
          have hin := okV_in hvo (List.mem_of_getElem? hq)
          have hout : outB q (-2147483647) 2147483647 = false := outB_f hin.1 hin.2
          simp -implicitDefEqProofs [a2, a3, a5, b0, b1, g1, g1', hq, e30, hout, w2, to_normal, to_exit, to_ret, -decide_eq_true_eq, -decide_eq_false_iff_not, -List.any_eq_true, -List.any_eq_false, -bne_iff_ne, -beq_iff_eq, -beq_eq_false_iff_ne, -bne_eq_false_iff_eq]
          exact ⟨vs.length - (i + 1), by omega, i + 1, rfl, by omega, by omega⟩
        · have g1 : decide (i < vs.length) = false := by simp; omega
          have g1' : decide ((i : Int) < (vs.length : Int)) = false := by simp; omega
          simp -implicitDefEqProofs [a2, a3, a5, b0, b1, g1, g1', to_normal, to_exit, to_ret, -decide_eq_true_eq, -decide_eq_false_iff_not, -List.any_eq_true, -List.any_eq_false, -bne_iff_ne, -beq_iff_eq, -beq_eq_false_iff_ne, -bne_eq_false_iff_eq]
      · rintro e ⟨t, h, c⟩ ⟨rfl, a2, a3, b0, b1⟩
        simp only at a2 a3 b0 b1
        rcases Nat.eq_zero_or_pos n with hn0 | hn0
        · have hb1 : behP code n = -1 := by rw [hn0]; rfl
          rw [hb1] at hbe
          exact absurd hbe (by decide)
        · have g0 : decide ((0 : Int) < (n : Int)) = true := by simp; omega
          have g0' : decide (0 < n) = true := by simp; omega
          have w1 : IntKind.i64.wrap ((n : Int) - 1) = ((n - 1 : Nat) : Int) := by rw [wrap_id (by omega) (by omega)]; omega
          obtain ⟨l, hl⟩ : ∃ l, code[n - 1]? = some l := ⟨code[n - 1], by simp⟩
          obtain ⟨bb, hb⟩ := F l (List.mem_of_getElem? hl)
          have hr := row_ro hb
          have hk : l.kind = 6 := by
            rw [← hbe]
            unfold behP
            rw [if_neg (by omega), hl]
            rfl
          rw [hk] at hr
          simp -implicitDefEqProofs [a2, a3, b0, b1, g0, g0', w1, hl, hr, k1, -decide_eq_true_eq, -decide_eq_false_iff_not, -List.any_eq_true, -List.any_eq_false, -bne_iff_ne, -beq_iff_eq, -beq_eq_false_iff_ne, -bne_eq_false_iff_eq]
          exact ⟨_, _, rfl⟩
      · exact ⟨0, by simp, by simp, by simp, by simp, by simp, by simp, by simp⟩
  · have k1 : outB x 0 1000000 = false := outB_f (by omega) hx2
    have k2 : (x == 0) = false := by simp; omega
    have k4 : (x != 0) = true := by simp; omega
    have k3 : decide (0 < x) = true := by simp; omega
    simp -implicitDefEqProofs [Tryz.f29, e30, q1, q3, o1, o2, o3, o4, k1, k2, k3, k4, Option.bind_assoc, -decide_eq_true_eq, -decide_eq_false_iff_not, -List.any_eq_true, -List.any_eq_false, -bne_iff_ne, -beq_iff_eq, -beq_eq_false_iff_ne, -bne_eq_false_iff_eq]
    refine loop_to (R := TOut) (fun kk st => ∃ i : Nat, kk = vs.length - i ∧ i ≤ vs.length ∧ st.t 2 = .ptr 0 0 0 ∧ st.t 3 = .ptr 1 0 0 ∧ st.t 5 = I i ∧ st.h 0 = some ⟨2, [[.ro nb (strs names), .ro cb (code.map Ln.row)]], some 26⟩ ∧ st.h 1 = some ⟨5, [[I n, .ro false (nums vs), I x, I 0, B false]], some 32⟩)
      (fun e st => e = .exit 0 ∧ st.t 2 = .ptr 0 0 0 ∧ st.t 3 = .ptr 1 0 0 ∧ st.h 0 = some ⟨2, [[.ro nb (strs names), .ro cb (code.map Ln.row)]], some 26⟩ ∧ st.h 1 = some ⟨5, [[I n, .ro false (nums vs), I x, I 0, B false]], some 32⟩) ?_ ?_ vs.length _ ?_
    · rintro kk ⟨t, h, c⟩ ⟨i, rfl, hi, a2, a3, a5, b0, b1⟩
      simp only at a2 a3 a5 b0 b1
      by_cases g : i < vs.length
      · have g1 : decide (i < vs.length) = true := by simp [g]
        have g1' : decide ((i : Int) < (vs.length : Int)) = true := by simp; omega
        have w2 : IntKind.i64.wrap ((i : Int) + 1) = ((i + 1 : Nat) : Int) := wrap_succ (by omega)
        obtain ⟨q, hq⟩ : ∃ q, vs[i]? = some q := ⟨vs[i], by simp [g]⟩
        have hin := okV_in hvo (List.mem_of_getElem? hq)
        have hout : outB q (-2147483647) 2147483647 = false := outB_f hin.1 hin.2
        simp -implicitDefEqProofs [a2, a3, a5, b0, b1, g1, g1', hq, e30, hout, w2, to_normal, to_exit, to_ret, -decide_eq_true_eq, -decide_eq_false_iff_not, -List.any_eq_true, -List.any_eq_false, -bne_iff_ne, -beq_iff_eq, -beq_eq_false_iff_ne, -bne_eq_false_iff_eq]
        exact ⟨vs.length - (i + 1), by omega, i + 1, rfl, by omega, by omega⟩
      · have g1 : decide (i < vs.length) = false := by simp; omega
        have g1' : decide ((i : Int) < (vs.length : Int)) = false := by simp; omega
        simp -implicitDefEqProofs [a2, a3, a5, b0, b1, g1, g1', to_normal, to_exit, to_ret, -decide_eq_true_eq, -decide_eq_false_iff_not, -List.any_eq_true, -List.any_eq_false, -bne_iff_ne, -beq_iff_eq, -beq_eq_false_iff_ne, -bne_eq_false_iff_eq]
    · rintro e ⟨t, h, c⟩ ⟨rfl, a2, a3, b0, b1⟩
      simp only at a2 a3 b0 b1
      rcases Nat.eq_zero_or_pos n with hn0 | hn0
      · have hb1 : behP code n = -1 := by rw [hn0]; rfl
        rw [hb1] at hbe
        exact absurd hbe (by decide)
      · have g0 : decide ((0 : Int) < (n : Int)) = true := by simp; omega
        have g0' : decide (0 < n) = true := by simp; omega
        have w1 : IntKind.i64.wrap ((n : Int) - 1) = ((n - 1 : Nat) : Int) := by rw [wrap_id (by omega) (by omega)]; omega
        obtain ⟨l, hl⟩ : ∃ l, code[n - 1]? = some l := ⟨code[n - 1], by simp⟩
        obtain ⟨bb, hb⟩ := F l (List.mem_of_getElem? hl)
        have hr := row_ro hb
        have hk : l.kind = 5 := by
          rw [← hbe]
          unfold behP
          rw [if_neg (by omega), hl]
          rfl
        rw [hk] at hr
        simp -implicitDefEqProofs [a2, a3, b0, b1, g0, g0', w1, hl, hr, k1, k2, k3, k4, -decide_eq_true_eq, -decide_eq_false_iff_not, -List.any_eq_true, -List.any_eq_false, -bne_iff_ne, -beq_iff_eq, -beq_eq_false_iff_ne, -bne_eq_false_iff_eq]
        exact ⟨_, _, rfl⟩
    · exact ⟨0, by simp, by simp, by simp, by simp, by simp, by simp, by simp⟩
  · have q0 := q1
    simp -implicitDefEqProofs [Tryz.f29, e30, q1, q3, o1, o2, o3, o4, q1, Option.bind_assoc, -decide_eq_true_eq, -decide_eq_false_iff_not, -List.any_eq_true, -List.any_eq_false, -bne_iff_ne, -beq_iff_eq, -beq_eq_false_iff_ne, -bne_eq_false_iff_eq]
    refine loop_to (R := TOut) (fun kk st => ∃ i : Nat, kk = vs.length - i ∧ i ≤ vs.length ∧ st.t 2 = .ptr 0 0 0 ∧ st.t 3 = .ptr 1 0 0 ∧ st.t 5 = I i ∧ st.h 0 = some ⟨2, [[.ro nb (strs names), .ro cb (code.map Ln.row)]], some 26⟩ ∧ st.h 1 = some ⟨5, [[I n, .ro false (nums vs), I 0, I 1, B false]], some 32⟩)
      (fun e st => e = .exit 0 ∧ st.t 2 = .ptr 0 0 0 ∧ st.t 3 = .ptr 1 0 0 ∧ st.h 0 = some ⟨2, [[.ro nb (strs names), .ro cb (code.map Ln.row)]], some 26⟩ ∧ st.h 1 = some ⟨5, [[I n, .ro false (nums vs), I 0, I 1, B false]], some 32⟩) ?_ ?_ vs.length _ ?_
    · rintro kk ⟨t, h, c⟩ ⟨i, rfl, hi, a2, a3, a5, b0, b1⟩
      simp only at a2 a3 a5 b0 b1
      by_cases g : i < vs.length
      · have g1 : decide (i < vs.length) = true := by simp [g]
        have g1' : decide ((i : Int) < (vs.length : Int)) = true := by simp; omega
        have w2 : IntKind.i64.wrap ((i : Int) + 1) = ((i + 1 : Nat) : Int) := wrap_succ (by omega)
        obtain ⟨q, hq⟩ : ∃ q, vs[i]? = some q := ⟨vs[i], by simp [g]⟩
        have hin := okV_in hvo (List.mem_of_getElem? hq)
        have hout : outB q (-2147483647) 2147483647 = false := outB_f hin.1 hin.2
        simp -implicitDefEqProofs [a2, a3, a5, b0, b1, g1, g1', hq, e30, hout, w2, to_normal, to_exit, to_ret, -decide_eq_true_eq, -decide_eq_false_iff_not, -List.any_eq_true, -List.any_eq_false, -bne_iff_ne, -beq_iff_eq, -beq_eq_false_iff_ne, -bne_eq_false_iff_eq]
        exact ⟨vs.length - (i + 1), by omega, i + 1, rfl, by omega, by omega⟩
      · have g1 : decide (i < vs.length) = false := by simp; omega
        have g1' : decide ((i : Int) < (vs.length : Int)) = false := by simp; omega
        simp -implicitDefEqProofs [a2, a3, a5, b0, b1, g1, g1', to_normal, to_exit, to_ret, -decide_eq_true_eq, -decide_eq_false_iff_not, -List.any_eq_true, -List.any_eq_false, -bne_iff_ne, -beq_iff_eq, -beq_eq_false_iff_ne, -bne_eq_false_iff_eq]
    · rintro e ⟨t, h, c⟩ ⟨rfl, a2, a3, b0, b1⟩
      simp only at a2 a3 b0 b1
      rcases Nat.eq_zero_or_pos n with hn0 | hn0
      · have hb1 : behP code n = -1 := by rw [hn0]; rfl
        rw [hb1] at hbe
        exact absurd hbe (by decide)
      · have g0 : decide ((0 : Int) < (n : Int)) = true := by simp; omega
        have g0' : decide (0 < n) = true := by simp; omega
        have w1 : IntKind.i64.wrap ((n : Int) - 1) = ((n - 1 : Nat) : Int) := by rw [wrap_id (by omega) (by omega)]; omega
        obtain ⟨l, hl⟩ : ∃ l, code[n - 1]? = some l := ⟨code[n - 1], by simp⟩
        obtain ⟨bb, hb⟩ := F l (List.mem_of_getElem? hl)
        have hr := row_ro hb
        have hk : l.kind = 3 := by
          rw [← hbe]
          unfold behP
          rw [if_neg (by omega), hl]
          rfl
        rw [hk] at hr
        simp -implicitDefEqProofs [a2, a3, b0, b1, g0, g0', w1, hl, hr, q1, -decide_eq_true_eq, -decide_eq_false_iff_not, -List.any_eq_true, -List.any_eq_false, -bne_iff_ne, -beq_iff_eq, -beq_eq_false_iff_ne, -bne_eq_false_iff_eq]
        exact ⟨_, _, rfl⟩
    · exact ⟨0, by simp, by simp, by simp, by simp, by simp, by simp, by simp⟩
  · have q0 := q1
    simp -implicitDefEqProofs [Tryz.f29, e30, q1, q3, o1, o2, o3, o4, q1, Option.bind_assoc, -decide_eq_true_eq, -decide_eq_false_iff_not, -List.any_eq_true, -List.any_eq_false, -bne_iff_ne, -beq_iff_eq, -beq_eq_false_iff_ne, -bne_eq_false_iff_eq]
    refine loop_to (R := TOut) (fun kk st => ∃ i : Nat, kk = vs.length - i ∧ i ≤ vs.length ∧ st.t 2 = .ptr 0 0 0 ∧ st.t 3 = .ptr 1 0 0 ∧ st.t 5 = I i ∧ st.h 0 = some ⟨2, [[.ro nb (strs names), .ro cb (code.map Ln.row)]], some 26⟩ ∧ st.h 1 = some ⟨5, [[I n, .ro false (nums vs), I 0, I 2, B false]], some 32⟩)
      (fun e st => e = .exit 0 ∧ st.t 2 = .ptr 0 0 0 ∧ st.t 3 = .ptr 1 0 0 ∧ st.h 0 = some ⟨2, [[.ro nb (strs names), .ro cb (code.map Ln.row)]], some 26⟩ ∧ st.h 1 = some ⟨5, [[I n, .ro false (nums vs), I 0, I 2, B false]], some 32⟩) ?_ ?_ vs.length _ ?_
    · rintro kk ⟨t, h, c⟩ ⟨i, rfl, hi, a2, a3, a5, b0, b1⟩
      simp only at a2 a3 a5 b0 b1
      by_cases g : i < vs.length
      · have g1 : decide (i < vs.length) = true := by simp [g]
        have g1' : decide ((i : Int) < (vs.length : Int)) = true := by simp; omega
        have w2 : IntKind.i64.wrap ((i : Int) + 1) = ((i + 1 : Nat) : Int) := wrap_succ (by omega)
        obtain ⟨q, hq⟩ : ∃ q, vs[i]? = some q := ⟨vs[i], by simp [g]⟩
        have hin := okV_in hvo (List.mem_of_getElem? hq)
        have hout : outB q (-2147483647) 2147483647 = false := outB_f hin.1 hin.2
        simp -implicitDefEqProofs [a2, a3, a5, b0, b1, g1, g1', hq, e30, hout, w2, to_normal, to_exit, to_ret, -decide_eq_true_eq, -decide_eq_false_iff_not, -List.any_eq_true, -List.any_eq_false, -bne_iff_ne, -beq_iff_eq, -beq_eq_false_iff_ne, -bne_eq_false_iff_eq]
        exact ⟨vs.length - (i + 1), by omega, i + 1, rfl, by omega, by omega⟩
      · have g1 : decide (i < vs.length) = false := by simp; omega
        have g1' : decide ((i : Int) < (vs.length : Int)) = false := by simp; omega
        simp -implicitDefEqProofs [a2, a3, a5, b0, b1, g1, g1', to_normal, to_exit, to_ret, -decide_eq_true_eq, -decide_eq_false_iff_not, -List.any_eq_true, -List.any_eq_false, -bne_iff_ne, -beq_iff_eq, -beq_eq_false_iff_ne, -bne_eq_false_iff_eq]
    · rintro e ⟨t, h, c⟩ ⟨rfl, a2, a3, b0, b1⟩
      simp only at a2 a3 b0 b1
      rcases Nat.eq_zero_or_pos n with hn0 | hn0
      · have hb1 : behP code n = -1 := by rw [hn0]; rfl
        rw [hb1] at hbe
        exact absurd hbe (by decide)
      · have g0 : decide ((0 : Int) < (n : Int)) = true := by simp; omega
        have g0' : decide (0 < n) = true := by simp; omega
        have w1 : IntKind.i64.wrap ((n : Int) - 1) = ((n - 1 : Nat) : Int) := by rw [wrap_id (by omega) (by omega)]; omega
        obtain ⟨l, hl⟩ : ∃ l, code[n - 1]? = some l := ⟨code[n - 1], by simp⟩
        obtain ⟨bb, hb⟩ := F l (List.mem_of_getElem? hl)
        have hr := row_ro hb
        have hk : l.kind = 4 := by
          rw [← hbe]
          unfold behP
          rw [if_neg (by omega), hl]
          rfl
        rw [hk] at hr
        simp -implicitDefEqProofs [a2, a3, b0, b1, g0, g0', w1, hl, hr, q1, -decide_eq_true_eq, -decide_eq_false_iff_not, -List.any_eq_true, -List.any_eq_false, -bne_iff_ne, -beq_iff_eq, -beq_eq_false_iff_ne, -bne_eq_false_iff_eq]
        exact ⟨_, _, rfl⟩
    · exact ⟨0, by simp, by simp, by simp, by simp, by simp, by simp, by simp⟩
theorem rfits_c (F : FrzC code) (V : ValidP names code) (R : RunOk names code r) (h : Heap) (c : Nat) : callA mZ (run Tryz.prog mZ) 29 [progV nb cb names code, r.av] h c = some (B true, h, c) := by
  obtain ⟨h', c', e⟩ := rfits_ev (nb := nb) (cb := cb) F V R
  exact call_of rfl rfl e rfl rfl
end
end Go.Proofs.YtmpcjfkfgjpebaaGreatDoor.AM
namespace Go.Proofs.YtmpcjfkfgjpebaaGreatDoor.AM
open Go Go.Proofs
attribute [local simp] fieldAddrA ld setCells stA skipV appendA hd makeA bnd kindA freshA killOk loadsAt edgesOn Region.binds newT empT lay_get allocA buildA buildRow lenA els indexAddrA isNil opA evA lit_int lit_bool lit_nil lit_nilf yldA binI unA pickA boolV intV fieldA mk eqs nilC mayP
theorem rword_ev (s : Str) (h : wordP s = false) : ∃ h c, run Tryz.prog mZ 103 [S s] Heap.none 0 = some (B false, h, c) := by
  rw [run_eq (show mZ 103 = some .pure from rfl) rfl, Tryz.func103]
  unfold wordP at h
  simp only [Bool.or_eq_false_iff] at h
  obtain ⟨⟨⟨⟨⟨⟨⟨⟨⟨⟨⟨⟨⟨⟨⟨g0, g1⟩, g2⟩, g3⟩, g4⟩, g5⟩, g6⟩, g7⟩, g8⟩, g9⟩, g10⟩, g11⟩, g12⟩, g13⟩, g14⟩, g15⟩ := h
  simp -implicitDefEqProofs [Tryz.f103, g0, g1, g2, g3, g4, g5, g6, g7, g8, g9, g10, g11, g12, g13, g14, g15, -decide_eq_true_eq, -decide_eq_false_iff_not, -List.any_eq_true, -List.any_eq_false, -bne_iff_ne, -beq_iff_eq, -beq_eq_false_iff_ne, -bne_eq_false_iff_eq]
theorem rword_c (s : Str) (hw : wordP s = false) (h : Heap) (c : Nat) : callA mZ (run Tryz.prog mZ) 103 [S s] h c = some (B false, h, c) := by
  obtain ⟨h', c', e⟩ := rword_ev s hw
  exact call_of rfl rfl e rfl rfl
theorem rname_ev (s : Str) (hn : nameP s = true) : TOut (run Tryz.prog mZ 64 [S s] Heap.none 0) := by
  rw [run_eq (show mZ 64 = some .pure from rfl) rfl, Tryz.func64]
  unfold nameP at hn
  simp only [Bool.and_eq_true, decide_eq_true_eq, Bool.not_eq_true'] at hn
  obtain ⟨⟨⟨h1, h2⟩, h3⟩, h4⟩ := hn
  have e1 := fun h c => rword_c s h4 h c
  have g1 : decide ((s.length : Int) < 1) = false := by rw [decide_eq_false_iff_not]; omega
  have g2 : decide (12 < (s.length : Int)) = false := by simp; omega
  have g1' : decide (s.length < 1) = false := by rw [decide_eq_false_iff_not]; omega
  have g2' : decide (12 < s.length) = false := by simp; omega
  simp -implicitDefEqProofs [Tryz.f64, e1, g1, g2, g1', g2', Option.bind_assoc, -decide_eq_true_eq, -decide_eq_false_iff_not, -List.any_eq_true, -List.any_eq_false, -bne_iff_ne, -beq_iff_eq, -beq_eq_false_iff_ne, -bne_eq_false_iff_eq]
  refine loop_to (R := TOut) (fun k st => ∃ n : Nat, k = s.length - n ∧ st.t 0 = S s ∧ st.t 3 = I n ∧ n ≤ s.length) (fun e st => e = .exit 0) ?_ ?_ s.length _ ?_
  · rintro k ⟨t, h, c⟩ ⟨n, rfl, a0, a3, hn⟩
    simp only at a0 a3
    by_cases g : n < s.length
    · have k1 : decide (n < s.length) = true := by simp [g]
      have k1' : decide ((n : Int) < (s.length : Int)) = true := by simp; omega
      obtain ⟨x, hx⟩ : ∃ x, s[n]? = some x := ⟨s[n], by simp [g]⟩
      have kn : IntKind.i64.wrap ((n : Int) + 1) = ((n + 1 : Nat) : Int) := wrap_succ (by omega)
      have hl := List.all_eq_true.1 h1 x (List.mem_of_getElem? hx)
      unfold letb at hl
      simp only [Bool.and_eq_true, decide_eq_true_eq] at hl
      have g3 : decide ((x.toNat : Int) < 97) = false := by rw [decide_eq_false_iff_not]; omega
      have g4 : decide (122 < (x.toNat : Int)) = false := by rw [decide_eq_false_iff_not]; omega
      simp -implicitDefEqProofs [a0, a3, k1, k1', hx, g3, g4, kn, to_normal, to_exit, to_ret, -decide_eq_true_eq, -decide_eq_false_iff_not, -List.any_eq_true, -List.any_eq_false, -bne_iff_ne, -beq_iff_eq, -beq_eq_false_iff_ne, -bne_eq_false_iff_eq]
      exact ⟨s.length - (n + 1), by omega, n + 1, rfl, by omega, by omega⟩
    · have k1 : decide (n < s.length) = false := by simp; omega
      have k1' : decide ((n : Int) < (s.length : Int)) = false := by simp; omega
      simp -implicitDefEqProofs [a0, a3, k1, k1', to_normal, to_exit, to_ret, -decide_eq_true_eq, -decide_eq_false_iff_not, -List.any_eq_true, -List.any_eq_false, -bne_iff_ne, -beq_iff_eq, -beq_eq_false_iff_ne, -bne_eq_false_iff_eq]
  · rintro e ⟨t, h, c⟩ rfl
    simp -implicitDefEqProofs [-decide_eq_true_eq, -decide_eq_false_iff_not, -List.any_eq_true, -List.any_eq_false, -bne_iff_ne, -beq_iff_eq, -beq_eq_false_iff_ne, -bne_eq_false_iff_eq]
    exact ⟨_, _, rfl⟩
  · exact ⟨0, by simp, by simp, by simp, by simp⟩
theorem rname_c (s : Str) (hn : nameP s = true) (h : Heap) (c : Nat) : callA mZ (run Tryz.prog mZ) 64 [S s] h c = some (B true, h, c) := by
  obtain ⟨h', c', e⟩ := rname_ev s hn
  exact call_of rfl rfl e rfl rfl
theorem rplace_ev (nb : Bool) (l : List Str) (j : Nat) (y : Str) (hl : l.length ≤ 16) (hnd : l.Nodup) (hy : l[j]? = some y) : IOut j (run Tryz.prog mZ 65 [.ro nb (strs l), S y] Heap.none 0) := by
  rw [run_eq (show mZ 65 = some .pure from rfl) rfl, Tryz.func65]
  have hjl := (List.getElem?_eq_some_iff.1 hy).1
  simp -implicitDefEqProofs [Tryz.f65, Option.bind_assoc, -decide_eq_true_eq, -decide_eq_false_iff_not, -List.any_eq_true, -List.any_eq_false, -bne_iff_ne, -beq_iff_eq, -beq_eq_false_iff_ne, -bne_eq_false_iff_eq]
  refine loop_to (R := IOut j) (fun k st => ∃ n : Nat, k = l.length - n ∧ st.t 0 = .ro nb (strs l) ∧ st.t 1 = S y ∧ st.t 5 = I n ∧ n ≤ j) (fun e st => e = .ret ∧ st.t 4 = I j) ?_ ?_ l.length _ ?_
  · rintro k ⟨t, h, c⟩ ⟨n, rfl, a0, a1, a5, hn⟩
    simp only at a0 a1 a5
    have k1 : decide (n < l.length) = true := by simp; omega
    have k1' : decide ((n : Int) < (l.length : Int)) = true := by simp; omega
    obtain ⟨x, hx⟩ : ∃ x, l[n]? = some x := ⟨l[n], by simp⟩
    have kn : IntKind.i64.wrap ((n : Int) + 1) = ((n + 1 : Nat) : Int) := wrap_succ (by omega)
    by_cases g : n = j
    · subst g
      have hxy : x = y := by rw [hx] at hy; cases hy; rfl
      subst hxy
      simp -implicitDefEqProofs [a0, a1, a5, k1, k1', hx, kn, to_normal, to_exit, to_ret, -decide_eq_true_eq, -decide_eq_false_iff_not, -List.any_eq_true, -List.any_eq_false, -bne_iff_ne, -beq_iff_eq, -beq_eq_false_iff_ne, -bne_eq_false_iff_eq]
    · have gx : (x == y) = false := by
        rw [beq_eq_false_iff_ne]
        intro e
        subst e
        exact g ((List.getElem?_inj (i := n) (j := j) (by omega) hnd).1 (hx.trans hy.symm))
      simp -implicitDefEqProofs [a0, a1, a5, k1, k1', hx, gx, kn, to_normal, to_exit, to_ret, -decide_eq_true_eq, -decide_eq_false_iff_not, -List.any_eq_true, -List.any_eq_false, -bne_iff_ne, -beq_iff_eq, -beq_eq_false_iff_ne, -bne_eq_false_iff_eq]
      exact ⟨l.length - (n + 1), by omega, n + 1, rfl, by omega, by omega⟩
  · rintro e ⟨t, h, c⟩ ⟨rfl, a4⟩
    simp only at a4
    simp -implicitDefEqProofs [a4, -decide_eq_true_eq, -decide_eq_false_iff_not, -List.any_eq_true, -List.any_eq_false, -bne_iff_ne, -beq_iff_eq, -beq_eq_false_iff_ne, -bne_eq_false_iff_eq]
    exact ⟨_, _, rfl⟩
  · exact ⟨0, by simp, by simp, by simp, by simp, by simp⟩
theorem rplace_c (nb : Bool) (l : List Str) (j : Nat) (y : Str) (hl : l.length ≤ 16) (hnd : l.Nodup) (hy : l[j]? = some y) (h : Heap) (c : Nat) : callA mZ (run Tryz.prog mZ) 65 [.ro nb (strs l), S y] h c = some (I j, h, c) := by
  obtain ⟨h', c', e⟩ := rplace_ev nb l j y hl hnd hy
  exact call_of rfl rfl e rfl rfl
theorem takes_ev (k : Int) : IOut (popsP k) (run Tryz.prog mZ 104 [I k] Heap.none 0) := by
  rw [run_eq (show mZ 104 = some .pure from rfl) rfl, Tryz.func104]
  by_cases h0 : k = 0
  · subst h0
    simp -implicitDefEqProofs [Tryz.f104, IOut, popsP, -decide_eq_true_eq, -decide_eq_false_iff_not, -List.any_eq_true, -List.any_eq_false, -bne_iff_ne, -beq_iff_eq, -beq_eq_false_iff_ne, -bne_eq_false_iff_eq]
  have b0 : (k == 0) = false := by simpa using h0
  by_cases h1 : k = 1
  · subst h1
    simp -implicitDefEqProofs [Tryz.f104, IOut, popsP, -decide_eq_true_eq, -decide_eq_false_iff_not, -List.any_eq_true, -List.any_eq_false, -bne_iff_ne, -beq_iff_eq, -beq_eq_false_iff_ne, -bne_eq_false_iff_eq]
  have b1 : (k == 1) = false := by simpa using h1
  by_cases h9 : k = 9
  · subst h9
    simp -implicitDefEqProofs [Tryz.f104, IOut, popsP, -decide_eq_true_eq, -decide_eq_false_iff_not, -List.any_eq_true, -List.any_eq_false, -bne_iff_ne, -beq_iff_eq, -beq_eq_false_iff_ne, -bne_eq_false_iff_eq]
  have b9 : (k == 9) = false := by simpa using h9
  simp -implicitDefEqProofs [Tryz.f104, IOut, popsP, b0, b1, b9, h0, h1, h9, -decide_eq_true_eq, -decide_eq_false_iff_not, -List.any_eq_true, -List.any_eq_false, -bne_iff_ne, -beq_iff_eq, -beq_eq_false_iff_ne, -bne_eq_false_iff_eq]
theorem takes_c (k : Int) (h : Heap) (c : Nat) : callA mZ (run Tryz.prog mZ) 104 [I k] h c = some (I (popsP k), h, c) := by
  obtain ⟨h', c', e⟩ := takes_ev k
  exact call_of rfl rfl e rfl rfl
theorem rexp_ev (nb : Bool) (na : Nat) (b : List (Int × Int)) (hB : Bal na b) (hl : b.length ≤ 60) : TOut (run Tryz.prog mZ 66 [.ro nb (opsE b), I na] Heap.none 0) := by
  rw [run_eq (show mZ 66 = some .pure from rfl) rfl, Tryz.func66]
  have q1 : decide (60 < b.length) = false := by simp; omega
  have q2 : decide ((60 : Int) < (b.length : Int)) = false := by simp; omega
  simp -implicitDefEqProofs [Tryz.f66, q1, q2, Option.bind_assoc, -decide_eq_true_eq, -decide_eq_false_iff_not, -List.any_eq_true, -List.any_eq_false, -bne_iff_ne, -beq_iff_eq, -beq_eq_false_iff_ne, -bne_eq_false_iff_eq]
  refine loop_to (R := TOut) (fun kk st => ∃ i n : Nat, kk = b.length - i ∧ i ≤ b.length ∧ n ≤ i ∧ st.t 0 = .ro nb (opsE b) ∧ st.t 1 = I na ∧ st.t 5 = I n ∧ st.t 6 = I i ∧ hgt na (b.drop i) n = some 1)
    (fun e st => e = .exit 0 ∧ st.t 5 = I 1) ?_ ?_ b.length _ ?_
  · rintro kk ⟨t, h, c⟩ ⟨i, n, rfl, hi, hn, a0, a1, a5, a6, H⟩
    simp only at a0 a1 a5 a6
    by_cases g : i < b.length
    · have g1 : decide (i < b.length) = true := by simp [g]
      have g1' : decide ((i : Int) < (b.length : Int)) = true := by simp; omega
      have w2 : IntKind.i64.wrap ((i : Int) + 1) = ((i + 1 : Nat) : Int) := wrap_succ (by omega)
      obtain ⟨q, hq⟩ : ∃ q, b[i]? = some q := ⟨b[i], by simp [g]⟩
      obtain ⟨h1, h2, h3⟩ := hgt_drop hq H
      obtain ⟨k, w⟩ := q
      have e2 := fun h c => takes_c k h c
      simp only at h1 h2 h3
      have h10 := known_10 h1
      simp only at h10
      obtain ⟨p, hp⟩ : ∃ p, p = popsP k := ⟨_, rfl⟩
      rw [← hp] at e2 h2 h3
      have w3 : IntKind.i64.wrap ((n : Int) - (p : Int)) = ((n - p : Nat) : Int) := by rw [wrap_id (by omega) (by omega)]; omega
      have w4 : IntKind.i64.wrap (((n - p : Nat) : Int) + 1) = ((n + 1 - p : Nat) : Int) := by rw [wrap_id (by omega) (by omega)]; omega
      have g2 : decide (((n - p : Nat) : Int) < 0) = false := by rw [decide_eq_false_iff_not]; omega
      have fin : ∃ k', k' < b.length - i ∧ ∃ i_1, k' = b.length - i_1 ∧ i_1 ≤ b.length ∧ ∃ x, x ≤ i_1 ∧ ((n + 1 - p : Nat) : Int) = (x : Int) ∧ (i : Int) + 1 = (i_1 : Int) ∧ hgt na (List.drop i_1 b) x = some 1 :=
        ⟨b.length - (i + 1), by omega, i + 1, rfl, by omega, n + 1 - p, by omega, rfl, by omega, h3⟩
      unfold knownP at h1
      by_cases h0 : k = 0
      · subst h0
        simp at h1
        have r1 : decide (w < -2147483647) = false := by simp; omega
        have r2 : decide (2147483647 < w) = false := by simp; omega
        simp -implicitDefEqProofs [a0, a1, a5, a6, g1, g1', hq, e2, w2, w3, w4, g2, r1, r2, to_normal, to_exit, to_ret, -decide_eq_true_eq, -decide_eq_false_iff_not, -List.any_eq_true, -List.any_eq_false, -bne_iff_ne, -beq_iff_eq, -beq_eq_false_iff_ne, -bne_eq_false_iff_eq]
        exact fin
      have b0 : (k == 0) = false := by simpa using h0
      by_cases h1k : k = 1
      · subst h1k
        simp at h1
        have r1 : decide (w < 0) = false := by simp; omega
        have r2 : decide ((na : Int) ≤ w) = false := by simp; omega
        simp -implicitDefEqProofs [a0, a1, a5, a6, g1, g1', hq, e2, w2, w3, w4, g2, r1, r2, to_normal, to_exit, to_ret, -decide_eq_true_eq, -decide_eq_false_iff_not, -List.any_eq_true, -List.any_eq_false, -bne_iff_ne, -beq_iff_eq, -beq_eq_false_iff_ne, -bne_eq_false_iff_eq]
        exact fin
      have b1 : (k == 1) = false := by simpa using h1k
      have b10 : (k == 10) = false := by simpa using h10
      simp only [if_neg h0, if_neg h1k, if_neg h10, Bool.and_eq_true, decide_eq_true_eq] at h1
      obtain ⟨⟨k1, k2⟩, rfl⟩ := h1
      have r1 : decide (k < 0) = false := by simp; omega
      have r2 : decide (12 < k) = false := by simp; omega
      have r3 : decide (1 < k) = true := by simp; omega
      simp -implicitDefEqProofs [a0, a1, a5, a6, g1, g1', hq, e2, w2, w3, w4, g2, b0, b1, b10, r1, r2, r3, to_normal, to_exit, to_ret, -decide_eq_true_eq, -decide_eq_false_iff_not, -List.any_eq_true, -List.any_eq_false, -bne_iff_ne, -beq_iff_eq, -beq_eq_false_iff_ne, -bne_eq_false_iff_eq]
      exact fin
    · have g1 : decide (i < b.length) = false := by simp; omega
      have g1' : decide ((i : Int) < (b.length : Int)) = false := by simp; omega
      rw [List.drop_eq_nil_of_le (by omega)] at H
      have : n = 1 := by simpa [hgt] using H
      subst this
      simp -implicitDefEqProofs [a0, a1, a5, a6, g1, g1', to_normal, to_exit, to_ret, -decide_eq_true_eq, -decide_eq_false_iff_not, -List.any_eq_true, -List.any_eq_false, -bne_iff_ne, -beq_iff_eq, -beq_eq_false_iff_ne, -bne_eq_false_iff_eq]
  · rintro e ⟨t, h, c⟩ ⟨rfl, a5⟩
    simp only at a5
    simp -implicitDefEqProofs [a5, -decide_eq_true_eq, -decide_eq_false_iff_not, -List.any_eq_true, -List.any_eq_false, -bne_iff_ne, -beq_iff_eq, -beq_eq_false_iff_ne, -bne_eq_false_iff_eq]
    exact ⟨_, _, rfl⟩
  · exact ⟨0, 0, by simp, by simp, by simp, by simp, by simp, by simp, by simp, by simpa using hB 0⟩
theorem rexp_c (nb : Bool) (na : Nat) (b : List (Int × Int)) (hB : Bal na b) (hl : b.length ≤ 60) (h : Heap) (c : Nat) : callA mZ (run Tryz.prog mZ) 66 [.ro nb (opsE b), I na] h c = some (B true, h, c) := by
  obtain ⟨h', c', e⟩ := rexp_ev nb na b hB hl
  exact call_of rfl rfl e rfl rfl
end Go.Proofs.YtmpcjfkfgjpebaaGreatDoor.AM
namespace Go.Proofs.YtmpcjfkfgjpebaaGreatDoor.AM
open Go Go.Proofs
attribute [local simp] fieldAddrA ld setCells stA skipV appendA hd makeA bnd kindA freshA killOk loadsAt edgesOn Region.binds newT empT lay_get allocA buildA buildRow lenA els indexAddrA isNil opA evA lit_int lit_bool lit_nil lit_nilf yldA binI unA pickA boolV intV fieldA mk eqs nilC mayP
section
variable {nb cb : Bool} {names : List Str} {code : List Ln}
abbrev pgB (nb cb : Bool) (names : List Str) (code : List Ln) : Blk := ⟨2, [[.ro nb (strs names), .ro cb (code.map Ln.row)]], some 26⟩
def RW1 (nb cb : Bool) (names : List Str) (code : List Ln) (kk : Nat) (st : St) : Prop := ∃ i : Nat, kk = names.length - i ∧ i ≤ names.length ∧ st.t 1 = .ptr 0 0 0 ∧ st.t 3 = I i ∧ st.h 0 = some (pgB nb cb names code) ∧ 1 ≤ st.c
def RW1E (nb cb : Bool) (names : List Str) (code : List Ln) (e : Ex) (st : St) : Prop := e = .exit 0 ∧ st.t 1 = .ptr 0 0 0 ∧ st.h 0 = some (pgB nb cb names code) ∧ 1 ≤ st.c
def RW2 (nb cb : Bool) (names : List Str) (code : List Ln) (kk : Nat) (st : St) : Prop := ∃ i : Nat, kk = code.length - i ∧ i ≤ code.length ∧ st.t 1 = .ptr 0 0 0 ∧ st.t 4 = I i ∧ st.h 0 = some (pgB nb cb names code) ∧ 1 ≤ st.c
def RW2E (nb cb : Bool) (names : List Str) (code : List Ln) (e : Ex) (st : St) : Prop := e = .exit 2 ∧ st.t 1 = .ptr 0 0 0 ∧ st.h 0 = some (pgB nb cb names code) ∧ 1 ≤ st.c
def RW3 (nb cb : Bool) (names : List Str) (code : List Ln) (kk : Nat) (st : St) : Prop := ∃ i : Nat, kk = code.length - i ∧ i ≤ code.length ∧ st.t 1 = .ptr 0 0 0 ∧ st.t 6 = I i ∧ st.h 0 = some (pgB nb cb names code)
def RW4 (nb cb : Bool) (names : List Str) (code : List Ln) (i : Nat) (l : Ln) (kk : Nat) (st : St) : Prop := ∃ j : Nat, kk = l.bodies.length - j ∧ j ≤ l.bodies.length ∧ st.t 1 = .ptr 0 0 0 ∧ st.t 6 = I i ∧ st.t 7 = I j ∧ st.h 0 = some (pgB nb cb names code)
def RW4E (nb cb : Bool) (names : List Str) (code : List Ln) (i : Nat) (e : Ex) (st : St) : Prop := e = .exit 6 ∧ st.t 1 = .ptr 0 0 0 ∧ st.t 6 = I i ∧ st.h 0 = some (pgB nb cb names code)
theorem LnP.b6 {nn len : Nat} {l : Ln} (hL : LnP nn len l) : l.bodies.length ≤ 6 := by
  obtain ⟨x1, x2, x3, x4, x5, x6, x7, x8, x9, x10, x11⟩ := hL
  have : l.kind = 0 ∨ l.kind = 1 ∨ l.kind = 2 ∨ l.kind = 3 ∨ l.kind = 4 ∨ l.kind = 5 ∨ l.kind = 6 := by omega
  rcases this with e | e | e | e | e | e | e
  · have := x10 (by omega); omega
  · have := x9 (by omega); simp [this]
  · have := x10 (by omega); omega
  · exact (x7 (by omega)).2.2
  · exact (x7 (by omega)).2.2
  · have := x10 (by omega); omega
  · have := x9 (by omega); simp [this]
theorem rvalidate_ev (F : FrzC code) (V : ValidP names code) : EOut (run Tryz.prog mZ 28 [progV nb cb names code] Heap.none 0) := by
  rw [run_eq (show mZ 28 = some .pure from rfl) rfl, Tryz.func28]
  have hn16 := V.n16
  have hc2 := V.c200
  have g1 : decide (200 < code.length) = false := by simp; omega
  have g1' : decide ((200 : Int) < (code.length : Int)) = false := by simp; omega
  have g2 : decide (16 < names.length) = false := by simp; omega
  have g2' : decide ((16 : Int) < (names.length : Int)) = false := by simp; omega
  have hp := (List.getElem?_eq_some_iff.1 V.res).1
  have g3 : ((names.length : Int) == 0) = false := by rw [beq_eq_false_iff_ne]; omega
  have hres := V.res
  simp -implicitDefEqProofs [Tryz.f28, g1, g1', g2, g2', g3, hres, Option.bind_assoc, -decide_eq_true_eq, -decide_eq_false_iff_not, -List.any_eq_true, -List.any_eq_false, -bne_iff_ne, -beq_iff_eq, -beq_eq_false_iff_ne, -bne_eq_false_iff_eq]
  refine loop_to (R := EOut) (RW1 nb cb names code) (RW1E nb cb names code) ?_ ?_ names.length _ ?_
  · rintro kk ⟨t, h, c⟩ ⟨i, rfl, hi, a1, a3, b0, hc⟩
    simp only at a1 a3 b0 hc
    by_cases g : i < names.length
    · have k1 : decide (i < names.length) = true := by simp [g]
      have k1' : decide ((i : Int) < (names.length : Int)) = true := by simp; omega
      have w2 : IntKind.i64.wrap ((i : Int) + 1) = ((i + 1 : Nat) : Int) := wrap_succ (by omega)
      obtain ⟨y, hy⟩ : ∃ y, names[i]? = some y := ⟨names[i], by simp [g]⟩
      have e1 := fun h c => rname_c y (V.nms y (List.mem_of_getElem? hy)) h c
      have e2 := fun h c => rplace_c nb names i y hn16 V.nd hy h c
      have k2 : ((i : Int) != (i : Int)) = false := by simp
      simp -implicitDefEqProofs [a1, a3, b0, k1, k1', hy, e1, e2, w2, to_normal, to_exit, to_ret, -decide_eq_true_eq, -decide_eq_false_iff_not, -List.any_eq_true, -List.any_eq_false, -bne_iff_ne, -beq_iff_eq, -beq_eq_false_iff_ne, -bne_eq_false_iff_eq]
      exact ⟨names.length - (i + 1), by omega, i + 1, rfl, by omega, by simp [a1], by simp, b0, hc⟩
    · have k1 : decide (i < names.length) = false := by simp; omega
      have k1' : decide ((i : Int) < (names.length : Int)) = false := by simp; omega
      simp -implicitDefEqProofs [a1, a3, b0, k1, k1', to_normal, to_exit, to_ret, -decide_eq_true_eq, -decide_eq_false_iff_not, -List.any_eq_true, -List.any_eq_false, -bne_iff_ne, -beq_iff_eq, -beq_eq_false_iff_ne, -bne_eq_false_iff_eq]
      exact ⟨rfl, by simp [a1], b0, hc⟩
  · rintro e ⟨t, h, c⟩ ⟨rfl, a1, b0, hc⟩
    simp only at a1 b0 hc
    simp -implicitDefEqProofs [a1, b0, Option.bind_assoc, -decide_eq_true_eq, -decide_eq_false_iff_not, -List.any_eq_true, -List.any_eq_false, -bne_iff_ne, -beq_iff_eq, -beq_eq_false_iff_ne, -bne_eq_false_iff_eq]
    refine loop_to (R := EOut) (RW2 nb cb names code) (RW2E nb cb names code) ?_ ?_ code.length _ ?_
    · rintro kk ⟨t, h, c⟩ ⟨i, rfl, hi, a1, a4, b0, hc⟩
      simp only at a1 a4 b0 hc
      by_cases g : i < code.length
      · have k1 : decide (i < code.length) = true := by simp [g]
        have k1' : decide ((i : Int) < (code.length : Int)) = true := by simp; omega
        have w2 : IntKind.i64.wrap ((i : Int) + 1) = ((i + 1 : Nat) : Int) := wrap_succ (by omega)
        obtain ⟨l, hy⟩ : ∃ l, code[i]? = some l := ⟨code[i], by simp [g]⟩
        have hm := List.mem_of_getElem? hy
        obtain ⟨b, hv⟩ := F l hm
        have hr := row_ro hv
        have hL := V.lns l hm
        have hb6 := hL.b6
        obtain ⟨c1, c2, c3, c4, c5, c6, c7, c8, c9, c10, _⟩ := hL
        have hc0 : (0 : Nat) ≠ c := by omega
        have hc0' : (c : Nat) ≠ 0 := by omega
        have fin : ∀ (t' : Nat → AV) (h' : Heap) (c' : Nat), t' 1 = .ptr 0 0 0 → t' 4 = I ((i + 1 : Nat) : Int) → h' 0 = some (pgB nb cb names code) → 1 ≤ c' → ∃ k', k' < code.length - i ∧ RW2 nb cb names code k' ⟨t', h', c'⟩ :=
          fun t' h' c' x1 x4 x0 xc => ⟨code.length - (i + 1), by omega, i + 1, rfl, by omega, x1, x4, x0, xc⟩
        obtain ⟨k, nm, to, wd, pv, bodies⟩ := l
        simp only at hv hr c1 c2 c3 c4 c5 c6 c7 c8 c9 c10 hb6
        have gnm : 0 ≤ nm → decide (nm < 0) = false := fun h => by simp; omega
        have gnm2 : nm < names.length → decide ((names.length : Int) ≤ nm) = false := fun h => by simp; omega
        have gto : 0 ≤ to → decide (to < 0) = false := fun h => by simp; omega
        have gto2 : to ≤ code.length → decide ((code.length : Int) < to) = false := fun h => by simp; omega
        have gwd : 0 ≤ wd → decide (wd < 0) = false := fun h => by simp; omega
        have gwd2 : wd ≤ 99 → decide (99 < wd) = false := fun h => by simp; omega
        have gb : decide (6 < bodies.length) = false := by simp; omega
        have gb2 : decide ((6 : Int) < (bodies.length : Int)) = false := by simp; omega
        have hk : k = 0 ∨ k = 1 ∨ k = 2 ∨ k = 3 ∨ k = 4 ∨ k = 5 ∨ k = 6 := by omega
        rcases hk with rfl | hk
        · obtain ⟨d1, d2⟩ := c3 (by decide)
          have d3 := c6 (by decide)
          subst d3
          have d5 := c8 (by decide)
          subst d5
          have d8 := c10 (by decide)
          simp -implicitDefEqProofs [a1, a4, b0, k1, k1', hy, hr, hc0', w2, gnm d1, gnm2 d2, d8, hc0, to_normal, to_exit, to_ret, -decide_eq_true_eq, -decide_eq_false_iff_not, -List.any_eq_true, -List.any_eq_false, -bne_iff_ne, -beq_iff_eq, -beq_eq_false_iff_ne, -bne_eq_false_iff_eq]
          exact fin _ _ _ (by simp [a1]) (by simp) (by simp [hc0, b0]) (by omega)
        rcases hk with rfl | hk
        · have d1 := c4 (by decide)
          subst d1
          obtain ⟨d3, d4⟩ := c5 (by decide)
          have d5 := c8 (by decide)
          subst d5
          have d8 := c9 (by decide)
          subst d8
          simp -implicitDefEqProofs [a1, a4, b0, k1, k1', hy, hr, hc0', w2, gto d3, gto2 d4, hc0, to_normal, to_exit, to_ret, -decide_eq_true_eq, -decide_eq_false_iff_not, -List.any_eq_true, -List.any_eq_false, -bne_iff_ne, -beq_iff_eq, -beq_eq_false_iff_ne, -bne_eq_false_iff_eq]
          exact fin _ _ _ (by simp [a1]) (by simp) (by simp [hc0, b0]) (by omega)
        rcases hk with rfl | hk
        · have d1 := c4 (by decide)
          subst d1
          obtain ⟨d3, d4⟩ := c5 (by decide)
          have d5 := c8 (by decide)
          subst d5
          have d8 := c10 (by decide)
          simp -implicitDefEqProofs [a1, a4, b0, k1, k1', hy, hr, hc0', w2, gto d3, gto2 d4, d8, hc0, to_normal, to_exit, to_ret, -decide_eq_true_eq, -decide_eq_false_iff_not, -List.any_eq_true, -List.any_eq_false, -bne_iff_ne, -beq_iff_eq, -beq_eq_false_iff_ne, -bne_eq_false_iff_eq]
          exact fin _ _ _ (by simp [a1]) (by simp) (by simp [hc0, b0]) (by omega)
        rcases hk with rfl | hk
        · have d1 := c4 (by decide)
          subst d1
          have d3 := c6 (by decide)
          subst d3
          obtain ⟨d5, d6, d7⟩ := c7 (by decide)
          simp -implicitDefEqProofs [a1, a4, b0, k1, k1', hy, hr, hc0', w2, gwd d5, gwd2 d6, gb, gb2, hc0, to_normal, to_exit, to_ret, -decide_eq_true_eq, -decide_eq_false_iff_not, -List.any_eq_true, -List.any_eq_false, -bne_iff_ne, -beq_iff_eq, -beq_eq_false_iff_ne, -bne_eq_false_iff_eq]
          exact fin _ _ _ (by simp [a1]) (by simp) (by simp [hc0, b0]) (by omega)
        rcases hk with rfl | hk
        · obtain ⟨d1, d2⟩ := c3 (by decide)
          have d3 := c6 (by decide)
          subst d3
          obtain ⟨d5, d6, d7⟩ := c7 (by decide)
          simp -implicitDefEqProofs [a1, a4, b0, k1, k1', hy, hr, hc0', w2, gnm d1, gnm2 d2, gwd d5, gwd2 d6, gb, gb2, hc0, to_normal, to_exit, to_ret, -decide_eq_true_eq, -decide_eq_false_iff_not, -List.any_eq_true, -List.any_eq_false, -bne_iff_ne, -beq_iff_eq, -beq_eq_false_iff_ne, -bne_eq_false_iff_eq]
          exact fin _ _ _ (by simp [a1]) (by simp) (by simp [hc0, b0]) (by omega)
        rcases hk with rfl | hk
        · have d1 := c4 (by decide)
          subst d1
          have d3 := c6 (by decide)
          subst d3
          have d5 := c8 (by decide)
          subst d5
          have d8 := c10 (by decide)
          simp -implicitDefEqProofs [a1, a4, b0, k1, k1', hy, hr, hc0', w2, d8, hc0, to_normal, to_exit, to_ret, -decide_eq_true_eq, -decide_eq_false_iff_not, -List.any_eq_true, -List.any_eq_false, -bne_iff_ne, -beq_iff_eq, -beq_eq_false_iff_ne, -bne_eq_false_iff_eq]
          exact fin _ _ _ (by simp [a1]) (by simp) (by simp [hc0, b0]) (by omega)
        subst hk
        have d1 := c4 (by decide)
        subst d1
        have d3 := c6 (by decide)
        subst d3
        have d5 := c8 (by decide)
        subst d5
        have d8 := c9 (by decide)
        subst d8
        simp -implicitDefEqProofs [a1, a4, b0, k1, k1', hy, hr, hc0', w2, hc0, to_normal, to_exit, to_ret, -decide_eq_true_eq, -decide_eq_false_iff_not, -List.any_eq_true, -List.any_eq_false, -bne_iff_ne, -beq_iff_eq, -beq_eq_false_iff_ne, -bne_eq_false_iff_eq]
        exact fin _ _ _ (by simp [a1]) (by simp) (by simp [hc0, b0]) (by omega)
      · have k1 : decide (i < code.length) = false := by simp; omega
        have k1' : decide ((i : Int) < (code.length : Int)) = false := by simp; omega
        simp -implicitDefEqProofs [a1, a4, b0, k1, k1', to_normal, to_exit, to_ret, -decide_eq_true_eq, -decide_eq_false_iff_not, -List.any_eq_true, -List.any_eq_false, -bne_iff_ne, -beq_iff_eq, -beq_eq_false_iff_ne, -bne_eq_false_iff_eq]
        exact ⟨rfl, by simp [a1], b0, hc⟩
    · rintro e ⟨t, h, c⟩ ⟨rfl, a1, b0, hc⟩
      simp only at a1 b0 hc
      simp -implicitDefEqProofs [a1, b0, Option.bind_assoc, -decide_eq_true_eq, -decide_eq_false_iff_not, -List.any_eq_true, -List.any_eq_false, -bne_iff_ne, -beq_iff_eq, -beq_eq_false_iff_ne, -bne_eq_false_iff_eq]
      refine loop_to (R := EOut) (RW3 nb cb names code) (fun e st => e = .exit 4) ?_ ?_ code.length _ ?_
      · rintro kk ⟨t, h, c⟩ ⟨i, rfl, hi, a1, a6, b0⟩
        simp only at a1 a6 b0
        by_cases g : i < code.length
        · have k1 : decide (i < code.length) = true := by simp [g]
          have k1' : decide ((i : Int) < (code.length : Int)) = true := by simp; omega
          have w2 : IntKind.i64.wrap ((i : Int) + 1) = ((i + 1 : Nat) : Int) := wrap_succ (by omega)
          obtain ⟨l, hy⟩ : ∃ l, code[i]? = some l := ⟨code[i], by simp [g]⟩
          have hm := List.mem_of_getElem? hy
          obtain ⟨b, hv⟩ := F l hm
          have hr := row_ro hv
          have hL := V.lns l hm
          have hb6 := hL.b6
          have hBo := hL.2.2.2.2.2.2.2.2.2.2
          simp -implicitDefEqProofs [a1, a6, b0, k1, k1', Option.bind_assoc, -decide_eq_true_eq, -decide_eq_false_iff_not, -List.any_eq_true, -List.any_eq_false, -bne_iff_ne, -beq_iff_eq, -beq_eq_false_iff_ne, -bne_eq_false_iff_eq]
          refine loop_to (R := RoundTo (RW3 nb cb names code) (fun e st => e = .exit 4) (code.length - i)) (RW4 nb cb names code i l) (RW4E nb cb names code i) ?_ ?_ l.bodies.length _ ?_
          · rintro kk ⟨t, h, c⟩ ⟨j, rfl, hj, a1, a6, a7, b0⟩
            simp only at a1 a6 a7 b0
            by_cases g : j < l.bodies.length
            · have k1 : decide (j < l.bodies.length) = true := by simp [g]
              have k1' : decide ((j : Int) < (l.bodies.length : Int)) = true := by simp; omega
              have w2 : IntKind.i64.wrap ((j : Int) + 1) = ((j + 1 : Nat) : Int) := wrap_succ (by omega)
              obtain ⟨b1, hb1⟩ : ∃ b1, l.bodies[j]? = some b1 := ⟨l.bodies[j], by simp [g]⟩
              obtain ⟨B1, B2⟩ := hBo b1 (List.mem_of_getElem? hb1)
              have hmin : min names.length 16 = names.length := by omega
              rw [hmin] at B1
              have e3 := fun h c => rexp_c false names.length b1 B1 B2 h c
              simp only [opsE] at e3
              simp -implicitDefEqProofs [a1, a6, a7, b0, hy, hr, k1, k1', hb1, e3, w2, to_normal, to_exit, to_ret, -decide_eq_true_eq, -decide_eq_false_iff_not, -List.any_eq_true, -List.any_eq_false, -bne_iff_ne, -beq_iff_eq, -beq_eq_false_iff_ne, -bne_eq_false_iff_eq]
              exact ⟨l.bodies.length - (j + 1), by omega, j + 1, rfl, by omega, by simp [a1], by simp [a6], by simp, b0⟩
            · have k1 : decide (j < l.bodies.length) = false := by simp; omega
              have k1' : decide ((j : Int) < (l.bodies.length : Int)) = false := by simp; omega
              simp -implicitDefEqProofs [a1, a6, a7, b0, hy, hr, k1, k1', to_normal, to_exit, to_ret, -decide_eq_true_eq, -decide_eq_false_iff_not, -List.any_eq_true, -List.any_eq_false, -bne_iff_ne, -beq_iff_eq, -beq_eq_false_iff_ne, -bne_eq_false_iff_eq]
              exact ⟨rfl, by simp [a1], by simp [a6], b0⟩
          · rintro e ⟨t, h, c⟩ ⟨rfl, a1, a6, b0⟩
            simp only at a1 a6 b0
            simp -implicitDefEqProofs [a1, a6, w2, to_normal, to_exit, to_ret, -decide_eq_true_eq, -decide_eq_false_iff_not, -List.any_eq_true, -List.any_eq_false, -bne_iff_ne, -beq_iff_eq, -beq_eq_false_iff_ne, -bne_eq_false_iff_eq]
            exact ⟨code.length - (i + 1), by omega, i + 1, rfl, by omega, by simp [a1], by simp, b0⟩
          · exact ⟨0, by simp, by simp, by simp [a1], by simp [a6], by simp, b0⟩
        · have k1 : decide (i < code.length) = false := by simp; omega
          have k1' : decide ((i : Int) < (code.length : Int)) = false := by simp; omega
          simp -implicitDefEqProofs [a1, a6, b0, k1, k1', to_normal, to_exit, to_ret, -decide_eq_true_eq, -decide_eq_false_iff_not, -List.any_eq_true, -List.any_eq_false, -bne_iff_ne, -beq_iff_eq, -beq_eq_false_iff_ne, -bne_eq_false_iff_eq]
      · rintro e ⟨t, h, c⟩ rfl
        simp -implicitDefEqProofs [-decide_eq_true_eq, -decide_eq_false_iff_not, -List.any_eq_true, -List.any_eq_false, -bne_iff_ne, -beq_iff_eq, -beq_eq_false_iff_ne, -bne_eq_false_iff_eq]
        exact ⟨_, _, rfl⟩
      · exact ⟨0, by simp, by simp, by simp [a1], by simp, b0⟩
    · exact ⟨0, by simp, by simp, by simp [a1], by simp, b0, hc⟩
  · exact ⟨0, by simp, by simp, by simp, by simp, by simp, by simp⟩
theorem rvalidate_c (F : FrzC code) (V : ValidP names code) (h : Heap) (c : Nat) : callA mZ (run Tryz.prog mZ) 28 [progV nb cb names code] h c = some (E 0, h, c) := by
  obtain ⟨h', c', e⟩ := rvalidate_ev (nb := nb) (cb := cb) F V
  exact call_of rfl rfl e rfl rfl
theorem rstart_ev (F : FrzC code) (V : ValidP names code) : ∃ (h : Heap) (c : Nat), run Tryz.prog mZ 10 [progV nb cb names code] Heap.none 0 = some (.tup [.agg [I 0, .sl 2 1 0 names.length, I 0, I 0, B false], E 0], h, c) ∧ h 2 = some ⟨1, nums (zeros names.length), some 3⟩ := by
  rw [run_eq (show mZ 10 = some .pure from rfl) rfl, Tryz.func10]
  have e1 := fun h c => rvalidate_c (nb := nb) (cb := cb) F V h c
  have hn16 := V.n16
  have hmk := fun h c => make_c names.length (by omega) h c
  simp -implicitDefEqProofs [Tryz.f10, e1, -makeA, hmk, -decide_eq_true_eq, -decide_eq_false_iff_not, -List.any_eq_true, -List.any_eq_false, -bne_iff_ne, -beq_iff_eq, -beq_eq_false_iff_ne, -bne_eq_false_iff_eq]
theorem frz_start {h' : Heap} {q : Nat} (hn : h' 2 = some ⟨1, nums (zeros q), some 3⟩) : frz h' depth (.tup [.agg [I 0, .sl 2 1 0 q, I 0, I 0, B false], E 0]) = some (.tup [(⟨0, zeros q, 0, 0, false⟩ : Rn).av, E 0]) := by
  have h1 : frz h' 10 (.sl 2 1 0 (zeros q).length) = some (.ro false (nums (zeros q))) := by
    have hel : els h' (.sl 2 1 0 (zeros q).length) = some (nums (zeros q)) := by
      simp only [els, hn, Option.bind_some, List.drop_zero, Nat.zero_add]
      rw [List.take_of_length_le (by simp)]
      simp
    show ((els h' (.sl 2 1 0 (zeros q).length)).bind fun es => (es.mapM fun (e : List AV) => e.mapM (frz h' 9)).map (AV.ro false)) = some (AV.ro false (nums (zeros q)))
    rw [hel, Option.bind_some, frzN]
    rfl
  rw [show (zeros q).length = q by simp] at h1
  show (([.agg [I 0, .sl 2 1 0 q, I 0, I 0, B false], E 0] : List AV).mapM (frz h' 11)).map AV.tup = _
  have h2 : frz h' 11 (.agg [I 0, .sl 2 1 0 q, I 0, I 0, B false]) = some (⟨0, zeros q, 0, 0, false⟩ : Rn).av := by
    rw [frz_agg]
    simp only [List.mapM_cons, List.mapM_nil, h1]
    rfl
  simp only [List.mapM_cons, List.mapM_nil, h2]
  rfl
theorem rstart_c (F : FrzC code) (V : ValidP names code) (h : Heap) (c : Nat) : callA mZ (run Tryz.prog mZ) 10 [progV nb cb names code] h c = some (.tup [(⟨0, zeros names.length, 0, 0, false⟩ : Rn).av, E 0], h, c) := by
  obtain ⟨h', c', e, hn⟩ := rstart_ev (nb := nb) (cb := cb) F V
  exact call_fz rfl rfl rfl e (frz_start hn)
theorem start_ok (V : ValidP names code) : RunOk names code ⟨0, zeros names.length, 0, 0, false⟩ := ⟨by simp, by simp, okV_zeros _, .inl ⟨rfl, rfl, rfl⟩⟩
end
end Go.Proofs.YtmpcjfkfgjpebaaGreatDoor.AM
namespace Go.Proofs.YtmpcjfkfgjpebaaGreatDoor.AM
open Go Go.Proofs
attribute [local simp] fieldAddrA ld setCells stA skipV appendA hd makeA bnd kindA freshA killOk loadsAt edgesOn Region.binds newT empT lay_get allocA buildA buildRow lenA els indexAddrA isNil opA evA lit_int lit_bool lit_nil lit_nilf yldA binI unA pickA boolV intV fieldA mk eqs nilC mayP
/-- What a run tells. -/
structure Ev where
  k : Int
  w : Int
  vals : List Int
abbrev Ev.av (e : Ev) (b : Bool) : AV := .agg [I e.k, I e.w, .ro b (nums e.vals)]
/-- An element is acted. -/
def stepR (l : Ln) (r : Rn) : Rn × Ev :=
  let vals := valsP r.vs l
  let v0 := vals.getD 0 0
  if l.kind = 0 then ({ r with at_ := r.at_ + 1, vs := r.vs.set l.nm.toNat v0 }, ⟨0, 0, []⟩) else
  if l.kind = 1 then ({ r with at_ := l.to.toNat }, ⟨0, 0, []⟩) else
  if l.kind = 2 then ({ r with at_ := if v0 = 0 then l.to.toNat else r.at_ + 1 }, ⟨0, 0, []⟩) else
  if l.kind = 3 then ({ r with at_ := r.at_ + 1, y := 1 }, ⟨1, l.wd, vals⟩) else
  if l.kind = 4 then ({ r with at_ := r.at_ + 1, y := 2 }, ⟨2, l.wd, vals⟩) else
  if l.kind = 5 then (if 0 < v0 then ({ r with at_ := r.at_ + 1, x := if 1000000 < v0 then 1000000 else v0 }, ⟨3, 0, []⟩) else ({ r with at_ := r.at_ + 1 }, ⟨0, 0, []⟩)) else
  ({ r with at_ := r.at_ + 1, z := true }, ⟨4, 0, []⟩)
abbrev rnB (n : Nat) (r : Rn) : Blk := ⟨5, [[I r.at_, .sl n 1 0 r.vs.length, I r.x, I r.y, B r.z]], some 32⟩
section
variable {nn len : Nat} {l : Ln} {bb : Bool} {r : Rn} {h : Heap} {c m n : Nat}
def ActO (m n : Nat) (h : Heap) (c : Nat) (r' : Rn) (e : Ev) (o : Option (AV × Heap × Nat)) : Prop := ∃ (h' : Heap) (c' : Nat) (b : Bool), o = some (e.av b, h', c') ∧ h' m = some (rnB n r') ∧ h' n = some ⟨1, nums r'.vs, some 3⟩ ∧ c ≤ c' ∧ ∀ j, j < c → j ≠ m → j ≠ n → h' j = h j
theorem frz_vs {vs : List Int} (hn : h n = some ⟨1, nums vs, some 3⟩) : frz h depth (.sl n 1 0 vs.length) = some (.ro false (nums vs)) := frz_sl vs hn
theorem nums_set (vs : List Int) (j : Nat) (x : Int) : (nums vs).set j [I x] = nums (vs.set j x) := by simp [List.map_set]
theorem act_ev (hL : LnP nn len l) (hv : l.pv = .ro bb (bodR l.bodies)) (hnn : nn ≤ 16) (hvo : okV r.vs) (hvl : r.vs.length = nn) (hr : r.y = 0 ∧ r.x = 0 ∧ r.z = false) (hat : r.at_ ≤ 200)
    (hm : h m = some (rnB n r)) (hn : h n = some ⟨1, nums r.vs, some 3⟩) (hmc : m < c) (hnc : n < c) (hmn : m ≠ n) : ActO m n h c (stepR l r).1 (stepR l r).2 (callA mZ (run Tryz.prog mZ) 36 [.agg l.row, .ptr m 0 0] h c) := by
  rw [call_heap rfl, run_eq (show mZ 36 = some .heap from rfl) rfl, Tryz.func36]
  have hb6 := hL.b6
  obtain ⟨c1, c2, c3, c4, c5, c6, c7, c8, c9, c10, hBo⟩ := hL
  have hmin : min nn 16 = nn := by omega
  rw [hmin] at hBo
  obtain ⟨b', e69⟩ := eval_c (b2 := false) hv hBo hb6 hvo hvl (by omega)
  obtain ⟨at0, vs, x, y, z⟩ := r
  obtain ⟨rfl, rfl, rfl⟩ := hr
  simp only at hvo hvl hat hm hn e69
  have hrow := row_ro hv
  rw [hrow] at e69 ⊢
  have w1 : IntKind.i64.wrap ((at0 : Int) + 1) = ((at0 + 1 : Nat) : Int) := wrap_succ (by omega)
  have hmc0 : m ≠ c := by omega
  have hmc1 : m ≠ c + 1 := by omega
  have hnc0 : n ≠ c := by omega
  have hnc1 : n ≠ c + 1 := by omega
  have hmc0' : c ≠ m := by omega
  have hmc1' : c + 1 ≠ m := by omega
  have hnc0' : c ≠ n := by omega
  have hnc1' : c + 1 ≠ n := by omega
  have hnm : n ≠ m := fun e => hmn e.symm
  have e70 : ∀ (X : Blk), callA mZ (run Tryz.prog mZ) 69 [.agg [I l.kind, I l.nm, I l.to, I l.wd, .ro bb (bodR l.bodies)], .sl n 1 0 vs.length] ((h.put c (some ⟨5, [[I l.kind, I l.nm, I l.to, I l.wd, .ro bb (bodR l.bodies)]], some 52⟩)).put (c + 1) (some X)) (c + 2) = some (.ro b' (nums (valsP vs l)), (h.put c (some ⟨5, [[I l.kind, I l.nm, I l.to, I l.wd, .ro bb (bodR l.bodies)]], some 52⟩)).put (c + 1) (some X), c + 2) := by
    intro X
    exact e69 _ _ _ (frz_sl vs (by simp [hnc0, hnc1, hn]))
  have hfr : ∀ (b1 b2 : Option Blk) (j : Nat), j < c → j ≠ m → j ≠ n → ((h.put c b1).put (c + 1) b2) j = h j := by
    intro b1 b2 j hj _ _
    have a1 : j ≠ c := by omega
    have a2 : j ≠ c + 1 := by omega
    simp [a1, a2]
  have u0 : IntKind.i64.wrap (3 - 3) = 0 := by kernel_rfl
  have u1 : IntKind.i64.wrap (4 - 3) = 1 := by kernel_rfl
  have u2 : IntKind.i64.wrap (0 + 1) = 1 := by kernel_rfl
  have u3 : IntKind.i64.wrap (1 + 1) = 2 := by kernel_rfl
  have u4 : IntKind.i64.wrap 0 = 0 := by kernel_rfl
  have u5 : IntKind.i64.wrap 1 = 1 := by kernel_rfl
  have u6 : IntKind.i64.wrap 2 = 2 := by kernel_rfl
  clear e69
  obtain ⟨k, nm, to, wd, pv, bodies⟩ := l
  simp only at c1 c2 c3 c4 c5 c6 c7 c8 c9 c10 e70 hb6 ⊢
  have hk : k = 0 ∨ k = 1 ∨ k = 2 ∨ k = 3 ∨ k = 4 ∨ k = 5 ∨ k = 6 := by omega
  rcases hk with rfl | hk
  · have hb1 := c10 (by decide)
    obtain ⟨bd, rfl⟩ : ∃ bd, bodies = [bd] := List.length_eq_one_iff.1 hb1
    have hvals : valsP vs ⟨0, nm, to, wd, pv, [bd]⟩ = [evB vs bd] := rfl
    rw [hvals] at e70
    simp only [bodR, nums, List.map_cons, List.map_nil] at e70
    generalize hv0 : evB vs bd = v0 at *
    obtain ⟨d1, d2⟩ := c3 (by decide)
    obtain ⟨j, rfl⟩ : ∃ j : Nat, nm = j := ⟨nm.toNat, by omega⟩
    have hj : j < vs.length := by omega
    have hst : stepR ⟨0, (j : Int), to, wd, pv, [bd]⟩ ⟨at0, vs, 0, 0, false⟩ = (⟨at0 + 1, vs.set j v0, 0, 0, false⟩, ⟨0, 0, []⟩) := by simp [stepR, hv0]
    rw [hst]
    simp -implicitDefEqProofs [Tryz.f36, hm, hn, hmn, hnm, hmc0, hmc1, hnc0, hnc1, hmc0', hmc1', hnc0', hnc1', w1, u0, u1, u2, u3, u4, u5, u6, e70, hj, -decide_eq_true_eq, -decide_eq_false_iff_not, -List.any_eq_true, -List.any_eq_false, -bne_iff_ne, -beq_iff_eq, -beq_eq_false_iff_ne, -bne_eq_false_iff_eq]
    exact ⟨_, _, _, rfl, by simp [hn, hmn, hnm, hmc0, hmc1, hnc0, hnc1], by simp [hn, hmn, hnm, hmc0, hmc1, hnc0, hnc1], by omega, fun j hj h1 h2 => by simp [(show j ≠ c by omega), (show j ≠ c + 1 by omega), h1, h2]⟩
  rcases hk with rfl | hk
  · have hb1 := c9 (by decide)
    subst hb1
    obtain ⟨d1, d2⟩ := c5 (by decide)
    obtain ⟨j, rfl⟩ : ∃ j : Nat, to = j := ⟨to.toNat, by omega⟩
    have hst : stepR ⟨1, nm, (j : Int), wd, pv, []⟩ ⟨at0, vs, 0, 0, false⟩ = (⟨j, vs, 0, 0, false⟩, ⟨0, 0, []⟩) := by simp [stepR]
    rw [hst]
    simp only [valsP, bodR, nums, List.map_nil] at e70
    simp -implicitDefEqProofs [Tryz.f36, hm, hn, hmn, hnm, hmc0, hmc1, hnc0, hnc1, hmc0', hmc1', hnc0', hnc1', w1, u0, u1, u2, u3, u4, u5, u6, e70, -decide_eq_true_eq, -decide_eq_false_iff_not, -List.any_eq_true, -List.any_eq_false, -bne_iff_ne, -beq_iff_eq, -beq_eq_false_iff_ne, -bne_eq_false_iff_eq]
    exact ⟨_, _, _, rfl, by simp [hn, hmn, hnm, hmc0, hmc1, hnc0, hnc1], by simp [hn, hmn, hnm, hmc0, hmc1, hnc0, hnc1], by omega, fun j hj h1 h2 => by simp [(show j ≠ c by omega), (show j ≠ c + 1 by omega), h1, h2]⟩
  rcases hk with rfl | hk
  · have hb1 := c10 (by decide)
    obtain ⟨bd, rfl⟩ : ∃ bd, bodies = [bd] := List.length_eq_one_iff.1 hb1
    have hvals : valsP vs ⟨2, nm, to, wd, pv, [bd]⟩ = [evB vs bd] := rfl
    rw [hvals] at e70
    simp only [bodR, nums, List.map_cons, List.map_nil] at e70
    generalize hv0 : evB vs bd = v0 at *
    obtain ⟨d1, d2⟩ := c5 (by decide)
    obtain ⟨j, rfl⟩ : ∃ j : Nat, to = j := ⟨to.toNat, by omega⟩
    by_cases hz : v0 = 0
    · have hst : stepR ⟨2, nm, (j : Int), wd, pv, [bd]⟩ ⟨at0, vs, 0, 0, false⟩ = (⟨j, vs, 0, 0, false⟩, ⟨0, 0, []⟩) := by simp [stepR, hv0, hz]
      have hz1 : (v0 == 0) = true := by simpa using hz
      rw [hst]
      simp -implicitDefEqProofs [Tryz.f36, hm, hn, hmn, hnm, hmc0, hmc1, hnc0, hnc1, hmc0', hmc1', hnc0', hnc1', w1, u0, u1, u2, u3, u4, u5, u6, e70, hz1, -decide_eq_true_eq, -decide_eq_false_iff_not, -List.any_eq_true, -List.any_eq_false, -bne_iff_ne, -beq_iff_eq, -beq_eq_false_iff_ne, -bne_eq_false_iff_eq]
      exact ⟨_, _, _, rfl, by simp [hn, hmn, hnm, hmc0, hmc1, hnc0, hnc1], by simp [hn, hmn, hnm, hmc0, hmc1, hnc0, hnc1], by omega, fun j hj h1 h2 => by simp [(show j ≠ c by omega), (show j ≠ c + 1 by omega), h1, h2]⟩
    · have hst : stepR ⟨2, nm, (j : Int), wd, pv, [bd]⟩ ⟨at0, vs, 0, 0, false⟩ = (⟨at0 + 1, vs, 0, 0, false⟩, ⟨0, 0, []⟩) := by simp [stepR, hv0, hz]
      have hz1 : (v0 == 0) = false := by simpa using hz
      rw [hst]
      simp -implicitDefEqProofs [Tryz.f36, hm, hn, hmn, hnm, hmc0, hmc1, hnc0, hnc1, hmc0', hmc1', hnc0', hnc1', w1, u0, u1, u2, u3, u4, u5, u6, e70, hz1, -decide_eq_true_eq, -decide_eq_false_iff_not, -List.any_eq_true, -List.any_eq_false, -bne_iff_ne, -beq_iff_eq, -beq_eq_false_iff_ne, -bne_eq_false_iff_eq]
      exact ⟨_, _, _, rfl, by simp [hn, hmn, hnm, hmc0, hmc1, hnc0, hnc1], by simp [hn, hmn, hnm, hmc0, hmc1, hnc0, hnc1], by omega, fun j hj h1 h2 => by simp [(show j ≠ c by omega), (show j ≠ c + 1 by omega), h1, h2]⟩
  rcases hk with rfl | hk
  · have hst : stepR ⟨3, nm, to, wd, pv, bodies⟩ ⟨at0, vs, 0, 0, false⟩ = (⟨at0 + 1, vs, 0, 1, false⟩, ⟨1, wd, valsP vs ⟨3, nm, to, wd, pv, bodies⟩⟩) := by simp [stepR]
    rw [hst]
    generalize valsP vs ⟨3, nm, to, wd, pv, bodies⟩ = vals at *
    simp -implicitDefEqProofs [Tryz.f36, hm, hn, hmn, hnm, hmc0, hmc1, hnc0, hnc1, hmc0', hmc1', hnc0', hnc1', w1, u0, u1, u2, u3, u4, u5, u6, e70, -decide_eq_true_eq, -decide_eq_false_iff_not, -List.any_eq_true, -List.any_eq_false, -bne_iff_ne, -beq_iff_eq, -beq_eq_false_iff_ne, -bne_eq_false_iff_eq]
    exact ⟨_, _, _, rfl, by simp [hn, hmn, hnm, hmc0, hmc1, hnc0, hnc1], by simp [hn, hmn, hnm, hmc0, hmc1, hnc0, hnc1], by omega, fun j hj h1 h2 => by simp [(show j ≠ c by omega), (show j ≠ c + 1 by omega), h1, h2]⟩
  rcases hk with rfl | hk
  · have hst : stepR ⟨4, nm, to, wd, pv, bodies⟩ ⟨at0, vs, 0, 0, false⟩ = (⟨at0 + 1, vs, 0, 2, false⟩, ⟨2, wd, valsP vs ⟨4, nm, to, wd, pv, bodies⟩⟩) := by simp [stepR]
    rw [hst]
    generalize valsP vs ⟨4, nm, to, wd, pv, bodies⟩ = vals at *
    simp -implicitDefEqProofs [Tryz.f36, hm, hn, hmn, hnm, hmc0, hmc1, hnc0, hnc1, hmc0', hmc1', hnc0', hnc1', w1, u0, u1, u2, u3, u4, u5, u6, e70, -decide_eq_true_eq, -decide_eq_false_iff_not, -List.any_eq_true, -List.any_eq_false, -bne_iff_ne, -beq_iff_eq, -beq_eq_false_iff_ne, -bne_eq_false_iff_eq]
    exact ⟨_, _, _, rfl, by simp [hn, hmn, hnm, hmc0, hmc1, hnc0, hnc1], by simp [hn, hmn, hnm, hmc0, hmc1, hnc0, hnc1], by omega, fun j hj h1 h2 => by simp [(show j ≠ c by omega), (show j ≠ c + 1 by omega), h1, h2]⟩
  rcases hk with rfl | hk
  · have hb1 := c10 (by decide)
    obtain ⟨bd, rfl⟩ : ∃ bd, bodies = [bd] := List.length_eq_one_iff.1 hb1
    have hvals : valsP vs ⟨5, nm, to, wd, pv, [bd]⟩ = [evB vs bd] := rfl
    rw [hvals] at e70
    simp only [bodR, nums, List.map_cons, List.map_nil] at e70
    generalize hv0 : evB vs bd = v0 at *
    by_cases hz : 0 < v0
    · have hst : stepR ⟨5, nm, to, wd, pv, [bd]⟩ ⟨at0, vs, 0, 0, false⟩ = (⟨at0 + 1, vs, if 1000000 < v0 then 1000000 else v0, 0, false⟩, ⟨3, 0, []⟩) := by simp [stepR, hv0, hz]
      have hz1 : decide (0 < v0) = true := by simpa using hz
      rw [hst]
      simp -implicitDefEqProofs [Tryz.f36, hm, hn, hmn, hnm, hmc0, hmc1, hnc0, hnc1, hmc0', hmc1', hnc0', hnc1', w1, u0, u1, u2, u3, u4, u5, u6, e70, hz1, -decide_eq_true_eq, -decide_eq_false_iff_not, -List.any_eq_true, -List.any_eq_false, -bne_iff_ne, -beq_iff_eq, -beq_eq_false_iff_ne, -bne_eq_false_iff_eq]
      exact ⟨_, _, _, rfl, by simp [hn, hmn, hnm, hmc0, hmc1, hnc0, hnc1], by simp [hn, hmn, hnm, hmc0, hmc1, hnc0, hnc1], by omega, fun j hj h1 h2 => by simp [(show j ≠ c by omega), (show j ≠ c + 1 by omega), h1, h2]⟩
    · have hst : stepR ⟨5, nm, to, wd, pv, [bd]⟩ ⟨at0, vs, 0, 0, false⟩ = (⟨at0 + 1, vs, 0, 0, false⟩, ⟨0, 0, []⟩) := by simp [stepR, hv0, hz]
      have hz1 : decide (0 < v0) = false := by simpa using hz
      rw [hst]
      simp -implicitDefEqProofs [Tryz.f36, hm, hn, hmn, hnm, hmc0, hmc1, hnc0, hnc1, hmc0', hmc1', hnc0', hnc1', w1, u0, u1, u2, u3, u4, u5, u6, e70, hz1, -decide_eq_true_eq, -decide_eq_false_iff_not, -List.any_eq_true, -List.any_eq_false, -bne_iff_ne, -beq_iff_eq, -beq_eq_false_iff_ne, -bne_eq_false_iff_eq]
      exact ⟨_, _, _, rfl, by simp [hn, hmn, hnm, hmc0, hmc1, hnc0, hnc1], by simp [hn, hmn, hnm, hmc0, hmc1, hnc0, hnc1], by omega, fun j hj h1 h2 => by simp [(show j ≠ c by omega), (show j ≠ c + 1 by omega), h1, h2]⟩
  subst hk
  have hb1 := c9 (by decide)
  subst hb1
  have hst : stepR ⟨6, nm, to, wd, pv, []⟩ ⟨at0, vs, 0, 0, false⟩ = (⟨at0 + 1, vs, 0, 0, true⟩, ⟨4, 0, []⟩) := by simp [stepR]
  rw [hst]
  simp only [valsP, bodR, nums, List.map_nil] at e70
  simp -implicitDefEqProofs [Tryz.f36, hm, hn, hmn, hnm, hmc0, hmc1, hnc0, hnc1, hmc0', hmc1', hnc0', hnc1', w1, u0, u1, u2, u3, u4, u5, u6, e70, -decide_eq_true_eq, -decide_eq_false_iff_not, -List.any_eq_true, -List.any_eq_false, -bne_iff_ne, -beq_iff_eq, -beq_eq_false_iff_ne, -bne_eq_false_iff_eq]
  exact ⟨_, _, _, rfl, by simp [hn, hmn, hnm, hmc0, hmc1, hnc0, hnc1], by simp [hn, hmn, hnm, hmc0, hmc1, hnc0, hnc1], by omega, fun j hj h1 h2 => by simp [(show j ≠ c by omega), (show j ≠ c + 1 by omega), h1, h2]⟩
end
end Go.Proofs.YtmpcjfkfgjpebaaGreatDoor.AM
namespace Go.Proofs.YtmpcjfkfgjpebaaGreatDoor.AM
open Go Go.Proofs
attribute [local simp] fieldAddrA ld setCells stA skipV appendA hd makeA bnd kindA freshA killOk loadsAt edgesOn Region.binds newT empT lay_get allocA buildA buildRow lenA els indexAddrA isNil opA evA lit_int lit_bool lit_nil lit_nilf yldA binI unA pickA boolV intV fieldA mk eqs nilC mayP
theorem fold_in {na : Nat} {vs : List Int} (hv : okV vs) : ∀ (b : List (Int × Int)) (st : List Int) (n' : Nat), hgt na b st.length = some n' → (∀ n ∈ st, inR n) → ∀ n ∈ b.foldl (stepP vs) st, inR n
  | [], st, _, _, h => h
  | q :: b, st, n', H, h => by
    simp only [hgt] at H
    split at H
    · rename_i g
      obtain ⟨g1, g2⟩ := g
      rw [← stepP_len (na := na) (vs := vs) g2] at H
      exact fold_in hv b _ n' H (stepP_in g1 hv h)
    · cases H
theorem evB_in {na : Nat} {vs : List Int} {b : List (Int × Int)} (hB : Bal na b) (hv : okV vs) : inR (evB vs b) :=
  getD_in (fold_in hv b [] 1 (hB 0) (fun n hn => by cases hn)) 0
def calm (r : Rn) : Prop := r.y = 0 ∧ r.x = 0 ∧ r.z = false
/-- A turn. -/
def goP (code : List Ln) (t : Nat) : Nat → Nat → Rn → Rn × Ev × Nat
  | 0, s, r => (r, ⟨0, 0, []⟩, s)
  | f + 1, s, r => match code[r.at_]? with
    | none => ({ r with z := true }, ⟨4, 0, []⟩, s)
    | some l => if t < s + costP l then (r, ⟨0, 0, []⟩, s) else if (stepR l r).2.k = 0 then goP code t f (s + costP l) (stepR l r).1 else ((stepR l r).1, (stepR l r).2, s + costP l)
section
variable {names : List Str} {code : List Ln} {r : Rn}
theorem set_okV {vs : List Int} (h : okV vs) {j : Nat} {x : Int} (hx : inR x) : okV (vs.set j x) := fun n hn => by
  rcases List.mem_or_eq_of_mem_set hn with h1 | h1
  · exact h n h1
  · rw [h1]; exact kept_id hx
theorem step_ok (V : ValidP names code) (R : RunOk names code r) (hr : calm r) {l : Ln} (hl : code[r.at_]? = some l) :
    RunOk names code (stepR l r).1 ∧ ((stepR l r).2.k = 0 → calm (stepR l r).1) ∧ ((stepR l r).2.k = 1 ∨ (stepR l r).2.k = 2 → (stepR l r).1.y ≠ 0) := by
  have hat := (List.getElem?_eq_some_iff.1 hl).1
  have hL := V.lns l (List.mem_of_getElem? hl)
  obtain ⟨x1, x2, x3, x4, x5, x6, x7, x8, x9, x10, hBo⟩ := hL
  have hn16 := V.n16
  have hmin : min names.length 16 = names.length := by omega
  rw [hmin] at hBo
  have hvl := R.vl
  have hvo := R.vo
  obtain ⟨at0, vs, x, y, z⟩ := r
  obtain ⟨rfl, rfl, rfl⟩ := hr
  simp only at hvl hvo hat hl
  have hv0 : inR ((valsP vs l).getD 0 0) := by
    rw [List.getD_eq_getElem?_getD]
    cases hb : (valsP vs l)[0]? with
    | none => unfold inR; simp
    | some v =>
      rw [List.getElem?_map] at hb
      obtain ⟨bd, h1, rfl⟩ := Option.map_eq_some_iff.1 hb
      exact evB_in (hBo bd (List.mem_of_getElem? h1)).1 hvo
  have hbeh : ∀ k : Int, l.kind = k → behP code (at0 + 1) = k := fun k hk => by
    unfold behP
    rw [if_neg (by omega), Nat.add_sub_cancel, hl]
    exact hk
  have hk : l.kind = 0 ∨ l.kind = 1 ∨ l.kind = 2 ∨ l.kind = 3 ∨ l.kind = 4 ∨ l.kind = 5 ∨ l.kind = 6 := by omega
  rcases hk with hk | hk | hk | hk | hk | hk | hk
  · have e : stepR l ⟨at0, vs, 0, 0, false⟩ = (⟨at0 + 1, vs.set l.nm.toNat ((valsP vs l).getD 0 0), 0, 0, false⟩, ⟨0, 0, []⟩) := by simp [stepR, hk]
    rw [e]
    exact ⟨⟨hat, by simp [hvl], set_okV hvo hv0, .inl ⟨rfl, rfl, rfl⟩⟩, fun _ => ⟨rfl, rfl, rfl⟩, fun h => by rcases h with h | h <;> cases h⟩
  · have e : stepR l ⟨at0, vs, 0, 0, false⟩ = (⟨l.to.toNat, vs, 0, 0, false⟩, ⟨0, 0, []⟩) := by simp [stepR, hk]
    have := x5 (by omega)
    rw [e]
    exact ⟨⟨by simp only; omega, hvl, hvo, .inl ⟨rfl, rfl, rfl⟩⟩, fun _ => ⟨rfl, rfl, rfl⟩, fun h => by rcases h with h | h <;> cases h⟩
  · have e : stepR l ⟨at0, vs, 0, 0, false⟩ = (⟨if (valsP vs l).getD 0 0 = 0 then l.to.toNat else at0 + 1, vs, 0, 0, false⟩, ⟨0, 0, []⟩) := by simp [stepR, hk]
    have := x5 (by omega)
    rw [e]
    exact ⟨⟨by simp only; split <;> omega, hvl, hvo, .inl ⟨rfl, rfl, rfl⟩⟩, fun _ => ⟨rfl, rfl, rfl⟩, fun h => by rcases h with h | h <;> cases h⟩
  · have e : stepR l ⟨at0, vs, 0, 0, false⟩ = (⟨at0 + 1, vs, 0, 1, false⟩, ⟨1, l.wd, valsP vs l⟩) := by simp [stepR, hk]
    rw [e]
    exact ⟨⟨hat, hvl, hvo, .inr (.inr (.inr (.inl ⟨rfl, rfl, rfl, hbeh 3 hk⟩)))⟩, (fun h => by cases h), fun _ => by simp⟩
  · have e : stepR l ⟨at0, vs, 0, 0, false⟩ = (⟨at0 + 1, vs, 0, 2, false⟩, ⟨2, l.wd, valsP vs l⟩) := by simp [stepR, hk]
    rw [e]
    exact ⟨⟨hat, hvl, hvo, .inr (.inr (.inr (.inr ⟨rfl, rfl, rfl, hbeh 4 hk⟩)))⟩, (fun h => by cases h), fun _ => by simp⟩
  · by_cases g : 0 < (valsP vs l).getD 0 0
    · have e : stepR l ⟨at0, vs, 0, 0, false⟩ = (⟨at0 + 1, vs, if 1000000 < (valsP vs l).getD 0 0 then 1000000 else (valsP vs l).getD 0 0, 0, false⟩, ⟨3, 0, []⟩) := by
        unfold stepR
        simp only [hk]
        rw [if_pos g]
        simp
      rw [e]
      exact ⟨⟨hat, hvl, hvo, .inr (.inr (.inl ⟨rfl, by simp only; split <;> omega, by simp only; split <;> omega, rfl, hbeh 5 hk⟩))⟩, (fun h => by cases h), fun h => by rcases h with h | h <;> cases h⟩
    · have e : stepR l ⟨at0, vs, 0, 0, false⟩ = (⟨at0 + 1, vs, 0, 0, false⟩, ⟨0, 0, []⟩) := by
        unfold stepR
        simp only [hk]
        rw [if_neg g]
        simp
      rw [e]
      exact ⟨⟨hat, hvl, hvo, .inl ⟨rfl, rfl, rfl⟩⟩, fun _ => ⟨rfl, rfl, rfl⟩, fun h => by rcases h with h | h <;> cases h⟩
  · have e : stepR l ⟨at0, vs, 0, 0, false⟩ = (⟨at0 + 1, vs, 0, 0, true⟩, ⟨4, 0, []⟩) := by simp [stepR, hk]
    rw [e]
    exact ⟨⟨hat, hvl, hvo, .inr (.inl ⟨rfl, rfl, rfl, .inr (hbeh 6 hk)⟩)⟩, (fun h => by cases h), fun h => by rcases h with h | h <;> cases h⟩
theorem goP_ok (V : ValidP names code) {t : Nat} : ∀ (f s : Nat) (r : Rn), RunOk names code r → calm r → RunOk names code (goP code t f s r).1 ∧ ((goP code t f s r).2.1.k = 1 ∨ (goP code t f s r).2.1.k = 2 → (goP code t f s r).1.y ≠ 0)
  | 0, s, r, R, _ => ⟨R, fun h => by rcases h with h | h <;> cases h⟩
  | f + 1, s, r, R, hr => by
    simp only [goP]
    cases hl : code[r.at_]? with
    | none =>
      have hlen : r.at_ = code.length := by
        have := List.getElem?_eq_none_iff.1 hl
        have := R.a
        omega
      simp only
      obtain ⟨h1, h2, h3⟩ := hr
      exact ⟨⟨R.a, R.vl, R.vo, .inr (.inl ⟨h1, h2, rfl, .inl hlen⟩)⟩, fun h => by rcases h with h | h <;> cases h⟩
    | some l =>
      simp only
      split
      · exact ⟨R, fun h => by rcases h with h | h <;> cases h⟩
      · obtain ⟨R', hc, hy⟩ := step_ok V R hr hl
        split
        · rename_i g
          exact goP_ok V f _ _ R' (hc g)
        · exact ⟨R', hy⟩
/-- A turn of whatever run. -/
def goF (code : List Ln) (t : Nat) (r : Rn) : Rn × Ev × Nat := if r.y = 0 ∧ r.x = 0 ∧ r.z = false then goP code t (t + 1) 0 r else (r, ⟨5, 0, []⟩, 0)
theorem goF_ok (V : ValidP names code) {t : Nat} (R : RunOk names code r) : RunOk names code (goF code t r).1 ∧ ((goF code t r).2.1.k = 1 ∨ (goF code t r).2.1.k = 2 → (goF code t r).1.y ≠ 0) := by
  unfold goF
  split
  · rename_i g
    exact goP_ok V _ _ _ R g
  · exact ⟨R, fun h => by rcases h with h | h <;> cases h⟩
end
end Go.Proofs.YtmpcjfkfgjpebaaGreatDoor.AM
