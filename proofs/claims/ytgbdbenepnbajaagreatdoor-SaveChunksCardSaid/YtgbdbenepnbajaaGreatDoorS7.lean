/- Texts of the proof: part S7. -/
import Derived.Test.YtgbdbenepnbajaaGreatDoorS6
set_option maxHeartbeats 0
set_option maxRecDepth 8000
set_option linter.unusedSimpArgs false
set_option linter.unusedVariables false
set_option linter.unusedSectionVars false
namespace Go.Proofs.YtgbdbenepnbajaaGreatDoor.AM
open Go Go.Proofs
attribute [local simp] fieldAddrA ld setCells stA skipV appendA hd makeA bnd kindA freshA killOk loadsAt edgesOn Region.binds newT empT lay_get allocA buildA buildRow lenA els indexAddrA isNil opA evA lit_int lit_bool lit_nil lit_nilf yldA binI unA pickA boolV intV fieldA mk eqs eqK nilC mayP sliceA shA
theorem whole_c {nb : Bool} {k q : Nat} {h : Heap} {c : Nat} {l : List Int} {n0 : Int} (hkq : k ≠ q) (hk : k < c) (hq : q < c) (a : h k = some (cdB nb l false)) (b : h q = some (iB n0)) :
    WO nb c k q h (vP l 0 0) (callA mL (run Tryz.prog mL) 35 [.ptr k 0 0, .ptr q 0 0] h c) := by
  rw [call_heap rfl]
  exact whole_ev hkq hk hq a b
/-- A length, and what is left behind it. -/
def lenP (l : List Int) : Option (Int × List Int) := match vP l 0 0 with
  | none => none
  | some (u, r) => if dcI u < 0 ∨ (r.length : Int) < dcI u then none else some (dcI u, r)
def LO (nb : Bool) (c0 k q : Nat) (h0 : Heap) (res : Option (Int × List Int)) (o : Option (AV × Heap × Nat)) : Prop := ∃ h' c', o = some (.tup [], h', c') ∧ c0 ≤ c' ∧ Same c0 k q h0 h' ∧
  ((∃ n r, res = some (n, r) ∧ h' k = some (cdB nb r false) ∧ h' q = some (iB n)) ∨ (res = none ∧ (∃ l', h' k = some (cdB nb l' true)) ∧ h' q = some (iB 0)))
theorem length_c {nb : Bool} {k q : Nat} {h : Heap} {c : Nat} {l : List Int} {n0 : Int} (hkq : k ≠ q) (hk : k < c) (hq : q < c) (a : h k = some (cdB nb l false)) (b : h q = some (iB n0)) :
    LO nb c k q h (lenP l) (callA mL (run Tryz.prog mL) 17 [.ptr k 0 0, .ptr q 0 0] h c) := by
  rw [call_heap rfl, run_eq (show mL 17 = some .heap from rfl) rfl, Tryz.func17]
  have hqk : q ≠ k := fun e => hkq e.symm
  obtain ⟨h', c', e35, hc, hS, H⟩ := whole_c (nb := nb) (n0 := n0) hkq hk hq a b
  rcases H with ⟨u, r, hres, b1, b2⟩ | ⟨hres, ⟨l', b1⟩, b2⟩
  · have hl : lenP l = if dcI u < 0 ∨ (r.length : Int) < dcI u then none else some (dcI u, r) := by unfold lenP; rw [hres]
    generalize hn : dcI u = n at *
    by_cases g : n < 0 ∨ (r.length : Int) < n
    · rw [if_pos g] at hl
      cases g1 : decide (n < 0)
      · have g2 : decide ((r.length : Int) < n) = true := by
          rcases g with g | g
          · simp at g1; omega
          · simpa using g
        simp -implicitDefEqProofs [Tryz.f17, e35, b1, b2, g1, g2, hkq, hqk, -decide_eq_true_eq, -decide_eq_false_iff_not, -List.any_eq_true, -List.any_eq_false, -bne_iff_ne, -beq_iff_eq, -beq_eq_false_iff_ne, -bne_eq_false_iff_eq]
        exact ⟨_, _, rfl, hc, fun m h2 h3 h4 => by simp [h3, h4]; exact hS m h2 h3 h4, .inr ⟨hl, ⟨r, by simp [hkq]⟩, by simp⟩⟩
      · simp -implicitDefEqProofs [Tryz.f17, e35, b1, b2, g1, hkq, hqk, -decide_eq_true_eq, -decide_eq_false_iff_not, -List.any_eq_true, -List.any_eq_false, -bne_iff_ne, -beq_iff_eq, -beq_eq_false_iff_ne, -bne_eq_false_iff_eq]
        exact ⟨_, _, rfl, hc, fun m h2 h3 h4 => by simp [h3, h4]; exact hS m h2 h3 h4, .inr ⟨hl, ⟨r, by simp [hkq]⟩, by simp⟩⟩
    · rw [if_neg g] at hl
      have g1 : decide (n < 0) = false := by simp; omega
      have g2 : decide ((r.length : Int) < n) = false := by simp; omega
      simp -implicitDefEqProofs [Tryz.f17, e35, b1, b2, g1, g2, hkq, hqk, -decide_eq_true_eq, -decide_eq_false_iff_not, -List.any_eq_true, -List.any_eq_false, -bne_iff_ne, -beq_iff_eq, -beq_eq_false_iff_ne, -bne_eq_false_iff_eq]
      exact ⟨_, _, rfl, hc, hS, .inl ⟨n, r, hl, b1, b2⟩⟩
  · have hl : lenP l = none := by unfold lenP; rw [hres]
    simp -implicitDefEqProofs [Tryz.f17, e35, b1, b2, hkq, hqk, -decide_eq_true_eq, -decide_eq_false_iff_not, -List.any_eq_true, -List.any_eq_false, -bne_iff_ne, -beq_iff_eq, -beq_eq_false_iff_ne, -bne_eq_false_iff_eq]
    exact ⟨_, _, rfl, hc, fun m h2 h3 h4 => by simp [h3, h4]; exact hS m h2 h3 h4, .inr ⟨hl, ⟨l', by simp [hkq]⟩, by simp⟩⟩
/-- The sum of bytes. -/
def mulF (a : Int) : Int := IntKind.u32.wrap (a * 16777619)
def w32 (a : Int) : Int := IntKind.u32.wrap a
theorem bmul_F (a : Int) : binA Tryz.prog .mul 113 (.val (.int .u32 a)) (.val (.int .u32 16777619)) = some (.val (.int .u32 (mulF a))) := rfl
theorem cv_5_113' (h : Heap) (n : Int) : convA Tryz.prog 5 113 h (Y n) = some (.val (.int .u32 (w32 n))) := by rw [cv_5_113]; unfold w32; rfl
def stB (u x : Int) : Int := mulF (xorI .u32 u (w32 x))
def byP (l : List Int) : Int := IntKind.i64.wrap (l.foldl stB 2166136261)
theorem wrap_id' {i : Nat} (h : i ≤ 2000000) : IntKind.i64.wrap ((i : Int) + 1) = ((i + 1 : Nat) : Int) := by rw [wrap_id (by omega) (by omega)]; omega
def IOut (x : Int) (o : Option (AV × Heap × Nat)) : Prop := ∃ h c, o = some (I x, h, c)
theorem b_lss (a b : Int) : binA Tryz.prog .lss 3 (I a) (I b) = some (B (decide (a < b))) := rfl
theorem b_xor (a b : Int) : binA Tryz.prog .xor 113 (.val (.int .u32 a)) (.val (.int .u32 b)) = some (.val (.int .u32 (xorI .u32 a b))) := rfl
theorem b_add (a b : Int) : binA Tryz.prog .add 3 (I a) (I b) = some (I (IntKind.i64.wrap (a + b))) := rfl
/-- The step, for a kernel that would reckon. -/
theorem step_F : ∃ X : Int → Int → Int, ∃ M : Int → Int, (∀ a b, binA Tryz.prog .xor 113 (.val (.int .u32 a)) (.val (.int .u32 b)) = some (.val (.int .u32 (X a b)))) ∧ (∀ a, binA Tryz.prog .mul 113 (.val (.int .u32 a)) (.val (.int .u32 16777619)) = some (.val (.int .u32 (M a)))) ∧ ∀ u x, stB u x = M (X u (w32 x)) := ⟨xorI .u32, mulF, b_xor, bmul_F, fun _ _ => rfl⟩
def BI (nb : Bool) (l : List Int) (kk : Nat) (st : St) : Prop := ∃ (i : Nat) (u : Int), kk = l.length - i ∧ i ≤ l.length ∧ st.t 6 = .ro nb (bys l) ∧ st.t 7 = I l.length ∧ st.t 8 = I i ∧ st.t 3 = .val (.int .u32 u) ∧ byP l = IntKind.i64.wrap ((l.drop i).foldl stB u)
def BE (l : List Int) (e : Ex) (st : St) : Prop := e = .exit 0 ∧ ∃ u, st.t 3 = .val (.int .u32 u) ∧ byP l = IntKind.i64.wrap u
def RI (nb : Bool) (l : List Int) (kk : Nat) (st : St) : Prop := ∃ (i : Nat) (u : Int), kk = l.length - i ∧ i ≤ l.length ∧ st.t 0 = .ro nb (bys l) ∧ st.t 4 = I i ∧ st.t 3 = .val (.int .u32 u) ∧ byP l = IntKind.i64.wrap ((l.drop i).foldl stB u)
theorem bytes_ev (nb : Bool) (l : List Int) (hl : l.length ≤ 1000000) : IOut (byP l) (run Tryz.prog mL 12 [.ro nb (bys l)] Heap.none 0) := by
  obtain ⟨X, M, hX, hM, hst⟩ := step_F
  rw [run_eq (show mL 12 = some .pure from rfl) rfl, Tryz.func12]
  simp -implicitDefEqProofs [Tryz.f12, Option.bind_assoc, -decide_eq_true_eq, -decide_eq_false_iff_not, -List.any_eq_true, -List.any_eq_false, -bne_iff_ne, -beq_iff_eq, -beq_eq_false_iff_ne, -bne_eq_false_iff_eq]
  refine loop_to (R := IOut (byP l)) (BI nb l) (BE l) ?_ ?_ l.length _ ?_
  · rintro kk ⟨t, h, c⟩ ⟨i, u, rfl, hi, a6, a7, a8, a3, hu⟩
    simp only at a6 a7 a8 a3
    by_cases g : i < l.length
    · have g1 : decide (i < l.length) = true := by simp [g]
      have w1 : IntKind.i64.wrap ((i : Int) + 1) = ((i + 1 : Nat) : Int) := wrap_id' (by omega)
      obtain ⟨x, hx⟩ : ∃ x, l[i]? = some x := ⟨l[i], by simp [g]⟩
      have hd : l.drop i = x :: l.drop (i + 1) := by
        rw [List.drop_eq_getElem_cons g]
        congr 1
        rw [List.getElem?_eq_getElem g] at hx
        exact Option.some.inj hx
      simp -implicitDefEqProofs [a6, a7, a8, a3, g1, hx, w1, cv_5_113', -bin_ints, b_lss, b_add, hX, hM, to_normal, to_exit, to_ret, -decide_eq_true_eq, -decide_eq_false_iff_not, -List.any_eq_true, -List.any_eq_false, -bne_iff_ne, -beq_iff_eq, -beq_eq_false_iff_ne, -bne_eq_false_iff_eq]
      exact ⟨l.length - (i + 1), by omega, i + 1, stB u x, rfl, by omega, by simp [a6], by simp [a7], by simp, by simp [hst], by rw [hu, hd, List.foldl_cons]⟩
    · have g1 : decide (i < l.length) = false := by simp; omega
      simp -implicitDefEqProofs [a6, a7, a8, a3, g1, to_normal, to_exit, to_ret, -decide_eq_true_eq, -decide_eq_false_iff_not, -List.any_eq_true, -List.any_eq_false, -bne_iff_ne, -beq_iff_eq, -beq_eq_false_iff_ne, -bne_eq_false_iff_eq]
      rw [List.drop_of_length_le (by omega)] at hu
      exact ⟨rfl, u, a3, hu⟩
  · rintro e ⟨t, h, c⟩ ⟨rfl, u, a3, hu⟩
    simp only at a3
    simp -implicitDefEqProofs [a3, cv_113_3, -decide_eq_true_eq, -decide_eq_false_iff_not, -List.any_eq_true, -List.any_eq_false, -bne_iff_ne, -beq_iff_eq, -beq_eq_false_iff_ne, -bne_eq_false_iff_eq]
    rw [hu]
    exact ⟨_, _, rfl⟩
  · exact ⟨0, 2166136261, by simp, by simp, by simp, by simp, by simp, by simp, by rw [List.drop_zero]; unfold byP; exact Eq.refl _⟩
theorem bytes_c (nb : Bool) (l : List Int) (hl : l.length ≤ 1000000) (h : Heap) (c : Nat) : callA mL (run Tryz.prog mL) 12 [.ro nb (bys l)] h c = some (I (byP l), h, c) := by
  obtain ⟨h', c', e⟩ := bytes_ev nb l hl
  exact call_of rfl rfl e rfl rfl
theorem rbytes_ev (nb : Bool) (l : List Int) (hl : l.length ≤ 1000000) : IOut (byP l) (run Tryz.prog mL 34 [.ro nb (bys l)] Heap.none 0) := by
  obtain ⟨X, M, hX, hM, hst⟩ := step_F
  rw [run_eq (show mL 34 = some .pure from rfl) rfl, Tryz.func34]
  simp -implicitDefEqProofs [Tryz.f34, Option.bind_assoc, -decide_eq_true_eq, -decide_eq_false_iff_not, -List.any_eq_true, -List.any_eq_false, -bne_iff_ne, -beq_iff_eq, -beq_eq_false_iff_ne, -bne_eq_false_iff_eq]
  refine loop_to (R := IOut (byP l)) (RI nb l) (BE l) ?_ ?_ l.length _ ?_
  · rintro kk ⟨t, h, c⟩ ⟨i, u, rfl, hi, a0, a4, a3, hu⟩
    simp only at a0 a4 a3
    by_cases g : i < l.length
    · have g1 : decide (i < l.length) = true := by simp [g]
      have w1 : IntKind.i64.wrap ((i : Int) + 1) = ((i + 1 : Nat) : Int) := wrap_id' (by omega)
      obtain ⟨x, hx⟩ : ∃ x, l[i]? = some x := ⟨l[i], by simp [g]⟩
      have hd : l.drop i = x :: l.drop (i + 1) := by
        rw [List.drop_eq_getElem_cons g]
        congr 1
        rw [List.getElem?_eq_getElem g] at hx
        exact Option.some.inj hx
      simp -implicitDefEqProofs [a0, a4, a3, g1, hx, w1, cv_5_113', -bin_ints, b_lss, b_add, hX, hM, to_normal, to_exit, to_ret, -decide_eq_true_eq, -decide_eq_false_iff_not, -List.any_eq_true, -List.any_eq_false, -bne_iff_ne, -beq_iff_eq, -beq_eq_false_iff_ne, -bne_eq_false_iff_eq]
      exact ⟨l.length - (i + 1), by omega, i + 1, stB u x, rfl, by omega, by simp [a0], by simp, by simp [hst], by rw [hu, hd, List.foldl_cons]⟩
    · have g1 : decide (i < l.length) = false := by simp; omega
      simp -implicitDefEqProofs [a0, a4, a3, g1, to_normal, to_exit, to_ret, -decide_eq_true_eq, -decide_eq_false_iff_not, -List.any_eq_true, -List.any_eq_false, -bne_iff_ne, -beq_iff_eq, -beq_eq_false_iff_ne, -bne_eq_false_iff_eq]
      rw [List.drop_of_length_le (by omega)] at hu
      exact ⟨rfl, u, a3, hu⟩
  · rintro e ⟨t, h, c⟩ ⟨rfl, u, a3, hu⟩
    simp only at a3
    simp -implicitDefEqProofs [a3, cv_113_3, -decide_eq_true_eq, -decide_eq_false_iff_not, -List.any_eq_true, -List.any_eq_false, -bne_iff_ne, -beq_iff_eq, -beq_eq_false_iff_ne, -bne_eq_false_iff_eq]
    rw [hu]
    exact ⟨_, _, rfl⟩
  · exact ⟨0, 2166136261, by simp, by simp, by simp, by simp, by simp, by rw [List.drop_zero]; unfold byP; exact Eq.refl _⟩
theorem rbytes_c (nb : Bool) (l : List Int) (hl : l.length ≤ 1000000) (h : Heap) (c : Nat) : callA mL (run Tryz.prog mL) 34 [.ro nb (bys l)] h c = some (I (byP l), h, c) := by
  obtain ⟨h', c', e⟩ := rbytes_ev nb l hl
  exact call_of rfl rfl e rfl rfl
end Go.Proofs.YtgbdbenepnbajaaGreatDoor.AM
