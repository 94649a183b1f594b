/- Texts of the proof: part Z6. -/
import Derived.Test.YtmpcjfkfgjpebaaGreatDoorZ5
set_option maxHeartbeats 0
set_option maxRecDepth 8000
set_option linter.unusedSimpArgs false
set_option linter.unusedVariables false
set_option linter.unusedSectionVars false
namespace Go.Proofs.YtmpcjfkfgjpebaaGreatDoor.AM
open Go Go.Proofs
attribute [local simp] fieldAddrA ld setCells stA skipV appendA hd makeA bnd kindA freshA killOk loadsAt edgesOn Region.binds newT empT lay_get allocA buildA buildRow lenA els indexAddrA isNil opA evA lit_int lit_bool lit_nil lit_nilf yldA binI unA pickA boolV intV fieldA mk eqs nilC mayP
@[simp] theorem max_b (ts : List TypeId) (h : Heap) (c : Nat) (a b : Int) : builtinA Tryz.prog .max ts h c [I a, I b] = some (I (if b > a then b else a), h, c) := rfl
/-- A step more. -/
theorem put_ev {X : Cx} {h : Heap} {c : Nat} {i : Nat} {ops : List (Int × Int)} (R : Rd X h c i ops) (k n : Int) (ho : ops.length + 1 ≤ i) :
    ∃ h' c', callA mA (run Tryz.prog mA) 198 [.ptr X.nb 0 0, I k, I n] h c = some (.tup [], h', c') ∧ Rd X h' c' i (ops ++ [(k, n)]) := by
  rw [call_heap rfl, run_eq (show mA 198 = some .heap from rfl) rfl, Tryz.func198]
  obtain ⟨v, a, b, hb, O, n1, n2, n3⟩ := R.blk
  have hsl := R.sl
  have hle := R.le
  have hc := R.nbc
  have hm := R.mlc
  have hzc := R.zc
  obtain ⟨v', h', c', e, O', G⟩ := outG_one (t := 66) (sz := 2) (by_ := 16) (z := [I 0, I 0]) O [I k, I n] (some 108) rfl (by simp) (by simp) (by simp) (by simp) rfl (by simp; omega) (by simp; omega)
  obtain ⟨q1, q2, q3⟩ := O'.nopan
  have hb2 : h' X.nb = some (rdB X i v a b) := by rw [G.get X.nb hc n1, hb]
  have m1 : nm v' ≠ some X.nb := fun e => by rcases G.new _ e with h | h; exact n1 h; omega
  have m2 : nm v' ≠ some X.ml := fun e => by rcases G.new _ e with h | h; exact n2 h; omega
  have m3 : nm v' ≠ some X.z := fun e => by rcases G.new _ e with h | h; exact n3 h; omega
  have hle3 := G.le
  refine ⟨h'.put X.nb (some (rdB X i v' a b)), c', ?_, ⟨by omega, by omega, by omega, R.d1, R.d2, R.sl, R.le, by simpa using ho, ?_, ?_, v', a, b, by simp, ?_, m1, m2, m3⟩⟩
  · have hnc : X.nb ≠ c := by omega
    simp -implicitDefEqProofs [Tryz.f198, hb, hnc, -appendA, e, q1, q2, q3, hb2, -decide_eq_true_eq, -decide_eq_false_iff_not, -List.any_eq_true, -List.any_eq_false, -bne_iff_ne, -beq_iff_eq, -beq_eq_false_iff_ne, -bne_eq_false_iff_eq]
  · simp [R.d1]
    rw [G.get X.ml hm n2, R.mp]
  · simp [R.d2]
    rw [G.get X.z hzc n3, R.hz]
  · rw [show opsE (ops ++ [(k, n)]) = opsE ops ++ [[I k, I n]] by simp]
    refine O'.frame (Nat.le_refl _) fun m hm _ => ?_
    have : m ≠ X.nb := fun e => m1 (by rw [hm, e])
    simp [this]
theorem open_ev {X : Cx} {h : Heap} {c : Nat} {i : Nat} {ops : List (Int × Int)} (R : Rd X h c i ops) :
    (∃ h', callA mA (run Tryz.prog mA) 200 [.ptr X.nb 0 0] h c = some (.tup [], h', c) ∧ Rd X h' c (i + 1) ops) ∨
    callA mA (run Tryz.prog mA) 200 [.ptr X.nb 0 0] h c = some (.pan 27 .i64 14, h, c) := by
  rw [call_heap rfl, run_eq (show mA 200 = some .heap from rfl) rfl, Tryz.func200]
  rcases want_ev R [40] (by simp) with ⟨h1, e1, _, hl, R1⟩ | e1
  · left
    simp only [List.length_singleton] at hl R1
    obtain ⟨v, a, b, hb, _⟩ := R1.blk
    obtain ⟨a', ha⟩ : ∃ a', a' = IntKind.i64.wrap (a + 1) := ⟨_, rfl⟩
    obtain ⟨b', hb'⟩ : ∃ b', b' = (if a' > b then a' else b) := ⟨_, rfl⟩
    have R2 := R1.turn hb (i + 1) a' b hl R1.ol
    have hb2 : (h1.put X.nb (some (rdB X ((i + 1 : Nat) : Int) v a' b))) X.nb = some (rdB X ((i + 1 : Nat) : Int) v a' b) := by simp
    have R3 := R2.turn hb2 (i + 1) a' b' hl R1.ol
    refine ⟨_, ?_, R3⟩
    generalize ((i + 1 : Nat) : Int) = j at hb
    simp -implicitDefEqProofs [Tryz.f200, e1, hb, ← ha, ← hb', -decide_eq_true_eq, -decide_eq_false_iff_not, -List.any_eq_true, -List.any_eq_false, -bne_iff_ne, -beq_iff_eq, -beq_eq_false_iff_ne, -bne_eq_false_iff_eq]
    try (funext m; simp; try split <;> rfl)
  · right
    simp -implicitDefEqProofs [Tryz.f200, e1, -decide_eq_true_eq, -decide_eq_false_iff_not, -List.any_eq_true, -List.any_eq_false, -bne_iff_ne, -beq_iff_eq, -beq_eq_false_iff_ne, -bne_eq_false_iff_eq]
theorem shut_ev {X : Cx} {h : Heap} {c : Nat} {i : Nat} {ops : List (Int × Int)} (R : Rd X h c i ops) :
    (∃ h', callA mA (run Tryz.prog mA) 202 [.ptr X.nb 0 0] h c = some (.tup [], h', c) ∧ Rd X h' c (i + 1) ops) ∨
    callA mA (run Tryz.prog mA) 202 [.ptr X.nb 0 0] h c = some (.pan 27 .i64 14, h, c) := by
  rw [call_heap rfl, run_eq (show mA 202 = some .heap from rfl) rfl, Tryz.func202]
  rcases want_ev R [41] (by simp) with ⟨h1, e1, _, hl, R1⟩ | e1
  · left
    simp only [List.length_singleton] at hl R1
    obtain ⟨v, a, b, hb, _⟩ := R1.blk
    obtain ⟨a', ha⟩ : ∃ a', a' = IntKind.i64.wrap (a - 1) := ⟨_, rfl⟩
    refine ⟨_, ?_, R1.turn hb (i + 1) a' b hl R1.ol⟩
    generalize ((i + 1 : Nat) : Int) = j at hb
    simp -implicitDefEqProofs [Tryz.f202, e1, hb, ← ha, -decide_eq_true_eq, -decide_eq_false_iff_not, -List.any_eq_true, -List.any_eq_false, -bne_iff_ne, -beq_iff_eq, -beq_eq_false_iff_ne, -bne_eq_false_iff_eq]
  · right
    simp -implicitDefEqProofs [Tryz.f202, e1, -decide_eq_true_eq, -decide_eq_false_iff_not, -List.any_eq_true, -List.any_eq_false, -bne_iff_ne, -beq_iff_eq, -beq_eq_false_iff_ne, -bne_eq_false_iff_eq]
theorem size_ev {X : Cx} {h : Heap} {c : Nat} {i : Nat} {ops : List (Int × Int)} (R : Rd X h c i ops) :
    (callA mA (run Tryz.prog mA) 184 [.ptr X.nb 0 0, I 0] h c = some (.tup [], h, c) ∧ ops.length ≤ 60) ∨
    callA mA (run Tryz.prog mA) 184 [.ptr X.nb 0 0, I 0] h c = some (.pan 27 .i64 4, h, c) := by
  rw [call_heap rfl, run_eq (show mA 184 = some .heap from rfl) rfl, Tryz.func184]
  obtain ⟨v, a, b, hb, O, _⟩ := R.blk
  have hsl := R.sl
  have hle := R.le
  have kw : IntKind.i64.wrap (i : Int) = i := wrap_id (by omega) (by omega)
  have hlen : ∀ h c, builtinA Tryz.prog .len [66] h c [v] = some (I ops.length, h, c) := by
    intro h c
    rcases O with ⟨rfl, e⟩ | ⟨n, rfl, _⟩
    · have : ops = [] := by simpa using e
      subst this
      simp
    · simp
  cases g1 : decide (400 < (i : Int))
  · cases g2 : decide (60 < (ops.length : Int))
    · cases g3 : decide (12 < b)
      · left
        refine ⟨?_, by simp at g2; omega⟩
        simp -implicitDefEqProofs [Tryz.f184, hb, kw, g1, hlen, g2, g3, -decide_eq_true_eq, -decide_eq_false_iff_not, -List.any_eq_true, -List.any_eq_false, -bne_iff_ne, -beq_iff_eq, -beq_eq_false_iff_ne, -bne_eq_false_iff_eq]
      · right
        simp -implicitDefEqProofs [Tryz.f184, hb, kw, g1, hlen, g2, g3, fail_c, -decide_eq_true_eq, -decide_eq_false_iff_not, -List.any_eq_true, -List.any_eq_false, -bne_iff_ne, -beq_iff_eq, -beq_eq_false_iff_ne, -bne_eq_false_iff_eq]
    · right
      simp -implicitDefEqProofs [Tryz.f184, hb, kw, g1, hlen, g2, fail_c, -decide_eq_true_eq, -decide_eq_false_iff_not, -List.any_eq_true, -List.any_eq_false, -bne_iff_ne, -beq_iff_eq, -beq_eq_false_iff_ne, -bne_eq_false_iff_eq]
  · right
    simp -implicitDefEqProofs [Tryz.f184, hb, kw, g1, fail_c, -decide_eq_true_eq, -decide_eq_false_iff_not, -List.any_eq_true, -List.any_eq_false, -bne_iff_ne, -beq_iff_eq, -beq_eq_false_iff_ne, -bne_eq_false_iff_eq]
end Go.Proofs.YtmpcjfkfgjpebaaGreatDoor.AM
