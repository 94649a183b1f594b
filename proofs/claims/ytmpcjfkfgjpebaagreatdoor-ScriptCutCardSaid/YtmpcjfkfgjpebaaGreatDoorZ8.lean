/- Texts of the proof: part Z8. -/
import Derived.Test.YtmpcjfkfgjpebaaGreatDoorZ7
set_option maxHeartbeats 0
set_option maxRecDepth 8000
set_option linter.unusedSimpArgs false
set_option linter.unusedVariables false
set_option linter.unusedSectionVars false
namespace Go.Proofs.YtmpcjfkfgjpebaaGreatDoor.AM
open Go Go.Proofs
attribute [local simp] fieldAddrA ld setCells stA skipV appendA hd makeA bnd kindA freshA killOk loadsAt edgesOn Region.binds newT empT lay_get allocA buildA buildRow lenA els indexAddrA isNil opA evA lit_int lit_bool lit_nil lit_nilf yldA binI unA pickA boolV intV fieldA mk eqs nilC mayP
/-! ### what an expression must be -/
def popsP (k : Int) : Nat := if k = 0 ∨ k = 1 then 0 else if k = 9 then 3 else 2
def knownP (na : Nat) (q : Int × Int) : Bool :=
  if q.1 = 0 then decide (-2147483647 ≤ q.2) && decide (q.2 ≤ 2147483647) else if q.1 = 1 then decide (0 ≤ q.2) && decide (q.2 < (na : Int)) else if q.1 = 10 then false else decide (0 < q.1) && decide (q.1 < 13) && decide (q.2 = 0)
/-- How high the stack is behind some steps. -/
def hgt (na : Nat) : List (Int × Int) → Nat → Option Nat
  | [], n => some n
  | q :: r, n => if knownP na q = true ∧ popsP q.1 ≤ n then hgt na r (n + 1 - popsP q.1) else none
theorem hgt_append (na : Nat) : ∀ (a b : List (Int × Int)) (n : Nat), hgt na (a ++ b) n = (hgt na a n).bind (hgt na b)
  | [], b, n => rfl
  | q :: a, b, n => by
    simp only [List.cons_append, hgt]
    split
    · exact hgt_append na a b _
    · rfl
/-- Steps that leave one number. -/
def Bal (na : Nat) (b : List (Int × Int)) : Prop := ∀ n, hgt na b n = some (n + 1)
theorem bal_num {na : Nat} {v : Int} (h1 : -2147483647 ≤ v) (h2 : v ≤ 2147483647) : Bal na [(0, v)] := by
  intro n
  simp [hgt, knownP, popsP, h1, h2]
theorem bal_arg {na k : Nat} (h : k < na) : Bal na [(1, (k : Int))] := by
  intro n
  have : (k : Int) < (na : Int) := by omega
  simp [hgt, knownP, popsP, this]
theorem bal_two {na : Nat} {a b : List (Int × Int)} {k : Int} (ha : Bal na a) (hb : Bal na b) (h1 : 2 ≤ k) (h2 : k < 13) (h9 : k ≠ 9) (h10 : k ≠ 10) : Bal na (a ++ b ++ [(k, 0)]) := by
  intro n
  rw [hgt_append, hgt_append, ha n, Option.bind_some, hb (n + 1), Option.bind_some]
  have e1 : k ≠ 0 := by omega
  have e2 : k ≠ 1 := by omega
  have e3 : 0 < k := by omega
  simp [hgt, knownP, popsP, e1, e2, h9, h10, e3, h2]
theorem bal_three {na : Nat} {a b d : List (Int × Int)} (ha : Bal na a) (hb : Bal na b) (hd : Bal na d) : Bal na (a ++ b ++ d ++ [(9, 0)]) := by
  intro n
  rw [hgt_append, hgt_append, hgt_append, ha n, Option.bind_some, hb (n + 1), Option.bind_some, hd (n + 1 + 1), Option.bind_some]
  simp [hgt, knownP, popsP]
/-- What the names stand for. -/
def NamesOk (X : Cx) (na : Nat) : Prop := ∀ s : ByteArray, ∃ r, mpGet s X.rows = some r ∧ ∀ v, r = some v → ∃ k : Nat, v = I k ∧ k < na
/-- What a call that reads an expression comes to. -/
def Out (X : Cx) (na : Nat) (i : Nat) (ops : List (Int × Int)) (o : Option (AV × Heap × Nat)) : Prop :=
  (∃ (h' : Heap) (c' j : Nat) (b : List (Int × Int)), o = some (.tup [], h', c') ∧ i < j ∧ Rd X h' c' j (ops ++ b) ∧ Bal na b ∧ b.length ≤ j - i) ∨ ∃ (n : Int) (h' : Heap) (c' : Nat), o = some (.pan 27 .i64 n, h', c') ∧ n ≠ 0 ∧ h' X.z = some X.zb
def ExprAt (X : Cx) (na : Nat) (i : Nat) : Prop := ∀ (h : Heap) (c : Nat) (ops : List (Int × Int)), Rd X h c i ops → Out X na i ops (callA mA (run Tryz.prog mA) 182 [.ptr X.nb 0 0] h c)
theorem nx_lt {s : Str} {j : Nat} (h : nx s j ≠ 0) : j < s.length := by
  by_cases hj : j < s.length
  · exact hj
  · exact absurd (by rw [nx, List.getElem?_eq_none (by omega)]; rfl) h
theorem nx_of {s : Str} {j : Nat} {b : Int} (h : (((nx s j).toNat : Int) == b) = true) (hb : 0 < b) : j < s.length := by
  refine nx_lt fun e => ?_
  rw [e] at h
  rw [beq_iff_eq] at h
  simp at h
  omega
theorem noRule_c (v : AV) (h : Heap) (c : Nat) : callA mA (run Tryz.prog mA) 187 [.ro true [], v] h c = some (I (-1), h, c) := by
  rw [call_heap rfl, run_eq (show mA 187 = some .heap from rfl) rfl, Tryz.func187]
  simp -implicitDefEqProofs [Tryz.f187, loop_step, -decide_eq_true_eq, -decide_eq_false_iff_not, -List.any_eq_true, -List.any_eq_false, -bne_iff_ne, -beq_iff_eq, -beq_eq_false_iff_ne, -bne_eq_false_iff_eq]
theorem rule_ev {X : Cx} {h : Heap} {c : Nat} {i : Nat} {ops : List (Int × Int)} (R : Rd X h c i ops) (w : Str) :
    ∃ h' c', callA mA (run Tryz.prog mA) 204 [.ptr X.nb 0 0, S w] h c = some (.pan 27 .i64 2, h', c') ∧ h' X.z = some X.zb := by
  rw [call_heap rfl, run_eq (show mA 204 = some .heap from rfl) rfl, Tryz.func204]
  obtain ⟨v, a, b, hb, _⟩ := R.blk
  have hnb := R.nbc
  have hz := R.zc
  have e1 : X.nb ≠ c := by omega
  have e2 : X.z ≠ c := by omega
  refine ⟨h.put c (some ⟨1, [[S w]], some 9⟩), c + 1, ?_, by simp [e2, R.hz]⟩
  simp -implicitDefEqProofs [Tryz.f204, hb, e1, noRule_c, fail_c, -decide_eq_true_eq, -decide_eq_false_iff_not, -List.any_eq_true, -List.any_eq_false, -bne_iff_ne, -beq_iff_eq, -beq_eq_false_iff_ne, -bne_eq_false_iff_eq]
end Go.Proofs.YtmpcjfkfgjpebaaGreatDoor.AM
