/- The rule of a loop, as the evaluation meets it. -/
import Derived.Test.YtkdmhlmaeccekaaAmEval
namespace Go.Proofs.Ytkdmhlmaeccekaa.AM
open Go
set_option linter.unusedVariables false
variable {P : Program} {md : Nat → Option CMode}

/-- What a round of a loop must come to. -/
def RoundOk {α : Type} (K : Ex × St → Option α) (I : Nat → St → Prop) (R : Option α → Prop) (k : Nat) : Option (Ex × St) → Prop
  | none => False
  | some (.normal, s) => ∃ k', k' < k ∧ I k' s
  | some (e, s) => R (K (e, s))
theorem good_none {α : Type} {K : Ex × St → Option α} {I : Nat → St → Prop} {R : Option α → Prop} {k : Nat} : RoundOk K I R k none ↔ False := Iff.rfl
theorem good_normal {α : Type} {K : Ex × St → Option α} {I : Nat → St → Prop} {R : Option α → Prop} {k : Nat} {s : St} : RoundOk K I R k (some (.normal, s)) ↔ ∃ k', k' < k ∧ I k' s := Iff.rfl
theorem good_exit {α : Type} {K : Ex × St → Option α} {I : Nat → St → Prop} {R : Option α → Prop} {k i : Nat} {s : St} : RoundOk K I R k (some (.exit i, s)) ↔ R (K (.exit i, s)) := Iff.rfl
theorem good_ret {α : Type} {K : Ex × St → Option α} {I : Nat → St → Prop} {R : Option α → Prop} {k : Nat} {s : St} : RoundOk K I R k (some (.ret, s)) ↔ R (K (.ret, s)) := Iff.rfl
theorem loop_rule {α : Type} {b : Code} {K : Ex × St → Option α} (I : Nat → St → Prop) (R : Option α → Prop)
    (step : ∀ k s, I k s → RoundOk K I R k (exL P md b s)) (k : Nat) (s : St) (h : I k s) :
    R ((exL P md (.loop b) s).bind K) := by
  rw [exL_loop]
  refine iterL_rule I K R (fun k s h => ?_) k s h
  have h1 := step k s h
  cases he : exL P md b s with
  | none => rw [he] at h1; exact h1.elim
  | some p =>
    obtain ⟨e, s'⟩ := p
    rw [he] at h1
    refine ⟨e, s', rfl, ?_⟩
    cases e
    · exact h1
    · exact h1
    · exact h1
theorem wrap_succ {n : Nat} (h : n < 9223372036854775807) : IntKind.i64.wrap ((n : Int) + 1) = ((n + 1 : Nat) : Int) := by
  rw [wrap_id (by omega) (by omega)]
  omega
end Go.Proofs.Ytkdmhlmaeccekaa.AM
