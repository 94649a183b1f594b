/- The rule of a loop, as the evaluation meets it. -/
import Derived.Test.YtgbdbenepnbajaaGreatDoorAmEval
namespace Go.Proofs.YtgbdbenepnbajaaGreatDoor.AM
open Go
set_option linter.unusedVariables false
variable {P : Program} {md : Nat → Option CMode}

/-- What a round of a loop must come to. -/
def RoundOk {α : Type} (K : Ex × St → Option α) (I : Nat → St → Prop) (R : Option α → Prop) (k : Nat) : Option (Ex × St) → Prop
  | none => False
  | some (.normal, s) => ∃ k', k' < k ∧ I k' s
  | some (e, s) => R (K (e, s))
theorem good_none {α : Type} {K : Ex × St → Option α} {I : Nat → St → Prop} {R : Option α → Prop} {k : Nat} : RoundOk K I R k none ↔ False := Iff.rfl
theorem good_normal {α : Type} {K : Ex × St → Option α} {I : Nat → St → Prop} {R : Option α → Prop} {k : Nat} {s : St} : RoundOk K I R k (some (.normal, s)) ↔ ∃ k', k' < k ∧ I k' s := Iff.rfl
theorem good_exit {α : Type} {K : Ex × St → Option α} {I : Nat → St → Prop} {R : Option α → Prop} {k i : Nat} {s : St} : RoundOk K I R k (some (.exit i, s)) ↔ R (K (.exit i, s)) := Iff.rfl
theorem good_pan {α : Type} {K : Ex × St → Option α} {I : Nat → St → Prop} {R : Option α → Prop} {k i : Nat} {kk : IntKind} {n : Int} {s : St} : RoundOk K I R k (some (.pan i kk n, s)) ↔ R (K (.pan i kk n, s)) := Iff.rfl
theorem good_ret {α : Type} {K : Ex × St → Option α} {I : Nat → St → Prop} {R : Option α → Prop} {k : Nat} {s : St} : RoundOk K I R k (some (.ret, s)) ↔ R (K (.ret, s)) := Iff.rfl
theorem loop_rule {α : Type} {b : Code} {K : Ex × St → Option α} (I : Nat → St → Prop) (R : Option α → Prop)
    (step : ∀ k s, I k s → RoundOk K I R k (exL P md b s)) (k : Nat) (s : St) (h : I k s) :
    R ((exL P md (.loop b) s).bind K) := by
  rw [exL_loop]
  refine iterL_rule I K R (fun k s h => ?_) k s h
  have h1 := step k s h
  cases he : exL P md b s with
  | none => rw [he] at h1; exact h1.elim
  | some p =>
    obtain ⟨e, s'⟩ := p
    rw [he] at h1
    refine ⟨e, s', rfl, ?_⟩
    cases e
    · exact h1
    · exact h1
    · exact h1
    · exact h1
theorem wrap_succ {n : Nat} (h : n < 9223372036854775807) : IntKind.i64.wrap ((n : Int) + 1) = ((n + 1 : Nat) : Int) := by
  rw [wrap_id (by omega) (by omega)]
  omega
end Go.Proofs.YtgbdbenepnbajaaGreatDoor.AM
namespace Go.Proofs.YtgbdbenepnbajaaGreatDoor.AM
open Go
set_option linter.unusedVariables false
/-- What a round of a loop must come to, with what holds behind the loop. -/
def RoundTo (I : Nat → St → Prop) (Q : Ex → St → Prop) (k : Nat) : Option (Ex × St) → Prop
  | none => False
  | some (.normal, s) => ∃ k', k' < k ∧ I k' s
  | some (e, s) => Q e s
theorem to_none {I : Nat → St → Prop} {Q : Ex → St → Prop} {k : Nat} : RoundTo I Q k none ↔ False := Iff.rfl
theorem to_normal {I : Nat → St → Prop} {Q : Ex → St → Prop} {k : Nat} {s : St} : RoundTo I Q k (some (.normal, s)) ↔ ∃ k', k' < k ∧ I k' s := Iff.rfl
theorem to_exit {I : Nat → St → Prop} {Q : Ex → St → Prop} {k i : Nat} {s : St} : RoundTo I Q k (some (.exit i, s)) ↔ Q (.exit i) s := Iff.rfl
theorem to_pan {I : Nat → St → Prop} {Q : Ex → St → Prop} {k i : Nat} {kk : IntKind} {n : Int} {s : St} : RoundTo I Q k (some (.pan i kk n, s)) ↔ Q (.pan i kk n) s := Iff.rfl
theorem to_ret {I : Nat → St → Prop} {Q : Ex → St → Prop} {k : Nat} {s : St} : RoundTo I Q k (some (.ret, s)) ↔ Q .ret s := Iff.rfl
theorem loop_to {P : Program} {md : Nat → Option CMode} {α : Type} {b : Code} {K : Ex × St → Option α} {R : Option α → Prop} (I : Nat → St → Prop) (Q : Ex → St → Prop)
    (step : ∀ k s, I k s → RoundTo I Q k (exL P md b s)) (after : ∀ e s, Q e s → R (K (e, s))) (k : Nat) (s : St) (h : I k s) :
    R ((exL P md (.loop b) s).bind K) := by
  rw [exL_loop]
  refine iterL_rule I K R (fun k s h => ?_) k s h
  have h1 := step k s h
  cases he : exL P md b s with
  | none => rw [he] at h1; exact h1.elim
  | some p =>
    obtain ⟨e, s'⟩ := p
    rw [he] at h1
    refine ⟨e, s', rfl, ?_⟩
    cases e
    · exact h1
    · exact after _ _ h1
    · exact after _ _ h1
    · exact after _ _ h1
theorem call_heap {md : Nat → Option CMode} {orc : Orc} {f : Nat} {args : List AV} {h : Heap} {c : Nat} (hm : md f = some .heap) : callA md orc f args h c = orc f args h c := by
  unfold callA
  rw [hm]
theorem find_succ (p : Nat → Bool) (j : Nat) (h : (List.range j).find? p = none) : (List.range (j + 1)).find? p = if p j then some j else none := by
  rw [List.range_succ, List.find?_append, h]
  simp [List.find?]
  cases p j <;> rfl
theorem find_at (p : Nat → Bool) {j n : Nat} (h : (List.range j).find? p = none) (hj : j < n) (hp : p j = true) : (List.range n).find? p = some j := by
  rw [List.find?_range_eq_some]
  refine ⟨hp, by simpa using hj, fun k hk => ?_⟩
  have := List.find?_eq_none.mp h k (by simpa using hk)
  simpa using this
end Go.Proofs.YtgbdbenepnbajaaGreatDoor.AM
