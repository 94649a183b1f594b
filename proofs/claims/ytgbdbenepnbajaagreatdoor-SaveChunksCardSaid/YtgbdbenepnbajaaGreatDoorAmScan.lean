/- Loops that go through a list. -/
import Derived.Test.YtgbdbenepnbajaaGreatDoorAmLoop
namespace Go.Proofs.YtgbdbenepnbajaaGreatDoor.AM
open Go
set_option linter.unusedVariables false
/-- A round that goes on. -/
def GoesOn (J : St → Prop) : Option (Ex × St) → Prop
  | some (.normal, s) => J s
  | _ => False
/-- A round that ends the loop. -/
def Leaves (Q : Ex → St → Prop) : Option (Ex × St) → Prop
  | some (.normal, _) => False
  | some (e, s) => Q e s
  | none => False
@[simp] theorem goes_normal {J : St → Prop} {s : St} : GoesOn J (some (.normal, s)) ↔ J s := Iff.rfl
@[simp] theorem goes_none {J : St → Prop} : GoesOn J none ↔ False := Iff.rfl
@[simp] theorem goes_exit {J : St → Prop} {i : Nat} {s : St} : GoesOn J (some (.exit i, s)) ↔ False := Iff.rfl
@[simp] theorem goes_pan {J : St → Prop} {i : Nat} {k : IntKind} {n : Int} {s : St} : GoesOn J (some (.pan i k n, s)) ↔ False := Iff.rfl
@[simp] theorem leaves_pan {Q : Ex → St → Prop} {i : Nat} {k : IntKind} {n : Int} {s : St} : Leaves Q (some (.pan i k n, s)) ↔ Q (.pan i k n) s := Iff.rfl
@[simp] theorem goes_ret {J : St → Prop} {s : St} : GoesOn J (some (.ret, s)) ↔ False := Iff.rfl
@[simp] theorem leaves_exit {Q : Ex → St → Prop} {i : Nat} {s : St} : Leaves Q (some (.exit i, s)) ↔ Q (.exit i) s := Iff.rfl
@[simp] theorem leaves_ret {Q : Ex → St → Prop} {s : St} : Leaves Q (some (.ret, s)) ↔ Q .ret s := Iff.rfl
@[simp] theorem leaves_none {Q : Ex → St → Prop} : Leaves Q none ↔ False := Iff.rfl
@[simp] theorem leaves_normal {Q : Ex → St → Prop} {s : St} : Leaves Q (some (.normal, s)) ↔ False := Iff.rfl

theorem take_any {α : Type} (f : α → Bool) {l : List α} {j : Nat} {x : α} (hx : l[j]? = some x) (h : (l.take j).any f = false) : (l.take (j + 1)).any f = f x := by
  rw [List.take_add_one, hx, List.any_append, h]
  simp

section
variable {P : Program} {md : Nat → Option CMode} {β α : Type} {b : Code} {K : Ex × St → Option β} {R : Option β → Prop}
/-- A loop that looks for the first one of a list that has something. -/
theorem scan_list (l : List α) (f : α → Bool) (I : Nat → St → Prop) (s : St) (h : I 0 s)
    (step : ∀ j s, I j s → ∀ hj : j < l.length, f l[j] = false → GoesOn (I (j + 1)) (exL P md b s))
    (hit : ∀ j s, I j s → ∀ hj : j < l.length, f l[j] = true → l.any f = true → Leaves (fun e s => R (K (e, s))) (exL P md b s))
    (done : ∀ s, I l.length s → l.any f = false → Leaves (fun e s => R (K (e, s))) (exL P md b s)) :
    R ((exL P md (.loop b) s).bind K) := by
  refine loop_rule (fun k s => ∃ j : Nat, k = l.length - j ∧ j ≤ l.length ∧ I j s ∧ (l.take j).any f = false) R ?_ l.length s ⟨0, by omega, by omega, h, by simp⟩
  rintro k s ⟨j, hk, hj, hI, hn⟩
  by_cases g : j < l.length
  · have hx : l[j]? = some l[j] := by simp [g]
    cases hf : f l[j] with
    | true =>
      have h1 := hit j s hI g hf (List.any_eq_true.2 ⟨_, List.getElem_mem g, hf⟩)
      cases he : exL P md b s with
      | none => rw [he] at h1; exact h1
      | some p =>
        obtain ⟨e, s'⟩ := p
        rw [he] at h1
        cases e
        · exact h1.elim
        · exact h1
        · exact h1
        · exact h1
    | false =>
      have h1 := step j s hI g hf
      cases he : exL P md b s with
      | none => rw [he] at h1; exact h1
      | some p =>
        obtain ⟨e, s'⟩ := p
        rw [he] at h1
        cases e
        · exact ⟨l.length - (j + 1), by omega, j + 1, rfl, by omega, h1, by rw [take_any f hx hn]; exact hf⟩
        · exact h1.elim
        · exact h1.elim
        · exact h1.elim
  · have e : j = l.length := by omega
    subst e
    rw [List.take_length] at hn
    have h1 := done s hI hn
    cases he : exL P md b s with
    | none => rw [he] at h1; exact h1
    | some p =>
      obtain ⟨e, s'⟩ := p
      rw [he] at h1
      cases e
      · exact h1.elim
      · exact h1
      · exact h1
      · exact h1
/-- A loop that goes through numbers. -/
theorem count_to (n : Nat) (I : Nat → St → Prop) (s : St) (h : I 0 s)
    (step : ∀ j s, I j s → j < n → GoesOn (I (j + 1)) (exL P md b s))
    (done : ∀ s, I n s → Leaves (fun e s => R (K (e, s))) (exL P md b s)) :
    R ((exL P md (.loop b) s).bind K) := by
  refine loop_rule (fun k s => ∃ j : Nat, k = n - j ∧ j ≤ n ∧ I j s) R ?_ n s ⟨0, by omega, by omega, h⟩
  rintro k s ⟨j, hk, hj, hI⟩
  by_cases g : j < n
  · have h1 := step j s hI g
    cases he : exL P md b s with
    | none => rw [he] at h1; exact h1
    | some p =>
      obtain ⟨e, s'⟩ := p
      rw [he] at h1
      cases e
      · exact ⟨n - (j + 1), by omega, j + 1, rfl, by omega, h1⟩
      · exact h1.elim
      · exact h1.elim
      · exact h1.elim
  · have e : j = n := by omega
    subst e
    have h1 := done s hI
    cases he : exL P md b s with
    | none => rw [he] at h1; exact h1
    | some p =>
      obtain ⟨e, s'⟩ := p
      rw [he] at h1
      cases e
      · exact h1.elim
      · exact h1
      · exact h1
      · exact h1
/-- A loop that goes through numbers and may leave at any of them. -/
theorem count_or (n : Nat) (I : Nat → St → Prop) (s : St) (h : I 0 s)
    (step : ∀ j s, I j s → j < n → GoesOn (I (j + 1)) (exL P md b s) ∨ Leaves (fun e s => R (K (e, s))) (exL P md b s))
    (done : ∀ s, I n s → Leaves (fun e s => R (K (e, s))) (exL P md b s)) :
    R ((exL P md (.loop b) s).bind K) := by
  refine loop_rule (fun k s => ∃ j : Nat, k = n - j ∧ j ≤ n ∧ I j s) R ?_ n s ⟨0, by omega, by omega, h⟩
  rintro k s ⟨j, hk, hj, hI⟩
  have fin : Leaves (fun e s => R (K (e, s))) (exL P md b s) → RoundOk K (fun k s => ∃ j : Nat, k = n - j ∧ j ≤ n ∧ I j s) R k (exL P md b s) := by
    intro h1
    cases he : exL P md b s with
    | none => rw [he] at h1; exact h1
    | some p =>
      obtain ⟨e, s'⟩ := p
      rw [he] at h1
      cases e
      · exact h1.elim
      · exact h1
      · exact h1
      · exact h1
  by_cases g : j < n
  · rcases step j s hI g with h1 | h1
    · cases he : exL P md b s with
      | none => rw [he] at h1; exact h1
      | some p =>
        obtain ⟨e, s'⟩ := p
        rw [he] at h1
        cases e
        · exact ⟨n - (j + 1), by omega, j + 1, rfl, by omega, h1⟩
        · exact h1.elim
        · exact h1.elim
        · exact h1.elim
    · exact fin h1
  · have e : j = n := by omega
    subst e
    exact fin (done s hI)
end
end Go.Proofs.YtgbdbenepnbajaaGreatDoor.AM
