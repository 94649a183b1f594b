/- Texts of the proof: part B34. -/
import Derived.Test.YtdckleaemkcapaaMD
set_option linter.unusedVariables false
namespace Go.Proofs.Ytdckleaemkcapaa.AM
open Go Go.Proofs
/-- A round that goes on or leaves. -/
def Round (J : St → Prop) (Q : Ex → St → Prop) : Option (Ex × St) → Prop
  | some (.normal, s) => J s
  | some (e, s) => Q e s
  | none => False
@[simp] theorem round_normal {J : St → Prop} {Q : Ex → St → Prop} {s : St} : Round J Q (some (.normal, s)) ↔ J s := Iff.rfl
@[simp] theorem round_exit {J : St → Prop} {Q : Ex → St → Prop} {i : Nat} {s : St} : Round J Q (some (.exit i, s)) ↔ Q (.exit i) s := Iff.rfl
@[simp] theorem round_ret {J : St → Prop} {Q : Ex → St → Prop} {s : St} : Round J Q (some (.ret, s)) ↔ Q .ret s := Iff.rfl
@[simp] theorem round_none {J : St → Prop} {Q : Ex → St → Prop} : Round J Q none ↔ False := Iff.rfl
section
variable {P : Program} {md : Nat → Option CMode} {β : Type} {b : Code} {K : Ex × St → Option β} {R : Option β → Prop}
/-- A loop that goes through numbers and may leave at any of them. -/
theorem count_round (n : Nat) (I : Nat → St → Prop) (s : St) (h : I 0 s)
    (step : ∀ j s, I j s → j < n → Round (I (j + 1)) (fun e s => R (K (e, s))) (exL P md b s))
    (done : ∀ s, I n s → Leaves (fun e s => R (K (e, s))) (exL P md b s)) :
    R ((exL P md (.loop b) s).bind K) := by
  refine count_or n I s h (fun j s hI hj => ?_) done
  have h1 := step j s hI hj
  cases he : exL P md b s with
  | none => rw [he] at h1; exact h1.elim
  | some p =>
    obtain ⟨e, s'⟩ := p
    rw [he] at h1
    cases e
    · exact .inl h1
    · exact .inr h1
    · exact .inr h1
end
def yearI (b : Bnk) : Int := let y := IntKind.i64.wrap (b.idx + IntKind.i64.wrap (Int.tdiv (IntKind.i64.wrap (b.idx * b.infl)) 100)); if 262144 < y then 262144 else y
def yearP (b : Bnk) : Int × Bnk := bif valP b == 0 then (0, ⟨false, b.accs, b.rate, b.infl, yearI b, false, b.book⟩) else (valP b, noB)
/-- The interest of a month. -/
def intN (loan rate : Int) : Int := -(Int.tdiv (loan * rate) 1200)
theorem intN_small {x r : Int} (hx : 0 ≤ x ∧ x ≤ 1000000000000) (hr : 0 ≤ r ∧ r ≤ 100) : (0 ≤ x * r ∧ x * r ≤ 100000000000000) ∧ (-1000000000000 ≤ intN x r ∧ intN x r ≤ 1000000000000) ∧ 0 ≤ Int.tdiv (x * r) 1200 ∧ Int.tdiv (x * r) 1200 ≤ 1000000000000 := by
  have h1 : 0 ≤ x * r := Int.mul_nonneg hx.1 hr.1
  have h2 : x * r ≤ 1000000000000 * 100 := Int.mul_le_mul hx.2 hr.2 hr.1 (by omega)
  unfold intN
  generalize x * r = p at *
  rw [Int.tdiv_eq_ediv_of_nonneg h1]
  omega
def monS (j : Nat) (X : Bnk) : Option Bnk := bif opnAt X j then (bif (bkP X j 1 (intN (accAt X j).loan X.rate)).1 == 0 then some (bkP X j 1 (intN (accAt X j).loan X.rate)).2 else none) else some X
def monN (b : Bnk) : Nat → Option Bnk
  | 0 => some (plainB b)
  | j + 1 => (monN b j).bind (monS j)
theorem monN_none (b : Bnk) {j : Nat} (h : monN b j = none) : ∀ k, j ≤ k → monN b k = none := by
  intro k hk
  induction hk with
  | refl => exact h
  | step _ ih => show (monN b _).bind _ = none; rw [ih]; rfl
def monP (b : Bnk) : Int × Bnk := bif valP b == 0 then (match monN b 12 with | some X => (0, X) | none => (10, noB)) else (valP b, noB)
theorem bkP_keeps (b : Bnk) (co kd n : Int) (h : (bkP b co kd n).1 = 0) : (bkP b co kd n).2.rate = b.rate ∧ (bkP b co kd n).2.infl = b.infl ∧ (bkP b co kd n).2.idx = b.idx := by
  unfold bkP at h ⊢
  cases h0 : n == 0 <;> rw [h0] at h <;> simp only [cond_true, cond_false] at h ⊢
  · cases h1 : bookBad (accAt b co).cash n b.book.length <;> rw [h1] at h <;> simp only [cond_true, cond_false] at h ⊢
    · first | exact ⟨rfl, rfl, rfl⟩ | simp
    · simp at h
  · first | exact ⟨rfl, rfl, rfl⟩ | simp [plainB]
theorem mon_valid {b : Bnk} (v : Valid b) : ∀ (j : Nat) (X : Bnk), j ≤ 12 → monN b j = some X → Valid X ∧ X.rate = b.rate ∧ X.infl = b.infl ∧ X.idx = b.idx
  | 0, X, _, h => by cases h; exact ⟨valid_plain v _ _, rfl, rfl, rfl⟩
  | j + 1, X, hj, h => by
    obtain ⟨Y, hY, h⟩ := Option.bind_eq_some_iff.mp h
    obtain ⟨vY, r1, r2, r3⟩ := mon_valid v j Y (by omega) hY
    unfold monS at h
    cases ho : opnAt Y j <;> rw [ho] at h <;> simp only [cond_true, cond_false] at h
    · cases h; exact ⟨vY, r1, r2, r3⟩
    · cases h0 : (bkP Y j 1 (intN (accAt Y j).loan Y.rate)).1 == 0 <;> rw [h0] at h <;> simp only [cond_true, cond_false] at h
      · cases h
      · cases h
        have h0' : (bkP Y j 1 (intN (accAt Y j).loan Y.rate)).1 = 0 := by simpa using h0
        have hl : (j : Int).toNat < Y.accs.length := by have := vY.len; omega
        have hm : accAt Y j ∈ Y.accs := by unfold accAt; rw [List.getElem?_eq_getElem hl]; exact List.getElem_mem hl
        have k := bkP_keeps Y j 1 _ h0'
        exact ⟨bk_valid vY (by omega) ho (by omega) (intN_small (vY.accs _ hm).loan vY.rate).2.1 h0', k.1.trans r1, k.2.1.trans r2, k.2.2.trans r3⟩
end Go.Proofs.Ytdckleaemkcapaa.AM
