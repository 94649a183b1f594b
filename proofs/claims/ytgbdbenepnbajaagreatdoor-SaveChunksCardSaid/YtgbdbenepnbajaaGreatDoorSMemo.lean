/- A pure call whose answer is known is told of. -/
import Derived.Test.YtgbdbenepnbajaaGreatDoorAmScan
set_option linter.unusedVariables false
namespace Go.Proofs.YtgbdbenepnbajaaGreatDoor.AM
open Go
variable {P : Program}
/-- Whether two plain values are the same. -/
def eqV : Value → Value → Bool
  | .int k a, .int k' b => decide (k = k') && a == b
  | .bool a, .bool b => a == b
  | .string a, .string b => decide (a.data.toList = b.data.toList)
  | _, _ => false
def eqL {α : Type} (f : α → α → Bool) : List α → List α → Bool
  | [], [] => true
  | x :: xs, y :: ys => f x y && eqL f xs ys
  | _, _ => false
/-- Whether two values that lead nowhere are the same. -/
def eqAV : Nat → AV → AV → Bool
  | 0, _, _ => false
  | n + 1, x, y => match x, y with
    | .val a, .val b => eqV a b
    | .ro b es, .ro b' es' => b == b' && eqL (eqL (eqAV n)) es es'
    | .agg xs, .agg ys => eqL (eqAV n) xs ys
    | .tup xs, .tup ys => eqL (eqAV n) xs ys
    | _, _ => false
theorem eqL_eq {α : Type} {f : α → α → Bool} (hf : ∀ x y, f x y = true → x = y) : ∀ xs ys, eqL f xs ys = true → xs = ys
  | [], [], _ => rfl
  | [], _ :: _, h => by cases h
  | _ :: _, [], h => by cases h
  | x :: xs, y :: ys, h => by
    simp only [eqL, Bool.and_eq_true] at h
    rw [hf x y h.1, eqL_eq hf xs ys h.2]
theorem eqV_eq {a b : Value} (h : eqV a b = true) : a = b := by
  unfold eqV at h
  split at h
  · simp only [Bool.and_eq_true, decide_eq_true_eq, beq_iff_eq] at h
    rw [h.1, h.2]
  · rw [beq_iff_eq.1 h]
  · rename_i a b
    obtain ⟨⟨a⟩⟩ := a
    obtain ⟨⟨b⟩⟩ := b
    simpa using h
  · cases h
theorem eqAV_eq : ∀ (n : Nat) (x y : AV), eqAV n x y = true → x = y
  | 0, _, _, h => by cases h
  | n + 1, x, y, h => by
    unfold eqAV at h
    split at h
    · rw [eqV_eq h]
    · simp only [Bool.and_eq_true, beq_iff_eq] at h
      rw [h.1, eqL_eq (eqL_eq (eqAV_eq n)) _ _ h.2]
    · rw [eqL_eq (eqAV_eq n) _ _ h]
    · rw [eqL_eq (eqAV_eq n) _ _ h]
    · cases h
/-- What a call of these arguments is told to answer; 'own': it leads to memory of its own alone. -/
def memo (own : Bool) (as0 : List AV) (v : AV) (args : List AV) (h : Heap) (c : Nat) : Option (AV × Heap × Nat) :=
  (args.mapM (frz h depth)).bind fun as => bif eqL (eqAV 12) as as0 && (own || lf.lfs args) then some (v, h, c) else none
/-- What a closed call answers. -/
def shut (own : Bool) (r : AV × Heap × Nat) : Option AV := bif !own || okO r.2.1 depth r.1 then frz r.2.1 depth r.1 else none
theorem memo_ok (hx : P.follows .mixedOrders = true) {md : Nat → Option CMode} (hf : FnsOk P md) {f n : Nat} (hmd : md f = some .pure) {own : Bool} {as0 : List AV} {v : AV}
    (e : (callN P md n f as0 Heap.none 0).bind (shut own) = some v) : ToldOk P f (memo own as0 v) := by
  refine ⟨hf.mdOk f _ hmd, fun args h c r h' c' e1 => ?_⟩
  unfold memo at e1
  obtain ⟨as, h1, e1⟩ := Option.bind_eq_some_iff.mp e1
  cases hq : (eqL (eqAV 12) as as0 && (own || lf.lfs args)) with
  | false => rw [hq] at e1; cases e1
  | true =>
    rw [hq] at e1
    cases e1
    rw [Bool.and_eq_true, Bool.or_eq_true] at hq
    obtain ⟨hq, ho⟩ := hq
    obtain rfl := eqL_eq (eqAV_eq 12) _ _ hq
    obtain ⟨⟨r0, h0, c0⟩, e3, e4⟩ := Option.bind_eq_some_iff.mp e
    unfold shut at e4
    simp only at e4
    cases hok : (!own || okO h0 depth r0) with
    | false => rw [hok] at e4; cases e4
    | true =>
      rw [hok] at e4
      simp only [cond_true] at e4
      have hnp : v.isPan = false := frz_nopan _ _ _ e4
      have hor : (lf.lfs args || flat v || okO h0 depth r0) = true := by
        rcases ho with rfl | ho
        · simp only [Bool.not_true, Bool.false_or] at hok
          rw [hok, Bool.or_true]
        · rw [ho]
          rfl
      have e2 : callA md (callN P md n) f args h c = some (v, h, c) := by
        unfold callA
        rw [hmd]
        simp only
        rw [h1, Option.bind_some, e3, Option.bind_some]
        simp only [e4, Option.bind_some, hor, if_true]
      refine ⟨Nat.le_refl _, fun ρ F base w vs R hb hF fr hl => ?_⟩
      have k := (callA_sound hf.mdOk (callN_sound hx hf n) e2 hnp).2 vs R hb hF fr hl
      unfold Hits at k
      rw [callFunc_run hf.mdOk hmd rfl] at k
      simp only at k
      refine k.mono ?_
      rintro e w' ⟨u, rfl, ρ', g⟩
      exact .inl ⟨u, rfl, ρ', g⟩
/-- Two told answers. -/
def orElseG (g1 g2 : List AV → Heap → Nat → Option (AV × Heap × Nat)) (args : List AV) (h : Heap) (c : Nat) : Option (AV × Heap × Nat) := match g1 args h c with
  | some r => some r
  | none => g2 args h c
theorem told_or {f : Nat} {g1 g2 : List AV → Heap → Nat → Option (AV × Heap × Nat)} (h1 : ToldOk P f g1) (h2 : ToldOk P f g2) : ToldOk P f (orElseG g1 g2) := by
  refine ⟨h1.1, fun args h c r h' c' e => ?_⟩
  unfold orElseG at e
  split at e
  · rename_i r1 hr
    cases e
    exact h1.2 _ _ _ _ _ _ hr
  · exact h2.2 _ _ _ _ _ _ e
end Go.Proofs.YtgbdbenepnbajaaGreatDoor.AM
