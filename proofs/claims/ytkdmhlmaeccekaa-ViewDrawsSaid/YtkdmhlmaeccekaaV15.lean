/- Texts of the proof: part V15. -/
import Derived.Test.YtkdmhlmaeccekaaV14
namespace Go.Proofs.Ytkdmhlmaeccekaa.AM
open Go Go.Proofs
def freeP (bs : List Bx) (o : List Nat) (i : Nat) : Bool := (List.range bs.length).all fun k => tkOf o k || !fstI bs k i
def pickP (bs : List Bx) (o : List Nat) : Nat × Bool :=
  match (List.range bs.length).find? (fun i => !tkOf o i && freeP bs o i) with
  | some i => (i, true)
  | none => match (List.range bs.length).find? (fun i => !tkOf o i) with
    | some i => (i, false)
    | none => (0, false)
def srtP (bs : List Bx) : Nat → List Nat × Bool
  | 0 => ([], true)
  | r + 1 => ((srtP bs r).1 ++ [(pickP bs (srtP bs r).1).1], (srtP bs r).2 && (pickP bs (srtP bs r).1).2)
theorem find_congr {α : Type} {p q : α → Bool} : ∀ {l : List α}, (∀ x ∈ l, p x = q x) → l.find? p = l.find? q
  | [], _ => rfl
  | x :: r, h => by
    simp only [List.find?]
    rw [h x List.mem_cons_self, find_congr fun y hy => h y (List.mem_cons_of_mem _ hy)]
theorem all_in : ∀ (n : Nat) (o : List Nat), (∀ i, i < n → i ∈ o) → n ≤ o.length
  | 0, _, _ => Nat.zero_le _
  | n + 1, o, h => by
    have h1 := h n (by omega)
    have h2 := all_in n (o.erase n) fun i hi => (List.mem_erase_of_ne (by omega)).mpr (h i (by omega))
    rw [List.length_erase_of_mem h1] at h2
    have : 0 < o.length := List.length_pos_of_mem h1
    omega
theorem left_one {bs : List Bx} {o : List Nat} (h : o.length < bs.length) : ∃ i, (List.range bs.length).find? (fun i => !tkOf o i) = some i := by
  cases e : (List.range bs.length).find? (fun i => !tkOf o i) with
  | some i => exact ⟨i, rfl⟩
  | none =>
    have := all_in bs.length o fun i hi => by
      have := List.find?_eq_none.mp e i (by simpa using hi)
      simpa [tkOf] using this
    omega
theorem pick_ok {bs : List Bx} {o : List Nat} (h : o.length < bs.length) : (pickP bs o).1 < bs.length ∧ tkOf o (pickP bs o).1 = false := by
  unfold pickP
  cases e : (List.range bs.length).find? (fun i => !tkOf o i && freeP bs o i) with
  | some i =>
    have h1 := List.mem_of_find?_eq_some e
    have h2 := List.find?_some e
    simp at h1 h2
    exact ⟨h1, h2.1⟩
  | none =>
    obtain ⟨i, hi⟩ := left_one h
    have h1 := List.mem_of_find?_eq_some hi
    have h2 := List.find?_some hi
    simp only [hi]
    simp at h1 h2
    exact ⟨h1, h2⟩
theorem srt_len (bs : List Bx) : ∀ r, (srtP bs r).1.length = r
  | 0 => rfl
  | r + 1 => by simp [srtP, srt_len bs r]
def wP (bs : List Bx) (o : List Nat) (m : Nat) : Int := ((List.range bs.length).countP fun k => !tkOf o k && fstI bs k m : Nat)
theorem wP_le (bs : List Bx) (o : List Nat) (hn : bs.length ≤ 4000) (m : Nat) : 0 ≤ wP bs o m ∧ wP bs o m ≤ 4000 := by
  unfold wP
  have := List.countP_le_length (p := fun k => !tkOf o k && fstI bs k m) (l := List.range bs.length)
  rw [List.length_range] at this
  omega
theorem cnt_out (q : Nat → Bool) (i : Nat) : ∀ n, (List.range n).countP (fun k => q k && !(k == i)) + (if i < n ∧ q i = true then 1 else 0) = (List.range n).countP q
  | 0 => by simp
  | n + 1 => by
    have ih := cnt_out q i n
    rw [List.range_succ, List.countP_append, List.countP_append, ← ih]
    simp only [List.countP_singleton]
    by_cases e : n = i
    · subst e
      cases hq : q n <;> simp
    · have e' : (n == i) = false := by simpa using e
      rw [e']
      have : (i < n + 1 ∧ q i = true) ↔ (i < n ∧ q i = true) := ⟨fun h => ⟨by omega, h.2⟩, fun h => ⟨by omega, h.2⟩⟩
      simp only [this]
      simp
      omega
theorem wP_step {bs : List Bx} {o : List Nat} {i : Nat} (hi : i < bs.length) (ho : tkOf o i = false) : (fun m => if fstI bs i m then wP bs o m - 1 else wP bs o m) = wP bs (o ++ [i]) := by
  funext m
  have h := cnt_out (fun k => !tkOf o k && fstI bs k m) i bs.length
  have e : (fun k => (!tkOf o k && fstI bs k m) && !(k == i)) = fun k => !tkOf (o ++ [i]) k && fstI bs k m := by
    funext k
    simp only [tkOf, List.contains_eq_mem, List.mem_append, List.mem_singleton]
    by_cases h1 : k ∈ o <;> by_cases h2 : k = i <;> cases fstI bs k m <;> simp [h1, h2]
  rw [e] at h
  simp only [ho, Bool.not_false, Bool.true_and, hi, true_and] at h
  unfold wP
  by_cases f : fstI bs i m = true
  · rw [if_pos f] at h; simp only [f, if_true]; omega
  · rw [if_neg f] at h; simp only [f]; simp; omega
theorem next_pick {bs : List Bx} {o : List Nat} (h : o.length < bs.length) : nextT ((List.range bs.length).map (wP bs o)) ((List.range bs.length).map (tkOf o)) = .tup [I (pickP bs o).1, B (pickP bs o).2] := by
  unfold nextT pickP leastP
  have e1 : (List.range ((List.range bs.length).map (wP bs o)).length).find? (fun i => ((List.range bs.length).map (tkOf o))[i]? == some false && ((List.range bs.length).map (wP bs o))[i]? == some 0) = (List.range bs.length).find? (fun i => !tkOf o i && freeP bs o i) := by
    rw [List.length_map, List.length_range]
    refine find_congr fun x hx => ?_
    have hx' : x < bs.length := by simpa using hx
    rw [List.getElem?_map, List.getElem?_map, List.getElem?_range hx']
    simp only [Option.map_some]
    have e2 : (some (wP bs o x) == some 0) = freeP bs o x := by
      rw [Bool.eq_iff_iff]
      unfold wP freeP
      simp only [beq_iff_eq, Option.some.injEq]
      rw [show ((0 : Int) = ((0 : Nat) : Int)) from rfl, Int.ofNat_inj, List.countP_eq_zero, List.all_eq_true]
      refine forall_congr' fun k => forall_congr' fun hk => ?_
      cases tkOf o k <;> cases fstI bs k x <;> simp
    rw [e2]
    cases tkOf o x <;> simp
  rw [e1]
  cases (List.range bs.length).find? (fun i => !tkOf o i && freeP bs o i) with
  | some i => rfl
  | none =>
    have e3 : (List.range ((List.range bs.length).map (wP bs o)).length).find? (fun i => ((List.range bs.length).map (tkOf o))[i]? == some false) = (List.range bs.length).find? (fun i => !tkOf o i) := by
      rw [List.length_map, List.length_range]
      refine find_congr fun x hx => ?_
      have hx' : x < bs.length := by simpa using hx
      rw [List.getElem?_map, List.getElem?_range hx']
      simp only [Option.map_some]
      cases tkOf o x <;> simp
    obtain ⟨i, hi⟩ := left_one h
    simp only [e3, hi]
end Go.Proofs.Ytkdmhlmaeccekaa.AM
