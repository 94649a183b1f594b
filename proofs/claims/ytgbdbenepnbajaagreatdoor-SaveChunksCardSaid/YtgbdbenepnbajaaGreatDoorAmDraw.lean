/- Regions that draw their order: whatever order is drawn, the text's order tells what comes out. -/
import Derived.Test.YtgbdbenepnbajaaGreatDoorAmDraw0
namespace Go.Proofs.YtgbdbenepnbajaaGreatDoor.AM
open Go Go.RowKit
set_option linter.unusedVariables false
set_option linter.unusedSimpArgs false

theorem dstOk_spec {nt : Nat} {ops : Array Oper} (h : dstOk nt ops = true) : ∀ o ∈ ops.toList, ∀ x, o.dst = some x → x < nt := by
  intro o ho x hx
  unfold dstOk at h
  have := List.all_eq_true.1 h o ho
  rw [hx] at this
  simpa using this

/-! ### a part of the operations -/
def tS (t0 : Nat → AV) (dst : Nat → Option Tmp) (v : Nat → AV) (S : Nat → Bool) : Nat → Nat → AV
  | 0 => t0
  | k + 1 => if S k then upd (tS t0 dst v S k) (dst k) (v k) else tS t0 dst v S k

def hS (h0 : Heap) (nx : Nat → Heap → Heap) (S : Nat → Bool) : Nat → Heap
  | 0 => h0
  | k + 1 => if S k then nx k (hS h0 nx S k) else hS h0 nx S k

def ins (S : Nat → Bool) (i : Nat) : Nat → Bool := fun k => S k || k == i

theorem upd_comm {t : Nat → AV} {d d' : Option Tmp} {v v' : AV} (h : ∀ x, d = some x → d' ≠ some x) : upd (upd t d v) d' v' = upd (upd t d' v') d v := by
  funext k
  cases d with
  | none => cases d' <;> rfl
  | some x =>
    cases d' with
    | none => rfl
    | some y =>
      have : x ≠ y := fun e => h x rfl (by rw [e])
      simp only [upd]
      by_cases h1 : k = y
      · subst h1; simp [Ne.symm this]
      · by_cases h2 : k = x
        · subst h2; simp [h1]
        · simp [h1, h2]

section
variable {t0 : Nat → AV} {dst : Nat → Option Tmp} {v : Nat → AV} {S : Nat → Bool} {h0 : Heap} {nx : Nat → Heap → Heap} {m i : Nat}

theorem tS_ins (hi : i < m) (hS : S i = false) (hd : ∀ k, i < k → k < m → S k = true → ∀ x, dst i = some x → dst k ≠ some x) : tS t0 dst v (ins S i) m = upd (tS t0 dst v S m) (dst i) (v i) := by
  have key : ∀ n, n ≤ m → (n ≤ i → tS t0 dst v (ins S i) n = tS t0 dst v S n) ∧ (i < n → tS t0 dst v (ins S i) n = upd (tS t0 dst v S n) (dst i) (v i)) := by
    intro n
    induction n with
    | zero => intro _; exact ⟨fun _ => rfl, fun h => by omega⟩
    | succ n ih =>
      intro hn
      obtain ⟨ih1, ih2⟩ := ih (by omega)
      refine ⟨fun hle => ?_, fun hlt => ?_⟩
      · have : (n == i) = false := by simp; omega
        simp only [tS, ins, this, Bool.or_false, ih1 (by omega)]
      · by_cases e : n = i
        · subst e
          have e2 := ih1 (Nat.le_refl _)
          simp only [tS, hS, Bool.false_eq_true, if_false]
          rw [if_pos (by simp [ins]), e2]
        · have hb : (n == i) = false := by simp [e]
          have e2 := ih2 (by omega)
          simp only [tS]
          have e3 : ins S i n = S n := by simp [ins, hb]
          rw [e3, e2]
          cases hn' : S n with
          | false => simp
          | true =>
            simp only [if_true]
            exact upd_comm (fun x hx => hd n (by omega) (by omega) hn' x hx)
  exact (key m (Nat.le_refl _)).2 hi

theorem tS_get {r : Nat} (hi : i ≤ m) (h : ∀ k, k < m → dst k = some r → (k < i → S k = true) ∧ (i ≤ k → S k = false)) : tS t0 dst v S m r = tS t0 dst v (fun _ => true) i r := by
  have upd_ne : ∀ {t : Nat → AV} {d : Option Tmp} {x : AV}, d ≠ some r → upd t d x r = t r := by
    intro t d x hd
    cases d with
    | none => rfl
    | some d => simp only [upd]; rw [if_neg (fun e => hd (by rw [e]))]
  have key : ∀ n, n ≤ m → (n ≤ i → tS t0 dst v S n r = tS t0 dst v (fun _ => true) n r) ∧ (i ≤ n → tS t0 dst v S n r = tS t0 dst v (fun _ => true) i r) := by
    intro n
    induction n with
    | zero =>
      intro _
      refine ⟨fun _ => rfl, fun h0 => ?_⟩
      have : i = 0 := by omega
      rw [this]
      rfl
    | succ n ih =>
      intro hn
      obtain ⟨ih1, ih2⟩ := ih (by omega)
      have step1 : n < i → tS t0 dst v S (n + 1) r = tS t0 dst v (fun _ => true) (n + 1) r := by
        intro hlt
        have e := ih1 (by omega)
        simp only [tS, if_true]
        by_cases hd : dst n = some r
        · rw [(h n (by omega) hd).1 hlt]
          simp only [if_true, hd, upd]
        · cases S n with
          | true => simp only [if_true]; rw [upd_ne hd, upd_ne hd]; exact e
          | false => simp only [Bool.false_eq_true, if_false]; rw [upd_ne hd]; exact e
      refine ⟨fun hle => step1 (by omega), fun hge => ?_⟩
      by_cases e : i = n + 1
      · rw [e]; exact step1 (by omega)
      · have e2 := ih2 (by omega)
        simp only [tS]
        by_cases hd : dst n = some r
        · rw [(h n (by omega) hd).2 (by omega)]
          simpa using e2
        · cases S n with
          | true => simp only [if_true]; rw [upd_ne hd]; exact e2
          | false => simpa using e2
  exact (key m (Nat.le_refl _)).2 hi

theorem hS_ins (hi : i < m) (hS' : S i = false) (hc : ∀ k, i < k → k < m → S k = true → ∀ h, nx k (nx i h) = nx i (nx k h)) : hS h0 nx (ins S i) m = nx i (hS h0 nx S m) := by
  have key : ∀ n, n ≤ m → (n ≤ i → hS h0 nx (ins S i) n = hS h0 nx S n) ∧ (i < n → hS h0 nx (ins S i) n = nx i (hS h0 nx S n)) := by
    intro n
    induction n with
    | zero => intro _; exact ⟨fun _ => rfl, fun h => by omega⟩
    | succ n ih =>
      intro hn
      obtain ⟨ih1, ih2⟩ := ih (by omega)
      refine ⟨fun hle => ?_, fun hlt => ?_⟩
      · have : ins S i n = S n := by simp [ins]; intro e; omega
        simp only [hS]
        rw [this, ih1 (by omega)]
      · by_cases e : n = i
        · subst e
          have e2 := ih1 (Nat.le_refl _)
          simp only [hS, hS', Bool.false_eq_true, if_false]
          rw [if_pos (by simp [ins]), e2]
        · have e2 := ih2 (by omega)
          have e3 : ins S i n = S n := by simp [ins, e]
          simp only [hS]
          rw [e3, e2]
          cases hn' : S n with
          | false => simp
          | true => simp only [if_true]; exact hc n (by omega) (by omega) hn' _
  exact (key m (Nat.le_refl _)).2 hi

end

section
variable {P : Program} {md : Nat → Option CMode} {orc : Orc} {ops : Array Oper} {D0 : List Deferred} {nt n0 : Nat} {rd : Option Nat}

theorem txt_of {h0 : Heap} : ∀ (l : List Oper) (s s' : St), regD P md orc ops h0 l s = some s' → ∃ st : Nat → St, st 0 = s ∧ st l.length = s' ∧ ∀ (k : Nat) o, l[k]? = some o → stepD P md orc ops h0 o (st k) = some (st (k + 1))
  | [], s, s', e => by cases e; exact ⟨fun _ => s, rfl, rfl, fun k o h => by simp at h⟩
  | o :: l, s, s', e => by
    replace e := Option.bind_eq_some_iff.mp e; obtain ⟨s1, h1, e⟩ := e
    obtain ⟨st, h2, h3, h4⟩ := txt_of l s1 s' e
    refine ⟨fun k => match k with | 0 => s | k + 1 => st k, rfl, h3, fun k o' hk => ?_⟩
    cases k with
    | zero => simp at hk; subst hk; simp only; rw [h2]; exact h1
    | succ k => exact h4 k o' (by simpa using hk)

/-- What is known of an operation's step in the text's order. -/
def StepIs (P : Program) (md : Nat → Option CMode) (orc : Orc) (ops : Array Oper) (h0 : Heap) (s s1 : St) (o : Oper) (v : AV) (h1 : Heap) : Prop :=
  s1.t = upd s.t o.dst v ∧
  ((wantA ops s.t o = some false ∧ v = skipV ∧ s1.h = s.h ∧ s1.c = s.c) ∨
   (wantA ops s.t o = some true ∧ (3 ≤ kindA md ops o.op ∧ v.isPan = false) ∧ killOk ops s.t o = true ∧ opA P md orc s.t s.h s.c o.op = some (v, s1.h, s1.c)) ∨
   (wantA ops s.t o = some true ∧ ¬ 3 ≤ kindA md ops o.op ∧ freshA s.t o.op = true ∧ opA P md orc s.t h0 s.c o.op = some (v, h1, s1.c) ∧ s1.h = h1.lay s.c s1.c s.h))

theorem stepIs_of {h0 : Heap} {s s1 : St} {o : Oper} (e : stepD P md orc ops h0 o s = some s1) : ∃ p : AV × Heap, StepIs P md orc ops h0 s s1 o p.1 p.2 := by
  unfold stepD at e
  replace e := Option.bind_eq_some_iff.mp e; obtain ⟨w, hw, e⟩ := e
  cases w with
  | false => simp only [cond_false, Option.some.injEq] at e; subst e; exact ⟨(skipV, s.h), rfl, .inl ⟨hw, rfl, rfl, rfl⟩⟩
  | true =>
    simp only [cond_true] at e
    split at e
    · rename_i hk
      split at e
      · cases e
      · rename_i hkl
        obtain ⟨⟨v, h, c⟩, h1, e⟩ := Option.bind_eq_some_iff.mp e
        simp only at e
        split at e
        · cases e
        · rename_i hp
          cases e
          exact ⟨(v, h), rfl, .inr (.inl ⟨hw, ⟨hk, by simpa using hp⟩, by simpa using hkl, h1⟩)⟩
    · rename_i hk
      split at e
      · cases e
      · rename_i hf
        obtain ⟨⟨v, h, c⟩, h1, e⟩ := Option.map_eq_some_iff.mp e
        subst e
        exact ⟨(v, h), rfl, .inr (.inr ⟨hw, hk, by simpa using hf, h1, rfl⟩)⟩

theorem lay_comm {a b h : Heap} {c c1 d d1 : Nat} (hd : c1 ≤ d ∨ d1 ≤ c) : b.lay d d1 (a.lay c c1 h) = a.lay c c1 (b.lay d d1 h) := by
  funext l
  unfold Heap.lay
  by_cases h1 : c ≤ l ∧ l < c1
  · by_cases h2 : d ≤ l ∧ l < d1
    · omega
    · rw [if_neg h2, if_pos h1, if_pos h1]
  · by_cases h2 : d ≤ l ∧ l < d1
    · rw [if_pos h2, if_neg h1, if_pos h2]
    · rw [if_neg h2, if_neg h1, if_neg h1, if_neg h2]


theorem filter_lt {p q : Nat → Bool} {i : Nat} (hpq : ∀ k, p k = true → q k = true) (hp : p i = false) (hq : q i = true) : ∀ {l : List Nat}, i ∈ l → (l.filter p).length < (l.filter q).length
  | [], h => by cases h
  | k :: l, h => by
    have hle : ∀ l : List Nat, (l.filter p).length ≤ (l.filter q).length := by
      intro l
      induction l with
      | nil => simp
      | cons x l ih =>
        simp only [List.filter_cons]
        cases hx : p x with
        | true => rw [hpq x hx]; simpa using ih
        | false => cases q x <;> simp <;> omega
    simp only [List.filter_cons]
    by_cases e : k = i
    · subst e
      rw [hp, hq]
      have := hle l
      simp
      omega
    · have h' : i ∈ l := by
        rcases List.mem_cons.1 h with h | h
        · exact absurd h.symm e
        · exact h
      have ih := filter_lt hpq hp hq h'
      cases hx : p k with
      | true => rw [hpq k hx]; simpa using ih
      | false => cases q k <;> simp <;> omega

theorem tS_none {t0 : Nat → AV} {dst : Nat → Option Tmp} {v : Nat → AV} {S : Nat → Bool} : ∀ m, (∀ k, k < m → S k = false) → tS t0 dst v S m = t0
  | 0, _ => rfl
  | m + 1, h => by simp only [tS]; rw [h m (by omega)]; simpa using tS_none m (fun k hk => h k (by omega))
theorem hS_none {h0 : Heap} {nx : Nat → Heap → Heap} {S : Nat → Bool} : ∀ m, (∀ k, k < m → S k = false) → hS h0 nx S m = h0
  | 0, _ => rfl
  | m + 1, h => by simp only [hS]; rw [h m (by omega)]; simpa using hS_none m (fun k hk => h k (by omega))
theorem tS_all {t0 : Nat → AV} {dst : Nat → Option Tmp} {v : Nat → AV} {S : Nat → Bool} : ∀ m, (∀ k, k < m → S k = true) → tS t0 dst v S m = tS t0 dst v (fun _ => true) m
  | 0, _ => rfl
  | m + 1, h => by simp only [tS]; rw [h m (by omega), tS_all m (fun k hk => h k (by omega))]; simp

theorem filter_two {α : Type} (p : α → Bool) : ∀ (l : List α) (a b : Nat) (x y : α), l[a]? = some x → l[b]? = some y → p x = true → p y = true → a < b → 2 ≤ (l.filter p).length
  | [], a, _, x, _, h, _, _, _, _ => by simp at h
  | z :: r, 0, b + 1, x, y, h1, h2, hx, hy, _ => by
    simp only [List.getElem?_cons_zero, Option.some.injEq] at h1
    subst h1
    simp only [List.getElem?_cons_succ] at h2
    rw [List.filter_cons_of_pos hx, List.length_cons]
    have : 0 < (r.filter p).length := List.length_pos_of_mem (List.mem_filter.2 ⟨List.mem_of_getElem? h2, hy⟩)
    omega
  | z :: r, a + 1, b + 1, x, y, h1, h2, hx, hy, h => by
    simp only [List.getElem?_cons_succ] at h1 h2
    have := filter_two p r a b x y h1 h2 hx hy (by omega)
    rw [List.filter_cons]
    split
    · rw [List.length_cons]; omega
    · exact this
  | _ :: _, _, 0, _, _, _, _, _, _, h => by omega

theorem newT_spec {ops : Array Oper} {d : Tmp} (h : newT ops d = true) {a : Nat} {q : Oper} (ha : ops[a]? = some q) (hq : q.dst = some d) :
    (q.guard = none ∧ ∃ T, q.op = .alloc T) ∧ ∀ (b : Nat) (q' : Oper), ops[b]? = some q' → q'.dst = some d → b = a := by
  unfold newT at h
  simp only [Bool.and_eq_true, beq_iff_eq, List.any_eq_true] at h
  obtain ⟨h1, o, ho, ⟨h2, h3⟩, h4⟩ := h
  have uniq : ∀ (b : Nat) (q' : Oper), ops[b]? = some q' → q'.dst = some d → ∀ (b2 : Nat) (q2 : Oper), ops[b2]? = some q2 → q2.dst = some d → b = b2 := by
    intro b q' hb hb' b2 q2 hb2 hb2'
    rcases Nat.lt_trichotomy b b2 with h5 | h5 | h5
    · have := filter_two (fun o : Oper => o.dst == some d) ops.toList b b2 q' q2 (by simpa using hb) (by simpa using hb2) (by simp [hb']) (by simp [hb2']) h5
      omega
    · exact h5
    · have := filter_two (fun o : Oper => o.dst == some d) ops.toList b2 b q2 q' (by simpa using hb2) (by simpa using hb) (by simp [hb2']) (by simp [hb']) h5
      omega
  obtain ⟨b, hb⟩ := List.getElem?_of_mem ho
  have hb' : ops[b]? = some o := by simpa using hb
  have e := uniq b o hb' h2 a q ha hq
  subst e
  rw [hb'] at ha
  cases ha
  refine ⟨⟨by simpa using h3, ?_⟩, fun b q' hb2 hb2' => uniq b q' hb2 hb2' _ _ hb' hq⟩
  · revert h4
    split
    · rename_i T hT; exact fun _ => ⟨T, hT⟩
    · intro h; cases h

/-- What 'drawOk' says of two operations. -/
structure Pairs (md : Nat → Option CMode) (ops : Array Oper) (A : Nat → Nat → Bool) : Prop where
  edge : ∀ (i : Nat) o, ops[i]? = some o → ∀ e ∈ edgesOn o, e < i
  cert : ∀ (i : Nat) o, ops[i]? = some o → ∀ j, j < ops.size → A i j = true → ∃ e ∈ edgesOn o, e = j ∨ A e j = true
  apart : ∀ (i k : Nat) o p, ops[i]? = some o → ops[k]? = some p → k < i → A i k = false → p.apart ops o = true ∧ (kindA md ops o.op = 3 → kindA md ops p.op = 0 ∨ besides ops k p o = true) ∧ (kindA md ops p.op = 3 → kindA md ops o.op = 0)
  late : ∀ (i k : Nat) o p, ops[i]? = some o → ops[k]? = some p → k < i → kindA md ops p.op = 3 → kindA md ops o.op = 0 ∨ kindA md ops o.op = 3
  tgt : ∀ (i k : Nat) o p d, ops[i]? = some o → ops[k]? = some p → k < i → tgtA md ops o.op = some d → tgtA md ops p.op ≠ some d
  src : ∀ (i : Nat) o d, ops[i]? = some o → tgtA md ops o.op = some d → ∃ (a : Nat) (q : Oper), a < i ∧ A i a = true ∧ ops[a]? = some q ∧ q.dst = some d

theorem noPan_of {ops : Array Oper} {o : Op} (h : ¬ 3 ≤ kindA md ops o) : noPan md o = true := by
  cases o <;> try rfl
  case panic => exact absurd (show 3 ≤ kindA md ops _ from Nat.le_refl _) h
  case call cl =>
    obtain ⟨callee, args, ts⟩ := cl
    cases callee with
    | builtin b => rfl
    | invoke r m => rfl
    | value f =>
      cases f with
      | func g =>
        simp only [kindA] at h
        simp only [noPan]
        cases hm : md g with
        | none => rfl
        | some m => rw [hm] at h; cases m <;> first | rfl | exact absurd (Nat.le_refl _) h
      | _ => exact absurd (Nat.le_refl _) h
theorem pairs_of (h : drawOk md nt ops = true) : dstOk nt ops = true ∧ ∃ A, Pairs md ops A := by
  unfold drawOk at h
  simp only [Bool.and_eq_true, List.all_eq_true, List.mem_range] at h
  obtain ⟨h1, h2⟩ := h
  refine ⟨h1, anc (ancs ops.toList []), ?_⟩
  have get : ∀ (i : Nat) o, ops[i]? = some o → (∀ e ∈ edgesOn o, e < i) ∧ (∀ j, j < ops.size → anc (ancs ops.toList []) i j = true → ∃ e ∈ edgesOn o, e = j ∨ anc (ancs ops.toList []) e j = true) ∧ (∀ k, k < i → pairOk md ops (ancs ops.toList []) i o k = true) ∧
      (∀ d, tgtA md ops o.op = some d → ∃ (a : Nat) (q : Oper), a < i ∧ anc (ancs ops.toList []) i a = true ∧ ops[a]? = some q ∧ q.dst = some d) := by
    intro i o hi
    have h3 := h2 i (Array.getElem?_eq_some_iff.1 hi).1
    unfold operOk at h3
    rw [hi] at h3
    simp only [Bool.and_eq_true] at h3
    obtain ⟨⟨⟨h4, h5⟩, h6⟩, h7⟩ := h3
    simp only [List.all_eq_true, List.mem_range, decide_eq_true_eq] at h4 h5 h6
    refine ⟨h4, fun j hj ha => ?_, h6, fun d hd => ?_⟩
    · have := h5 j hj
      rw [ha] at this
      simp only [Bool.not_true, Bool.false_or, List.any_eq_true, Bool.or_eq_true, beq_iff_eq] at this
      obtain ⟨e, he, h4⟩ := this
      exact ⟨e, he, h4⟩
    · rw [hd] at h7
      simp only [List.any_eq_true, List.mem_range, Bool.and_eq_true] at h7
      obtain ⟨a, ha, h8, h9⟩ := h7
      cases hq : ops[a]? with
      | none => rw [hq] at h9; cases h9
      | some q => rw [hq] at h9; exact ⟨a, q, ha, h8, hq, by simpa using h9⟩
  have pair : ∀ (i k : Nat) o p, ops[i]? = some o → ops[k]? = some p → k < i → (anc (ancs ops.toList []) i k = false → p.apart ops o = true ∧ (kindA md ops o.op = 3 → kindA md ops p.op = 0 ∨ besides ops k p o = true) ∧ (kindA md ops p.op = 3 → kindA md ops o.op = 0)) ∧ (kindA md ops p.op = 3 → kindA md ops o.op = 0 ∨ kindA md ops o.op = 3) ∧
      (∀ d, tgtA md ops o.op = some d → tgtA md ops p.op ≠ some d) := by
    intro i k o p hi hk hlt
    have := (get i o hi).2.2.1 k hlt
    unfold pairOk at this
    rw [hk] at this
    simp only [Bool.and_eq_true, Bool.or_eq_true, bne_iff_ne, ne_eq, beq_iff_eq, Option.isNone_iff_eq_none] at this
    obtain ⟨⟨h3, h4⟩, h8⟩ := this
    refine ⟨fun ha => ?_, fun h5 => ?_, fun d hd e => ?_⟩
    · rcases h3 with h3 | ⟨⟨h3, h6⟩, h7⟩
      · rw [ha] at h3; cases h3
      · refine ⟨h3, fun h => ?_, fun h => h7.resolve_left (fun h' => h' h)⟩
        rcases h6 with (h6 | h6) | h6
        · exact absurd h h6
        · exact .inl h6
        · exact .inr h6
    · rcases h4 with (h4 | h4) | h4
      · exact absurd h5 h4
      · exact .inl h4
      · exact .inr h4
    · rcases h8 with h8 | h8
      · rw [hd] at h8; cases h8
      · exact h8 (by rw [hd, e])
  exact ⟨fun i o hi => (get i o hi).1, fun i o hi => (get i o hi).2.1, fun i k o p hi hk hlt => (pair i k o p hi hk hlt).1, fun i k o p hi hk hlt => (pair i k o p hi hk hlt).2.1, fun i k o p d hi hk hlt => (pair i k o p hi hk hlt).2.2 d, fun i o d hi hd => (get i o hi).2.2.2 d hd⟩

def Closed (ops : Array Oper) (S : Nat → Bool) : Prop := ∀ (i : Nat) o, ops[i]? = some o → S i = true → ∀ e ∈ edgesOn o, S e = true

theorem Pairs.down {A : Nat → Nat → Bool} (Q : Pairs md ops A) {S : Nat → Bool} (hS : Closed ops S) : ∀ (i : Nat) o, ops[i]? = some o → (∀ e ∈ edgesOn o, S e = true) → ∀ j, j < ops.size → A i j = true → S j = true := by
  intro i
  induction i using Nat.strongRecOn with
  | _ i ih =>
    intro o hi he j hj ha
    obtain ⟨e, h1, h2⟩ := Q.cert i o hi j hj ha
    rcases h2 with rfl | h2
    · exact he e h1
    · have hlt := Q.edge i o hi e h1
      have hi' := (Array.getElem?_eq_some_iff.1 hi).1
      obtain ⟨o', ho'⟩ : ∃ o', ops[e]? = some o' := ⟨ops[e]'(by omega), Array.getElem?_eq_getElem (by omega)⟩
      exact ih e hlt o' ho' (hS e o' ho' (he e h1)) j hj h2

theorem kindA_le (md : Nat → Option CMode) (ops : Array Oper) (o : Op) : kindA md ops o ≤ 4 := by
  unfold kindA
  repeat' split
  all_goals omega

/-- The block that a wanted store fills. -/
def lkA (w : Option Bool) (t : Nat → AV) (o : Op) : Option Nat :=
  match w, o with
  | some true, .store _ a _ => (match evA t a with | .ptr l _ _ => some l | _ => none)
  | _, _ => none

/-- What another memory holds in a block, put into this one. -/
def putA (l : Option Nat) (h' h : Heap) : Heap := match l with
  | some l => h.put l (h' l)
  | none => h

theorem putA_get (l : Option Nat) (h' h : Heap) (k : Nat) (hk : l ≠ some k) : putA l h' h k = h k := by
  unfold putA
  split
  · rename_i l
    show (if k = l then _ else _) = _
    rw [if_neg (fun e => hk (by rw [e]))]
  · rfl

theorem kind4_inv {o : Op} (h : kindA md ops o = 4) : ∃ T d x, o = .store T (.tmp d) x ∧ newT ops d = true := by
  unfold kindA at h
  split at h <;> try omega
  · split at h
    · split at h
      · rename_i hn; exact ⟨_, _, _, rfl, hn⟩
      · omega
    · omega
  · rename_i cl
    split at h
    · rename_i b
      split at h <;> try omega
      split at h <;> try omega
      split at h <;> omega
    · split at h <;> omega
    · omega

theorem lateR_spec {r : Tmp} {k : Nat} (h : lateR ops r k = true) : ∀ (j : Nat) (q : Oper), ops[j]? = some q → q.dst = some r → j < k := by
  intro j q hj e
  unfold lateR at h
  rw [List.all_eq_true] at h
  have hm : (q, j) ∈ ops.toList.zipIdx := by
    rw [List.mem_zipIdx_iff_getElem?]
    simpa using hj
  have := h (q, j) hm
  simp only [e, bne_self_eq_false, Bool.false_or, decide_eq_true_eq] at this
  exact this

theorem loadsAt_spec {r : Tmp} (h : (loadsAt ops).contains r = true) : ∀ (j : Nat) (q : Oper), ops[j]? = some q → q.dst ≠ some r := by
  intro j q hj e
  simp only [List.contains_iff_mem] at h
  unfold loadsAt at h
  obtain ⟨o, _, h2⟩ := List.mem_filterMap.1 h
  split at h2
  · rename_i r' _
    split at h2
    · rename_i h3
      simp only [Option.some.injEq] at h2
      subst h2
      rw [List.all_eq_true] at h3
      have := h3 q (List.mem_of_getElem? (by simpa using hj))
      rw [e] at this
      simp at this
    · cases h2
  · cases h2

/-- An append leaves what the loads read. -/
theorem append_frame {t : Nat → AV} {h h1 : Heap} {c c1 : Nat} {v : AV} {cl : Call} {o : Oper} (ho : o.op = .call cl) (hb : cl.callee = .builtin .append) (hk : killOk ops t o = true) (e : opA P md orc t h c (.call cl) = some (v, h1, c1)) :
    ∀ (r : Tmp) (l i f : Nat), (loadsAt ops).contains r = true → t r = .ptr l i f → ¬ (c ≤ l ∧ l < c1) → h1 l = h l := by
  intro r l i f hr ht hl
  unfold killOk at hk
  rw [ho] at hk
  obtain ⟨callee, args, ts⟩ := cl
  cases hb
  unfold opA at e
  simp only at e
  unfold builtinA at e
  split at e <;> try cases e
  · rename_i heq _ _; cases heq
  · rename_i t1 t2 s x heq hts hargs
    cases heq
    split at e
    · unfold appendA at e
      replace e := Option.bind_eq_some_iff.mp e; obtain ⟨_, _, e⟩ := e
      replace e := Option.bind_eq_some_iff.mp e; obtain ⟨_, _, e⟩ := e
      replace e := Option.bind_eq_some_iff.mp e; obtain ⟨_, _, e⟩ := e
      replace e := Option.bind_eq_some_iff.mp e; obtain ⟨_, _, e⟩ := e
      replace e := Option.bind_eq_some_iff.mp e; obtain ⟨_, _, e⟩ := e
      split at e
      · split at e
        · split at e <;> cases e <;> rfl
        · split at e
          · split at e
            · cases e
              show (if _ then _ else _) = _
              rw [if_neg (by omega)]
            · cases e
          · split at e
            · cases e
              show (if _ then _ else _) = _
              rw [if_neg (by omega)]
            · cases e
          · rename_i l2 sz2 off2 len2
            replace e := Option.bind_eq_some_iff.mp e; obtain ⟨_, _, e⟩ := e
            split at e
            · cases e
              have hne : l ≠ l2 := by
                intro e2
                subst e2
                simp only at hk
                cases hal : args.toList with
                | nil => rw [hal] at hargs; cases hargs
                | cons y ys =>
                  rw [hal] at hargs hk
                  simp only [List.map_cons, List.cons.injEq] at hargs
                  simp only [hargs.1, List.all_eq_true] at hk
                  have := hk r (by simpa using hr)
                  rw [ht] at this
                  simp at this
              show (if _ then _ else if _ then _ else _) = _
              rw [if_neg (by omega), if_neg hne]
            · cases e
          · cases e
      · cases e
    · cases e
  all_goals first | (rename_i heq _ _; cases heq; done) | (rename_i heq _; cases heq; done) | (rename_i heq; cases heq; done)

/-- A store leaves what other loads read. -/
theorem store_frame {t : Nat → AV} {h h1 : Heap} {c c1 : Nat} {v : AV} {T : TypeId} {a : Tmp} {x : Operand} {o : Oper} (ho : o.op = .store T (.tmp a) x) (hn : newT ops a = false) (hk : killOk ops t o = true) (e : opA P md orc t h c (.store T (.tmp a) x) = some (v, h1, c1))
    {k : Nat} {p : Oper} {T' : TypeId} {r : Tmp} (hp : ops[k]? = some p) (hpo : p.op = .load T' (.tmp r)) (hra : (r != a) = true) (hed : (edgesOn o).contains k = false) : ∀ (l i f : Nat), t r = .ptr l i f → h1 l = h l := by
  intro l i f ht
  unfold killOk at hk
  rw [ho] at hk
  simp only [hn, cond_false] at hk
  unfold opA at e
  simp only at e
  replace e := Option.bind_eq_some_iff.mp e; obtain ⟨n, _, e⟩ := e
  split at e
  · obtain ⟨h2, hst, e⟩ := Option.map_eq_some_iff.mp e
    cases e
    rw [show evA t (.tmp a) = t a from rfl] at hst
    unfold stA at hst
    split at hst
    · rename_i l2 i2 f2 hta
      rw [hta] at hk
      simp only [List.all_eq_true] at hk
      have hm : (p, k) ∈ ops.toList.zipIdx := by
        rw [List.mem_zipIdx_iff_getElem?]
        simpa using hp
      have := hk (p, k) hm
      simp only [hpo, hed, ht, Bool.false_or, Bool.or_eq_true] at this
      have hne : l ≠ l2 := by
        rcases this with h5 | h5
        · simp only [beq_iff_eq] at h5
          simp [h5] at hra
        · simpa using h5
      replace hst := Option.bind_eq_some_iff.mp hst; obtain ⟨b, _, hst⟩ := hst
      replace hst := Option.bind_eq_some_iff.mp hst; obtain ⟨e2, _, hst⟩ := hst
      split at hst
      · cases hst
        show (if _ then _ else _) = _
        rw [if_neg hne]
      · cases hst
    · cases hst
  · cases e
/-- What comes beside a load. -/
theorem besides_inv {k : Nat} {p o : Oper} (h : besides ops k p o = true) : ∃ T r, p.op = .load T (.tmp r) ∧ ∀ (j : Nat) (q : Oper), k ≤ j → ops[j]? = some q → q.dst ≠ some r := by
  unfold besides at h
  split at h
  · rename_i T r cl hp ho
    simp only [Bool.and_eq_true] at h
    exact ⟨T, r, hp, fun j q _ hj => loadsAt_spec h.1 j q hj⟩
  · rename_i T r T2 a x hp ho
    simp only [Bool.and_eq_true] at h
    exact ⟨T, r, hp, fun j q hkj hj e => by
      have := lateR_spec h.1.1.1 j q hj e
      omega⟩
  · cases h
theorem besides_frame {k : Nat} {p o : Oper} {t : Nat → AV} {h h1 : Heap} {c c1 : Nat} {v : AV} {T : TypeId} {r : Tmp} (hp : ops[k]? = some p) (hpo : p.op = .load T (.tmp r)) (hb : besides ops k p o = true) (hk : killOk ops t o = true) (e : opA P md orc t h c o.op = some (v, h1, c1)) :
    ∀ (l i f : Nat), t r = .ptr l i f → ¬ (c ≤ l ∧ l < c1) → h1 l = h l := by
  intro l i f ht hl
  unfold besides at hb
  split at hb
  · rename_i T2 r2 cl hp2 ho
    rw [hpo] at hp2
    cases hp2
    simp only [Bool.and_eq_true] at hb
    have hc : cl.callee = .builtin .append := by
      have h2 := hb.2
      split at h2
      · rename_i hc; exact hc
      · cases h2
    rw [ho] at e
    exact append_frame ho hc hk e r l i f hb.1 ht hl
  · rename_i T2 r2 T3 a x hp2 ho
    rw [hpo] at hp2
    cases hp2
    simp only [Bool.and_eq_true, Bool.not_eq_true'] at hb
    rw [ho] at e
    exact store_frame ho hb.1.2 hk e hp hpo hb.1.1.2 hb.2 l i f ht
  · cases hb

theorem store4 {t : Nat → AV} {h h' h1 : Heap} {c c1 : Nat} {v : AV} {T : TypeId} {d : Tmp} {x : Operand} {l i f : Nat} (ht : t d = .ptr l i f) (he : h' l = h l) (e : opA P md orc t h c (.store T (.tmp d) x) = some (v, h1, c1)) :
    opA P md orc t h' c (.store T (.tmp d) x) = some (v, putA (some l) h1 h', c1) := by
  unfold opA at e ⊢
  simp only at e ⊢
  replace e := Option.bind_eq_some_iff.mp e; obtain ⟨n, hn, e⟩ := e
  rw [hn]
  simp only [Option.bind_some]
  split at e
  · rename_i hc
    rw [if_pos hc]
    obtain ⟨hh, e1, e⟩ := Option.map_eq_some_iff.mp e
    cases e
    have hev : evA t (.tmp d) = .ptr l i f := ht
    rw [hev] at e1 ⊢
    unfold stA at e1 ⊢
    simp only at e1 ⊢
    rw [he]
    replace e1 := Option.bind_eq_some_iff.mp e1; obtain ⟨b, hb, e1⟩ := e1
    replace e1 := Option.bind_eq_some_iff.mp e1; obtain ⟨e2, he2, e1⟩ := e1
    rw [hb]
    simp only [Option.bind_some]
    rw [he2]
    simp only [Option.bind_some]
    split at e1
    · rename_i h3
      rw [if_pos h3]
      cases e1
      simp only [Option.map_some, Option.some.injEq, Prod.mk.injEq, true_and, and_true]
      unfold putA
      simp only
      funext k
      show (if _ then _ else _) = (if _ then _ else _)
      split
      · show _ = (if _ then _ else _); rw [if_pos rfl]
      · rfl
    · cases e1
  · cases e

theorem load_at {t : Nat → AV} {h h' h1 : Heap} {c c1 : Nat} {v : AV} {T : TypeId} {a : Operand} (he : ∀ l i f, evA t a = .ptr l i f → h l ≠ none → h' l = h l) (e : opA P md orc t h c (.load T a) = some (v, h1, c1)) :
    opA P md orc t h' c (.load T a) = some (v, h', c1) := by
  unfold opA at e ⊢
  simp only at e ⊢
  replace e := Option.bind_eq_some_iff.mp e; obtain ⟨n, hn, e⟩ := e
  replace e := Option.bind_eq_some_iff.mp e; obtain ⟨ag, hag, e⟩ := e
  rw [hn, Option.bind_some, hag, Option.bind_some]
  split at e
  · cases e
  · rename_i h2
    rw [if_neg h2]
    obtain ⟨cs, hcs, e⟩ := Option.map_eq_some_iff.mp e
    cases e
    have : ld h' n (evA t a) = some cs := by
      unfold ld at hcs ⊢
      cases hx : evA t a <;> rw [hx] at hcs <;> simp only at hcs ⊢ <;> try exact hcs
      replace hcs := Option.bind_eq_some_iff.mp hcs; obtain ⟨b, hb, hcs⟩ := hcs
      rw [he _ _ _ hx (by rw [hb]; simp), hb]
      exact hcs
    rw [this]
    rfl

theorem draw_sound (hx : P.follows .mixedOrders = true) (hm : MdOk P md) (ho : OrcOk P md orc) (hok : drawOk md nt ops = true) {s s' : St} (e : regD P md orc ops s.h ops.toList s = some s') : s.c ≤ s'.c ∧
    ∀ (ρ : Pls) (F : Nat → Prop) (base : Nat) (a : Act) (w : World), SR D0 nt n0 ρ F base s a w → base ≤ w.heap.size → (∀ k, F k → k < base) → Fr ρ s.c s'.c → ∀ (id : Nat) (Q : Exit → Act → World → Prop),
      (∀ ρ' a' w', SR D0 nt n0 ρ' F base s' a' w' → Way F base ρ s.h w s.c ρ' s'.h w' s'.c → Q .normal a' w') → (Code.region id ops true).wpIn (FR rd) 0 P Q a w := by
  obtain ⟨hdst, A, PR⟩ := pairs_of hok
  obtain ⟨st, hst0, hstm, hst⟩ := txt_of ops.toList s s' e
  have hsk : ∀ k, ∃ p : AV × Heap, ∀ o, ops[k]? = some o → StepIs P md orc ops s.h (st k) (st (k + 1)) o p.1 p.2 := by
    intro k
    cases hk : ops[k]? with
    | none => exact ⟨(.bad, s.h), fun o h => by cases h⟩
    | some o =>
      obtain ⟨p, hp⟩ := stepIs_of (hst k o (by simpa using hk))
      exact ⟨p, fun o' h => by cases h; exact hp⟩
  obtain ⟨f, hf⟩ := Classical.skolem.mp hsk
  let m := ops.size
  have hstm' : st m = s' := by rw [← hstm]; simp [m]
  -- the counters
  have hcle : ∀ (k : Nat) o, ops[k]? = some o → (st k).c ≤ (st (k + 1)).c := by
    intro k o hk
    obtain ⟨_, h | h | h⟩ := hf k o hk
    · rw [h.2.2.2]; exact Nat.le_refl _
    · exact (opA_sound (a := ⟨#[], []⟩) hm ho h.2.2.2 (.inl h.2.1.2)).1
    · exact (opA_sound (a := ⟨#[], []⟩) hm ho h.2.2.2.1 (nopan_op (noPan_of h.2.1) h.2.2.2.1)).1
  have hmono : ∀ j k, j ≤ k → k ≤ m → (st j).c ≤ (st k).c := by
    intro j k hjk hkm
    induction hjk with
    | refl => exact Nat.le_refl _
    | step hjk ih =>
      rename_i k
      exact Nat.le_trans (ih (by omega)) (hcle k ops[k] (Array.getElem?_eq_getElem (by omega)))
  refine ⟨by have := hmono 0 m (Nat.zero_le _) (Nat.le_refl _); rw [hst0, hstm'] at this; exact this, ?_⟩
  intro ρ0 F base a0 w0 S0 hbase hF fr id Q hQ
  have fr0 : ∀ l, (st 0).c ≤ l → l < (st m).c → ρ0 l = none := by rw [hst0, hstm']; exact fr
  -- small kinds leave the counter
  have hsmall : ∀ (k : Nat) o, ops[k]? = some o → (kindA md ops o.op = 0 ∨ kindA md ops o.op = 1) → (st (k + 1)).c = (st k).c := by
    intro k o hk hkd
    obtain ⟨_, h | h | h⟩ := hf k o hk
    · exact h.2.2.2
    · omega
    · rcases hkd with hkd | hkd
      · exact (kind0 hkd h.2.2.2.1).2.1
      · have hn : ∀ l, (st k).c ≤ l → l < (st (k + 1)).c → s.h l = none ∧ s.h l = none := by
          intro l h1 h2
          have : ρ0 l = none := fr0 l (Nat.le_trans (hmono 0 k (Nat.zero_le _) (by have := (Array.getElem?_eq_some_iff.1 hk).1; omega)) h1) (Nat.lt_of_lt_of_le h2 (hmono (k + 1) m (by have := (Array.getElem?_eq_some_iff.1 hk).1; omega) (Nat.le_refl _)))
          have hnone : s.h l = none := by
            cases hl : s.h l with
            | none => rfl
            | some b => obtain ⟨p, hp, _⟩ := S0.rel.lt hl; rw [this] at hp; cases hp
          exact ⟨hnone, hnone⟩
        exact (kind12 (h' := s.h) (.inl hkd) h.2.2.1 (fun _ _ h => h) hn h.2.2.2.1).2 hkd
  let dst : Nat → Option Tmp := fun k => (ops[k]?).bind (·.dst)
  let vk : Nat → AV := fun k => (f k).1
  let kd : Nat → Nat := fun k => match ops[k]? with | some o => kindA md ops o.op | none => 0
  let lk : Nat → Option Nat := fun k => match ops[k]? with
    | some o => lkA (wantA ops (st k).t o) (st k).t o.op
    | none => none
  let nx : Nat → Heap → Heap := fun k h => if kd k = 3 then (st (k + 1)).h else if kd k = 4 then putA (lk k) (st (k + 1)).h h else (f k).2.lay (st k).c (st (k + 1)).c h
  let tt : (Nat → Bool) → Nat → AV := fun S => tS s.t dst vk S m
  let hh : (Nat → Bool) → Heap := fun S => hS s.h nx S m
  have hdk : ∀ (k : Nat) o, ops[k]? = some o → dst k = o.dst := fun k o hk => by simp only [dst, hk, Option.bind_some]
  have hkk : ∀ (k : Nat) o, ops[k]? = some o → kd k = kindA md ops o.op := fun k o hk => by simp only [kd, hk]
  have hk4 : ∀ (k : Nat) o, ops[k]? = some o → kd k ≤ 4 := fun k o hk => by rw [hkk k o hk]; exact kindA_le _ _ _
  have hop : ∀ k, k < m → ∃ o, ops[k]? = some o := fun k hk => ⟨ops[k], Array.getElem?_eq_getElem hk⟩
  have hnx0 : ∀ k, k < m → (kd k = 0 ∨ kd k = 1) → ∀ h, nx k h = h := by
    intro k hk hkd h
    obtain ⟨o, hok⟩ := hop k hk
    have h3 : kd k ≠ 3 := by omega
    have h4 : kd k ≠ 4 := by omega
    simp only [nx, if_neg h3, if_neg h4]
    rw [hsmall k o hok (by rw [← hkk k o hok]; exact hkd), lay_same]
  -- the text's order itself
  have htext : ∀ k, k ≤ m → tS s.t dst vk (fun _ => true) k = (st k).t := by
    intro k
    induction k with
    | zero => intro _; simp only [tS]; rw [hst0]
    | succ k ih =>
      intro hk
      obtain ⟨o, hok⟩ := hop k (by omega)
      simp only [tS, if_true]
      rw [ih (by omega), hdk k o hok, (hf k o hok).1]
  have htd : ∀ (r : Tmp) (n : Nat), n ≤ m → (∀ j, j < n → dst j ≠ some r) → (st n).t r = s.t r := by
    intro r n
    induction n with
    | zero => intro _ _; rw [hst0]
    | succ n ih =>
      intro hn hj
      obtain ⟨o, hok⟩ := hop n (by omega)
      rw [(hf n o hok).1]
      have h1 := hj n (by omega)
      rw [hdk n o hok] at h1
      have h2 := ih (by omega) (fun j hj' => hj j (by omega))
      cases hd : o.dst with
      | none => exact h2
      | some d =>
        simp only [upd]
        rw [if_neg (fun e => h1 (by rw [hd, e])), h2]
  have hta : ∀ (d : Tmp) (a : Nat) (q : Oper), ops[a]? = some q → q.dst = some d → (∀ (b : Nat) (q' : Oper), ops[b]? = some q' → q'.dst = some d → b = a) → ∀ n, a < n → n ≤ m → (st n).t d = vk a := by
    intro d a q ha hq hu n
    induction n with
    | zero => intro h; omega
    | succ n ih =>
      intro hlt hn
      obtain ⟨o, hok⟩ := hop n (by omega)
      rw [(hf n o hok).1]
      by_cases e : n = a
      · subst e
        rw [ha] at hok; cases hok
        rw [hq]
        simp [upd, vk]
      · have h2 := ih (by omega) (by omega)
        cases hd : o.dst with
        | none => exact h2
        | some d' =>
          simp only [upd]
          rw [if_neg (fun e' => e (hu n o hok (by rw [hd, e']))), h2]
  have hfour : ∀ (k : Nat) o, ops[k]? = some o → kd k = 4 → ∃ (d : Tmp) (a : Nat) (q : Oper), tgtA md ops o.op = some d ∧ a < k ∧ A k a = true ∧ ops[a]? = some q ∧ q.dst = some d ∧ kd a = 2 ∧ (st (a + 1)).c = (st a).c + 1 ∧ (∀ (b : Nat) (q' : Oper), ops[b]? = some q' → q'.dst = some d → b = a) ∧
      ((lk k = none ∧ (st (k + 1)).h = (st k).h ∧ (st (k + 1)).c = (st k).c) ∨ (lk k = some (st a).c ∧ wantA ops (st k).t o = some true ∧ (∃ b, (st (k + 1)).h = (st k).h.put (st a).c b) ∧ (st (k + 1)).c = (st k).c)) := by
    intro k o hk h4
    have hk4' : kindA md ops o.op = 4 := by rw [← hkk k o hk]; exact h4
    obtain ⟨T, d, x, hop', hn⟩ := kind4_inv hk4'
    have htg : tgtA md ops o.op = some d := by rw [hop']; unfold tgtA; simp only; rw [if_pos hn]
    obtain ⟨a, q, hlt, hA, ha, hqd⟩ := PR.src k o d hk htg
    obtain ⟨⟨hg, T', hqo⟩, hu⟩ := newT_spec hn ha hqd
    have hkm : k < m := (Array.getElem?_eq_some_iff.1 hk).1
    have hka : kd a = 2 := by rw [hkk a q ha, hqo]; rfl
    have hw : wantA ops (st a).t q = some true := by unfold wantA; rw [hg]
    obtain ⟨_, h | h | h⟩ := hf a q ha
    · rw [hw] at h; cases h.1
    · exfalso; have := h.2.1.1; rw [← hkk a q ha] at this; omega
    · have h5 := h.2.2.2.1
      rw [hqo] at h5
      have hal : (st (a + 1)).c = (st a).c + 1 ∧ (vk a = .ptr (st a).c 0 0 ∨ ∃ sz n, vk a = .arr (st a).c sz n) := by
        have h6 : allocA P T' s.h (st a).c = some ((f a).1, (f a).2, (st (a + 1)).c) := h5
        unfold allocA at h6
        split at h6
        · replace h6 := Option.bind_eq_some_iff.mp h6; obtain ⟨_, _, h6⟩ := h6
          replace h6 := Option.bind_eq_some_iff.mp h6; obtain ⟨_, _, h6⟩ := h6
          split at h6
          · simp only [Option.some.injEq, Prod.mk.injEq] at h6
            exact ⟨h6.2.2.symm, .inr ⟨_, _, h6.1.symm⟩⟩
          · cases h6
        · replace h6 := Option.bind_eq_some_iff.mp h6; obtain ⟨_, _, h6⟩ := h6
          simp only [Option.some.injEq, Prod.mk.injEq] at h6
          exact ⟨h6.2.2.symm, .inl h6.1.symm⟩
      refine ⟨d, a, q, htg, hlt, hA, ha, hqd, hka, hal.1, hu, ?_⟩
      have htk := hta d a q ha hqd hu k hlt (by omega)
      obtain ⟨_, h7 | h7 | h7⟩ := hf k o hk
      · left
        refine ⟨?_, h7.2.2.1, h7.2.2.2⟩
        simp only [lk, hk]
        rw [h7.1]
        rfl
      · right
        have h8 := h7.2.2.2
        rw [hop'] at h8
        unfold opA at h8
        simp only at h8
        replace h8 := Option.bind_eq_some_iff.mp h8; obtain ⟨_, _, h8⟩ := h8
        split at h8
        · obtain ⟨hh', h9, h8⟩ := Option.map_eq_some_iff.mp h8
          simp only [Prod.mk.injEq] at h8
          have hev : evA (st k).t (.tmp d) = vk a := htk
          rw [hev] at h9
          rcases hal.2 with hv | ⟨_, _, hv⟩
          · rw [hv] at h9
            unfold stA at h9
            simp only at h9
            replace h9 := Option.bind_eq_some_iff.mp h9; obtain ⟨_, _, h9⟩ := h9
            replace h9 := Option.bind_eq_some_iff.mp h9; obtain ⟨_, _, h9⟩ := h9
            split at h9
            · simp only [Option.some.injEq] at h9
              refine ⟨?_, h7.1, ⟨_, by rw [← h8.2.1, ← h9]⟩, h8.2.2.symm⟩
              simp only [lk, hk]
              rw [h7.1, hop']
              unfold lkA
              simp only
              rw [hev, hv]
            · cases h9
          · rw [hv] at h9
            unfold stA at h9
            cases h9
        · cases h8
      · exfalso; have := h7.2.1; omega
  have hnxt : ∀ k, k < m → nx k (st k).h = (st (k + 1)).h := by
    intro k hk
    obtain ⟨o, hok⟩ := hop k hk
    simp only [nx]
    by_cases h3 : kd k = 3
    · rw [if_pos h3]
    · rw [if_neg h3]
      by_cases h4 : kd k = 4
      · rw [if_pos h4]
        obtain ⟨d, a, q, _, _, _, _, _, _, _, _, h | h⟩ := hfour k o hok h4
        · rw [h.1, h.2.1]; rfl
        · obtain ⟨b, hb⟩ := h.2.2.1
          rw [h.1]
          unfold putA
          simp only
          rw [hb]
          funext l
          show (if l = _ then _ else _) = (if l = _ then _ else _)
          split
          · show (if _ = _ then _ else _) = _; rw [if_pos rfl]
          · rfl
      · rw [if_neg h4]
        obtain ⟨_, h | h | h⟩ := hf k o hok
        · rw [h.2.2.2, lay_same, h.2.2.1]
        · exfalso; have := h.2.1.1; rw [← hkk k o hok] at this; have := hk4 k o hok; omega
        · exact h.2.2.2.2.symm
  -- what is so while operations are left
  let Inv : (Nat → Bool) → Act → World → Pls → Prop := fun S a w ρ =>
    SR D0 nt n0 ρ F base ⟨tt S, hh S, 0⟩ a w ∧ (∀ l, (∀ k, k < m → S k = true → ¬ ((st k).c ≤ l ∧ l < (st (k + 1)).c)) → ρ l = ρ0 l) ∧ Mv w0.heap (FF F s.h ρ0) w.heap (FF F (hh S) ρ) ∧ Below base w0 w ∧ Closed ops S
  have disj : ∀ i k, i < m → k < m → i ≠ k → ∀ l, (st i).c ≤ l → l < (st (i + 1)).c → ¬ ((st k).c ≤ l ∧ l < (st (k + 1)).c) := by
    intro i k hi hk hne l h1 h2 ⟨h3, h4⟩
    rcases Nat.lt_or_gt_of_ne hne with h5 | h5
    · have := hmono (i + 1) k (by omega) (by omega); omega
    · have := hmono (k + 1) i (by omega) (by omega); omega
  -- where each operation works
  let tch : Nat → Nat → Prop := fun k l => if kd k = 4 then lk k = some l else (st k).c ≤ l ∧ l < (st (k + 1)).c
  let gg : Nat → Heap := fun k => if kd k = 4 then (st (k + 1)).h else (f k).2
  have hnxin : ∀ k l h, kd k ≠ 3 → tch k l → nx k h l = gg k l := by
    intro k l h h3 ht
    simp only [nx, gg, tch, if_neg h3] at ht ⊢
    by_cases h4 : kd k = 4
    · rw [if_pos h4] at ht
      rw [if_pos h4, if_pos h4, ht]
      show (if _ then _ else _) = _
      rw [if_pos rfl]
    · rw [if_neg h4] at ht
      rw [if_neg h4, if_neg h4]
      unfold Heap.lay
      rw [if_pos ht]
  have hnxout : ∀ k l h, kd k ≠ 3 → ¬ tch k l → nx k h l = h l := by
    intro k l h h3 ht
    simp only [nx, gg, tch, if_neg h3] at ht ⊢
    by_cases h4 : kd k = 4
    · rw [if_pos h4] at ht
      rw [if_pos h4]
      exact putA_get _ _ _ _ ht
    · rw [if_neg h4] at ht
      rw [if_neg h4]
      unfold Heap.lay
      rw [if_neg ht]
  have htchF : ∀ k l, k < m → tch k l → ∃ a, a < m ∧ (st a).c ≤ l ∧ l < (st (a + 1)).c ∧ (a = k ∨ (kd a = 2 ∧ A k a = true ∧ a < k ∧ kd k = 4)) := by
    intro k l hk ht
    obtain ⟨o, hok⟩ := hop k hk
    simp only [tch] at ht
    by_cases h4 : kd k = 4
    · rw [if_pos h4] at ht
      obtain ⟨d, a, q, htg, hlt, hA, ha, hqd, hka, hc, hu, h | h⟩ := hfour k o hok h4
      · rw [h.1] at ht; cases ht
      · rw [h.1] at ht
        cases ht
        exact ⟨a, by omega, Nat.le_refl _, by omega, .inr ⟨hka, hA, hlt, h4⟩⟩
    · rw [if_neg h4] at ht
      exact ⟨k, hk, ht.1, ht.2, .inl rfl⟩
  have htch2 : ∀ i k l, i < k → k < m → A k i = false → tch i l → ¬ tch k l := by
    intro i k l hik hk hAk hi hkt
    obtain ⟨a, ham, h1, h2, h3⟩ := htchF i l (by omega) hi
    obtain ⟨b, hbm, h4, h5, h6⟩ := htchF k l hk hkt
    have hab : a = b := by
      apply Classical.byContradiction
      intro hne
      exact disj a b ham hbm hne l h1 h2 ⟨h4, h5⟩
    subst hab
    rcases h3 with h3 | ⟨h3, h7, h8, h9⟩
    · subst h3
      rcases h6 with h6 | ⟨h6, h10, _⟩
      · omega
      · rw [hAk] at h10; cases h10
    · rcases h6 with h6 | ⟨h6, h10, h11, h12⟩
      · omega
      · obtain ⟨o, hok⟩ := hop i (by omega)
        obtain ⟨p, hpk⟩ := hop k hk
        simp only [tch, if_pos h9, if_pos h12] at hi hkt
        obtain ⟨d, b, q, htg, hlt, hA, ha, hqd, hka, hc, hu, h | h⟩ := hfour i o hok h9
        · rw [h.1] at hi; cases hi
        · obtain ⟨d', b', q', htg', hlt', hA', ha', hqd', hka', hc', hu', h' | h'⟩ := hfour k p hpk h12
          · rw [h'.1] at hkt; cases hkt
          · rw [h.1] at hi
            rw [h'.1] at hkt
            cases hi
            have hbb : b = b' := by
              apply Classical.byContradiction
              intro hne
              have : (st b').c = (st b).c := by simpa using hkt
              exact disj b b' (by omega) (by omega) hne (st b).c (Nat.le_refl _) (by omega) ⟨by omega, by omega⟩
            subst hbb
            rw [ha] at ha'
            cases ha'
            rw [hqd] at hqd'
            cases hqd'
            exact PR.tgt k i p o d hpk hok hik htg' htg
  have inside : ∀ i, i < m → ∀ l, (st i).c ≤ l → l < (st (i + 1)).c → ρ0 l = none := fun i hi l h1 h2 =>
    fr0 l (Nat.le_trans (hmono 0 i (Nat.zero_le _) (by omega)) h1) (Nat.lt_of_lt_of_le h2 (hmono (i + 1) m (by omega) (Nat.le_refl _)))
  -- all is done
  have fini : ∀ (S : Nat → Bool) (a : Act) (w : World) (ρ : Pls), (∀ k, k < m → S k = true) → Inv S a w ρ → Q .normal a w := by
    intro S a w ρ hall ⟨I1, I2, I3, I4, I5⟩
    have ht : tt S = s'.t := by
      simp only [tt]
      rw [tS_all m hall, htext m (Nat.le_refl _), hstm']
    have hhs : ∀ k, k ≤ m → hS s.h nx S k = (st k).h := by
      intro k
      induction k with
      | zero => intro _; simp only [hS]; rw [hst0]
      | succ k ih => intro hk; simp only [hS]; rw [hall k (by omega), ih (by omega)]; simpa using hnxt k (by omega)
    have hhm : hh S = s'.h := by simp only [hh]; rw [hhs m (Nat.le_refl _), hstm']
    simp only [ht, hhm] at I1 I3
    refine hQ ρ a w ⟨I1.rel, I1.tmp, I1.dfr, I1.n0le, I1.siz⟩ ⟨fun l hl => I2 l fun k hk _ hin => hl ?_, I3, I4⟩
    have h1 := hmono 0 k (Nat.zero_le _) (by omega)
    have h2 := hmono (k + 1) m (by omega) (Nat.le_refl _)
    rw [hst0] at h1
    rw [hstm'] at h2
    omega
  -- one operation more
  have step : ∀ (S : Nat → Bool) (a : Act) (w : World) (ρ : Pls) (i : Nat) (o : Oper) (K : Act → World → Prop), i < m → ops[i]? = some o → S i = false → (∀ e ∈ edgesOn o, S e = true) → Inv S a w ρ →
      (∀ a' w' ρ', Inv (ins S i) a' w' ρ' → K a' w') → wpOpIn (FR rd) 0 P ops Q i K a w := by
    intro S a w ρ i o K him hio hSi hed ⟨I1, I2, I3, I4, I5⟩ hK
    have hA : ∀ j, j < m → A i j = true → S j = true := PR.down I5 i o hio hed
    have hB : ∀ k, k < m → S k = true → i < k → A k i = false := by
      intro k hk hSk hik
      cases hAk : A k i with
      | false => rfl
      | true =>
        obtain ⟨p, hp⟩ := hop k hk
        have := PR.down I5 k p hp (I5 k p hp hSk) i him hAk
        rw [hSi] at this
        cases this
    have hlook : ∀ r ∈ o.looksAt ops, tt S r = (st i).t r := by
      intro r hr
      simp only [tt]
      rw [tS_get (i := i) (by omega) (fun k hk hd => ⟨fun hlt => ?_, fun hge => ?_⟩), htext i (by omega)]
      · cases hSk : S k with
        | true => rfl
        | false =>
          obtain ⟨p, hp⟩ := hop k hk
          have hAk : A i k = false := by
            cases h : A i k with
            | false => rfl
            | true => rw [hA k hk h] at hSk; cases hSk
          have := (Oper.apart_spec (PR.apart i k o p hio hp hlt hAk).1).1 r (by rw [← hdk k p hp]; exact hd)
          exact absurd hr this
      · by_cases e : k = i
        · rw [e]; exact hSi
        · cases hSk : S k with
          | false => rfl
          | true =>
            obtain ⟨p, hp⟩ := hop k hk
            have := (Oper.apart_spec (PR.apart k i p o hp hio (by omega) (hB k hk hSk (by omega))).1).2.2 r (by rw [← hdk k p hp]; exact hd)
            exact absurd hr this
    obtain ⟨hcop, hcw⟩ := looks_congr (P := P) (md := md) (orc := orc) hlook
    -- the memory with one operation more
    have hcomm : ∀ k, i < k → k < m → S k = true → ∀ h, nx k (nx i h) = nx i (nx k h) := by
      intro k hik hk hSk h
      obtain ⟨p, hp⟩ := hop k hk
      obtain ⟨_, h1, h2⟩ := PR.apart k i p o hp hio hik (hB k hk hSk hik)
      rw [← hkk k p hp, ← hkk i o hio] at h1
      rw [← hkk k p hp, ← hkk i o hio] at h2
      by_cases h3 : kd i = 0
      · rw [hnx0 i him (.inl h3), hnx0 i him (.inl h3)]
      · by_cases h4 : kd k = 0
        · rw [hnx0 k hk (.inl h4), hnx0 k hk (.inl h4)]
        · have h6 : kd i ≠ 3 := fun e => h4 (h2 e)
          by_cases h5 : kd k = 3
          · rcases h1 h5 with h1 | h1
            · exact absurd h1 h3
            · obtain ⟨T, r, he, _⟩ := besides_inv h1
              have h7 : kd i = 1 := by rw [hkk i o hio, he]; rfl
              rw [hnx0 i him (.inr h7), hnx0 i him (.inr h7)]
          · funext l
            by_cases ti : tch i l
            · have tk := htch2 i k l hik hk (hB k hk hSk hik) ti
              rw [hnxout k l _ h5 tk, hnxin i l _ h6 ti, hnxin i l _ h6 ti]
            · by_cases tk : tch k l
              · rw [hnxin k l _ h5 tk, hnxout i l _ h6 ti, hnxin k l _ h5 tk]
              · rw [hnxout k l _ h5 tk, hnxout i l _ h6 ti, hnxout i l _ h6 ti, hnxout k l _ h5 tk]
    have hhins : hh (ins S i) = nx i (hh S) := hS_ins him hSi hcomm
    have htins : tt (ins S i) = upd (tt S) o.dst (vk i) := by
      simp only [tt]
      rw [tS_ins him hSi (fun k hik hk hSk x hx => ?_), hdk i o hio]
      obtain ⟨p, hp⟩ := hop k hk
      rw [hdk i o hio] at hx
      rw [hdk k p hp]
      exact (Oper.apart_spec (PR.apart k i p o hp hio hik (hB k hk hSk hik)).1).2.1 x hx
    have hD : kd i = 3 → hh S = (st i).h := by
      intro h3
      have lo : ∀ k, k < i → S k = false → kd k = 0 ∨ kd k = 1 := by
        intro k hk hSk
        obtain ⟨p, hp⟩ := hop k (by omega)
        have hAk : A i k = false := by
          cases h : A i k with
          | false => rfl
          | true => rw [hA k (by omega) h] at hSk; cases hSk
        rcases (PR.apart i k o p hio hp hk hAk).2.1 (by rw [← hkk i o hio]; exact h3) with h4 | h4
        · rw [hkk k p hp]; exact .inl h4
        · obtain ⟨T, r, he, _⟩ := besides_inv h4
          right
          rw [hkk k p hp, he]; rfl
      have hi' : ∀ k, i < k → k < m → S k = true → kd k = 0 := by
        intro k hik hk hSk
        obtain ⟨p, hp⟩ := hop k hk
        rw [hkk k p hp]
        exact (PR.apart k i p o hp hio hik (hB k hk hSk hik)).2.2 (by rw [← hkk i o hio]; exact h3)
      have key : ∀ n, n ≤ m → (n ≤ i → hS s.h nx S n = (st n).h) ∧ (i ≤ n → hS s.h nx S n = (st i).h) := by
        intro n
        induction n with
        | zero =>
          intro _
          refine ⟨fun _ => by simp only [hS]; rw [hst0], fun h0 => ?_⟩
          have : i = 0 := by omega
          rw [this]; simp only [hS]; rw [hst0]
        | succ n ih =>
          intro hn
          obtain ⟨ih1, ih2⟩ := ih (by omega)
          have a1 : n < i → hS s.h nx S (n + 1) = (st (n + 1)).h := by
            intro hlt
            simp only [hS]
            rw [ih1 (by omega)]
            cases hSn : S n with
            | true => simpa using hnxt n (by omega)
            | false =>
              simp only [Bool.false_eq_true, if_false]
              rw [← hnxt n (by omega), hnx0 n (by omega) (lo n hlt hSn)]
          refine ⟨fun hle => a1 (by omega), fun hge => ?_⟩
          by_cases e : i = n + 1
          · rw [e]; exact a1 (by omega)
          · simp only [hS]
            rw [ih2 (by omega)]
            cases hSn : S n with
            | false => simp
            | true =>
              have hne : n ≠ i := by intro e; subst e; rw [hSi] at hSn; cases hSn
              simp only [if_true]
              exact hnx0 n (by omega) (.inl (hi' n (by omega) (by omega) hSn)) _
      exact (key m (Nat.le_refl _)).2 (by omega)
    have hρi : ∀ l, (st i).c ≤ l → l < (st (i + 1)).c → ρ l = none := by
      intro l h1 h2
      rw [I2 l (fun k hk hSk => disj i k him hk (by intro e; subst e; rw [hSi] at hSk; cases hSk) l h1 h2)]
      exact inside i him l h1 h2
    have hclosed : Closed ops (ins S i) := by
      intro k p hp hk e he
      unfold ins at hk ⊢
      simp only [Bool.or_eq_true, beq_iff_eq] at hk ⊢
      rcases hk with hk | rfl
      · exact .inl (I5 k p hp hk e he)
      · rw [hio] at hp; cases hp; exact .inl (hed e he)
    have hdn : ∀ x, o.dst = some x → x < nt := dstOk_spec hdst o (by rw [Array.mem_toList_iff]; exact Array.mem_of_getElem? hio)
    -- the end of a step
    have close : ∀ (v : AV) (u : Value) (w' : World) (ρ' : Pls), v = vk i → Good ρ F base (hh S) w (st i).c v (nx i (hh S)) (st (i + 1)).c u w' ρ' → K (a.put o.dst u) w' := by
      intro v u w' ρ' hv g
      subst hv
      have sub := g.sub hρi
      refine hK _ w' ρ' ⟨?_, fun l hl => ?_, ?_, I4.trans g.bel, hclosed⟩
      · rw [htins, hhins]
        exact I1.put (c' := 0) hdn g.rel g.val g.mv sub
      · rw [g.out l (hl i him (by simp [ins]))]
        exact I2 l (fun k hk hSk => hl k hk (by simp [ins, hSk]))
      · rw [hhins]
        exact I3.trans g.mv
    have hsize : base ≤ w.heap.size := Nat.le_trans hbase I4.size
    unfold wpOpIn
    rw [hio]
    simp only
    obtain ⟨_, h | h | h⟩ := hf i o hio
    · -- it is passed over
      obtain ⟨hw, hv, h1, h2⟩ := h
      have hlk : lk i = none := by simp only [lk, hio]; rw [hw]; rfl
      rw [← hcw] at hw
      rw [wanted_of I1.tmp hw]
      simp only [Bool.false_eq_true, if_false]
      have hnxi : nx i (hh S) = hh S := by
        by_cases h3 : kd i = 3
        · simp only [nx, if_pos h3]; rw [hD h3, h1]
        · simp only [nx, if_neg h3]
          by_cases h4 : kd i = 4
          · rw [if_pos h4, hlk]; rfl
          · rw [if_neg h4, h2, lay_same]
      refine ⟨fun _ _ => trivial, close skipV undef w ρ hv.symm ?_⟩
      rw [hnxi]
      exact ⟨I1.rel, skip_rel _ _ _, fun _ _ => rfl, Mv.refl _ _, Below.refl _ _⟩
    · -- it may do all
      obtain ⟨hw, ⟨h3, hpan⟩, hkl, h1⟩ := h
      have hw0 := hw
      rw [← hcw] at hw
      rw [wanted_of I1.tmp hw]
      simp only [if_true]
      rw [← hkk i o hio] at h3
      have hop2 : opA P md orc (tt S) (hh S) (st i).c o.op = some (vk i, nx i (hh S), (st (i + 1)).c) := by
        by_cases h3' : kd i = 3
        · rw [← hcop, ← hD h3'] at h1
          have hnxi : nx i (hh S) = (st (i + 1)).h := by simp only [nx, if_pos h3']
          rw [hnxi]
          exact h1
        · have h4 : kd i = 4 := by have := hk4 i o hio; omega
          obtain ⟨T, d, x, hop', hn⟩ := kind4_inv (by rw [← hkk i o hio]; exact h4)
          obtain ⟨d', a', q, htg, hlt, hAa, ha, hqd, hka, hc, hu, h | h⟩ := hfour i o hio h4
          · exfalso
            have h8 := h.1
            have h9 := h1
            rw [hop'] at h9
            unfold opA at h9
            simp only at h9
            replace h9 := Option.bind_eq_some_iff.mp h9; obtain ⟨_, _, h9⟩ := h9
            split at h9
            · obtain ⟨hh', h10, h9⟩ := Option.map_eq_some_iff.mp h9
              unfold stA at h10
              split at h10
              · rename_i l i' f' hpt
                simp only [lk, hio] at h8
                rw [hw0, hop'] at h8
                unfold lkA at h8
                simp only at h8
                rw [hpt] at h8
                cases h8
              · cases h10
            · cases h9
          · have hl := h.1
            have hptr : ∃ i' f', (st i).t d = .ptr (st a').c i' f' := by
              have h8 := hl
              simp only [lk, hio] at h8
              rw [hw0, hop'] at h8
              unfold lkA at h8
              simp only at h8
              split at h8
              · rename_i l i' f' hpt
                cases h8
                exact ⟨i', f', hpt⟩
              · cases h8
            obtain ⟨i', f', hptr⟩ := hptr
            have hSa : S a' = true := hA a' (by omega) hAa
            have hta' : tch a' (st a').c := by
              simp only [tch]
              rw [if_neg (by omega)]
              exact ⟨Nat.le_refl _, by omega⟩
            have hti : tch i (st a').c := by
              simp only [tch]
              rw [if_pos h4]
              exact hl
            have hnot : ∀ n, n < m → n ≠ i → n ≠ a' → ¬ tch n (st a').c := by
              intro n hn hni hna ht
              obtain ⟨b, hbm, h5, h6, h7⟩ := htchF n _ hn ht
              have hab : a' = b := by
                apply Classical.byContradiction
                intro hne
                exact disj a' b (by omega) hbm hne _ (Nat.le_refl _) (by omega) ⟨h5, h6⟩
              subst hab
              rcases h7 with h7 | ⟨h7, h8, h9, h10⟩
              · exact hna h7.symm
              · obtain ⟨p, hpn⟩ := hop n hn
                simp only [tch, if_pos h10] at ht
                obtain ⟨d2, a2, q2, htg2, hlt2, _, ha2, hqd2, _, hc2, _, h' | h'⟩ := hfour n p hpn h10
                · rw [h'.1] at ht; cases ht
                · rw [h'.1] at ht
                  have haa : a' = a2 := by
                    apply Classical.byContradiction
                    intro hne
                    have : (st a2).c = (st a').c := by simpa using ht
                    exact disj a' a2 (by omega) (by omega) hne (st a').c (Nat.le_refl _) (by omega) ⟨by omega, by omega⟩
                  subst haa
                  rw [ha] at ha2; cases ha2
                  rw [hqd] at hqd2; cases hqd2
                  rcases Nat.lt_or_gt_of_ne hni with h11 | h11
                  · exact PR.tgt i n o p d' hio hpn h11 htg htg2
                  · exact PR.tgt n i p o d' hpn hio h11 htg2 htg
            have hno3 : ∀ n, n < i → kd n ≠ 3 := by
              intro n hn h5
              obtain ⟨p, hpn⟩ := hop n (by omega)
              rcases PR.late i n o p hio hpn hn (by rw [← hkk n p hpn]; exact h5) with h6 | h6 <;> rw [← hkk i o hio] at h6 <;> omega
            have hno3' : ∀ n, n < m → S n = true → kd n ≠ 3 := by
              intro n hn hSn h5
              rcases Nat.lt_trichotomy n i with h6 | h6 | h6
              · exact hno3 n h6 h5
              · subst h6; rw [hSi] at hSn; cases hSn
              · obtain ⟨p, hpn⟩ := hop n hn
                rcases (PR.apart n i p o hpn hio h6 (hB n hn hSn h6)).2.1 (by rw [← hkk n p hpn]; exact h5) with h7 | h7
                · rw [← hkk i o hio] at h7; omega
                · obtain ⟨T2, r2, he, _⟩ := besides_inv h7
                  rw [hop'] at he
                  cases he
            have e1 : ∀ n, n ≤ m → a' < n → hS s.h nx S n (st a').c = gg a' (st a').c := by
              intro n
              induction n with
              | zero => intro _ h5; omega
              | succ n ih =>
                intro hn h5
                simp only [hS]
                by_cases e : n = a'
                · subst e
                  rw [hSa]
                  simp only [if_true]
                  exact hnxin n _ _ (by omega) hta'
                · cases hSn : S n with
                  | false => simpa using ih (by omega) (by omega)
                  | true =>
                    simp only [if_true]
                    have hni : n ≠ i := by intro e; subst e; rw [hSi] at hSn; cases hSn
                    rw [hnxout n _ _ (hno3' n (by omega) hSn) (hnot n (by omega) hni e)]
                    exact ih (by omega) (by omega)
            have e2 : ∀ n, n ≤ i → a' < n → (st n).h (st a').c = gg a' (st a').c := by
              intro n
              induction n with
              | zero => intro _ h5; omega
              | succ n ih =>
                intro hn h5
                rw [← hnxt n (by omega)]
                by_cases e : n = a'
                · subst e
                  exact hnxin n _ _ (by omega) hta'
                · rw [hnxout n _ _ (hno3 n (by omega)) (hnot n (by omega) (by omega) e)]
                  exact ih (by omega) (by omega)
            have e3 : hh S (st a').c = (st i).h (st a').c := by
              rw [e2 i (Nat.le_refl _) hlt]
              exact e1 m (Nat.le_refl _) (by omega)
            have hnxi : nx i (hh S) = putA (some (st a').c) (st (i + 1)).h (hh S) := by
              simp only [nx, if_neg h3', if_pos h4]
              rw [hl]
            rw [hnxi, hcop]
            rw [hop'] at h1 ⊢
            exact store4 hptr e3 h1
      obtain ⟨_, h4⟩ := opA_sound (a := a) hm ho hop2 (.inl hpan)
      refine (wp_of_hits (opA_nodefer hop2) (h4 ρ F base w I1.rel hsize hF hρi I1.tmp) ?_)
      rintro u w' ⟨ρ', g⟩
      exact close _ u w' ρ' rfl g
    · obtain ⟨hw, h3, hfr, h1, h2⟩ := h
      rw [← hcw] at hw
      rw [wanted_of I1.tmp hw]
      simp only [if_true]
      have h3' : kd i ≠ 3 := by rw [hkk i o hio]; omega
      have h4' : kd i ≠ 4 := by rw [hkk i o hio]; omega
      have hnxi : nx i (hh S) = (f i).2.lay (st i).c (st (i + 1)).c (hh S) := by simp only [nx, if_neg h3', if_neg h4']
      have hop2 : opA P md orc (tt S) (hh S) (st i).c o.op = some (vk i, nx i (hh S), (st (i + 1)).c) := by
        rw [hnxi]
        by_cases h0 : kindA md ops o.op = 0
        · rw [← hcop] at h1
          obtain ⟨h4, h5, h6⟩ := kind0 h0 h1
          rw [h6 (hh S), h5, lay_same]
        · have hk12 : kindA md ops o.op = 1 ∨ kindA md ops o.op = 2 := by omega
          have fresh : ∀ l b, s.h l = some b → ∀ k, k < m → ¬ tch k l := by
            intro l b hlb k hk ht
            obtain ⟨a', ha', h4, h5, _⟩ := htchF k l hk ht
            obtain ⟨p, hp, _⟩ := S0.rel.lt hlb
            rw [inside a' ha' l h4 h5] at hp
            cases hp
          by_cases no3 : ∀ k, k < m → S k = true → kd k ≠ 3
          · have hle : HLe s.h (hh S) := by
              intro l b hlb
              have key : ∀ n, n ≤ m → hS s.h nx S n l = some b := by
                intro n
                induction n with
                | zero => intro _; exact hlb
                | succ n ih =>
                  intro hn
                  simp only [hS]
                  cases hSn : S n with
                  | false => simpa using ih (by omega)
                  | true =>
                    simp only [if_true]
                    rw [hnxout n l _ (no3 n (by omega) hSn) (fresh l b hlb n (by omega))]
                    exact ih (by omega)
              exact key m (Nat.le_refl _)
            have hfr' : freshA (tt S) o.op = true := by
              have : freshA (tt S) o.op = freshA (st i).t o.op := by
                have hev : ∀ x ∈ o.op.operands.toList, evA (tt S) x = evA (st i).t x := fun x hx => ev_congr fun r hr => hlook r (by
                  unfold Oper.looksAt
                  refine List.mem_append.2 (.inl (List.mem_filterMap.2 ⟨x, hx, ?_⟩))
                  rw [hr])
                unfold freshA
                split
                · rename_i cl hcl
                  split
                  · rename_i b hb
                    split
                    · split
                      · rename_i x xs hxs
                        rw [hev x (by rw [hcl]; simp only [Op.operands, Call.operands, Array.toList_append, List.mem_append]; exact .inr (by rw [hxs]; simp))]
                      · rfl
                    · rfl
                  · rfl
                · rfl
              rw [this]; exact hfr
            rw [← hcop] at h1
            have hn1 : ∀ l, (st i).c ≤ l → l < (st (i + 1)).c → s.h l = none := by
              intro l h4 h5
              cases hl : s.h l with
              | none => rfl
              | some b => obtain ⟨p, hp, _⟩ := S0.rel.lt hl; rw [inside i him l h4 h5] at hp; cases hp
            have hn2 : ∀ l, (st i).c ≤ l → l < (st (i + 1)).c → hh S l = none := by
              intro l h4 h5
              cases hl : hh S l with
              | none => rfl
              | some b => obtain ⟨p, hp, _⟩ := I1.rel.lt hl; rw [hρi l h4 h5] at hp; cases hp
            exact (kind12 hk12 hfr' hle (fun l h4 h5 => ⟨hn1 l h4 h5, hn2 l h4 h5⟩) h1).1
          · -- it is a load beside appends
            have ex : ∃ k, k < m ∧ S k = true ∧ kd k = 3 := by
              apply Classical.byContradiction
              intro hn
              exact no3 fun k hk hSk h4 => hn ⟨k, hk, hSk, h4⟩
            have load3 : ∀ k, k < m → S k = true → kd k = 3 → i < k ∧ ∃ p, ops[k]? = some p ∧ besides ops i o p = true := by
              intro k hk hSk h4
              obtain ⟨p, hp⟩ := hop k hk
              rw [hkk k p hp] at h4
              rcases Nat.lt_trichotomy k i with h5 | h5 | h5
              · rcases PR.late i k o p hio hp h5 h4 with h6 | h6
                · exact absurd h6 h0
                · exact absurd (by omega : 3 ≤ kindA md ops o.op) h3
              · subst h5; rw [hSi] at hSk; cases hSk
              · rcases (PR.apart k i p o hp hio h5 (hB k hk hSk h5)).2.1 h4 with h6 | h6
                · exact absurd h6 h0
                · exact ⟨h5, p, hp, h6⟩
            obtain ⟨k0, hk0, hSk0, h30⟩ := ex
            obtain ⟨_, p0, hp0, hbs⟩ := load3 k0 hk0 hSk0 h30
            obtain ⟨T, r, he, hr⟩ := besides_inv hbs
            have hrt : ∀ n, i ≤ n → n ≤ m → (st n).t r = (st i).t r := by
              intro n
              induction n with
              | zero => intro h1 _; rw [show i = 0 by omega]
              | succ n ih =>
                intro hin hn
                by_cases hi1 : i = n + 1
                · rw [hi1]
                · obtain ⟨q, hq⟩ := hop n (by omega)
                  rw [(hf n q hq).1]
                  have h2 := ih (by omega) (by omega)
                  have h3 := hr n q (by omega) hq
                  cases hd : q.dst with
                  | none => exact h2
                  | some d =>
                    rw [hd] at h3
                    simp only [upd]
                    rw [if_neg (fun e => h3 (by rw [e]))]
                    exact h2
            have base3 : ∀ l i' f', (st i).t r = .ptr l i' f' → s.h l ≠ none → ∀ k, k < m → S k = true → kd k = 3 → (st (k + 1)).h l = s.h l := by
              intro l i' f' hsr hne k hk hSk h4
              obtain ⟨b, hb⟩ := Option.ne_none_iff_exists'.1 hne
              obtain ⟨hik, pk, hpk, _⟩ := load3 k hk hSk h4
              have key : ∀ n, n ≤ k + 1 → (st n).h l = s.h l := by
                intro n
                induction n with
                | zero => intro _; rw [hst0]
                | succ n ih =>
                  intro hn
                  by_cases h5 : kd n = 3
                  · have hSn : S n = true := by
                      by_cases e : n = k
                      · rw [e]; exact hSk
                      · obtain ⟨pn, hpn⟩ := hop n (by omega)
                        cases hAkn : A k n with
                        | true => exact PR.down I5 k pk hpk (I5 k pk hpk hSk) n (by omega) hAkn
                        | false =>
                          exfalso
                          rcases (PR.apart k n pk pn hpk hpn (by omega) hAkn).2.1 (by rw [← hkk k pk hpk]; exact h4) with h6 | h6
                          · rw [← hkk n pn hpn] at h6; omega
                          · obtain ⟨_, _, he2, _⟩ := besides_inv h6
                            have : kd n = 1 := by rw [hkk n pn hpn, he2]; rfl
                            omega
                    obtain ⟨hin, pn, hpn, hbn⟩ := load3 n (by omega) hSn h5
                    obtain ⟨_, h7 | h7 | h7⟩ := hf n pn hpn
                    · rw [h7.2.2.1]; exact ih (by omega)
                    · have h8 := h7.2.2.2
                      have h9 := h7.2.2.1
                      rw [besides_frame hio he hbn h9 h8 l i' f' (by rw [hrt n (by omega) (by omega)]; exact hsr) (fun hin => by
                        obtain ⟨p, hp, _⟩ := S0.rel.lt hb
                        rw [inside n (by omega) l hin.1 hin.2] at hp
                        cases hp)]
                      exact ih (by omega)
                    · exfalso; have := h7.2.1; rw [← hkk n pn hpn] at this; omega
                  · rw [← hnxt n (by omega), hnxout n l _ h5 (fresh l b hb n (by omega))]
                    exact ih (by omega)
              exact key (k + 1) (Nat.le_refl _)
            have hsame : ∀ l i' f', (st i).t r = .ptr l i' f' → s.h l ≠ none → hh S l = s.h l := by
              intro l i' f' hsr hne
              obtain ⟨b, hb⟩ := Option.ne_none_iff_exists'.1 hne
              have key : ∀ n, n ≤ m → hS s.h nx S n l = s.h l := by
                intro n
                induction n with
                | zero => intro _; rfl
                | succ n ih =>
                  intro hn
                  simp only [hS]
                  cases hSn : S n with
                  | false => simpa using ih (by omega)
                  | true =>
                    simp only [if_true]
                    by_cases h5 : kd n = 3
                    · simp only [nx, if_pos h5]
                      exact base3 l i' f' hsr hne n (by omega) hSn h5
                    · rw [hnxout n l _ h5 (fresh l b hb n (by omega))]
                      exact ih (by omega)
              exact key m (Nat.le_refl _)
            have hk1 : kd i = 1 := by rw [hkk i o hio, he]; rfl
            have hcc : (st (i + 1)).c = (st i).c := hsmall i o hio (.inr (by rw [← hkk i o hio]; exact hk1))
            rw [hcc, lay_same]
            rw [hcc] at h1
            rw [hcop]
            rw [he] at h1 ⊢
            exact load_at (fun l i' f' hev hne => hsame l i' f' hev hne) h1
      obtain ⟨_, h4⟩ := opA_sound (a := a) hm ho hop2 (nopan_op (noPan_of h3) hop2)
      refine (wp_of_hits (opA_nodefer hop2) (h4 ρ F base w I1.rel hsize hF hρi I1.tmp) ?_)
      rintro u w' ⟨ρ', g⟩
      exact close _ u w' ρ' rfl g
  -- every order
  have allOf : ∀ (listed : Array Bool), listed.size = m → Region.ready .any ops listed = [] → ∀ k, k < m → listed.getD k true = true := by
    intro listed hls hr k
    induction k using Nat.strongRecOn with
    | _ k ih =>
      intro hk
      cases hl : listed.getD k true with
      | true => rfl
      | false =>
        exfalso
        obtain ⟨o, hok⟩ := hop k hk
        have hmem : k ∈ Region.ready .any ops listed := by
          unfold Region.ready
          refine List.mem_filter.2 ⟨List.mem_range.2 hk, ?_⟩
          rw [hl, hok]
          simp only [Bool.not_false, Bool.true_and, Option.map_some, Option.getD_some]
          rw [Array.all_eq_true']
          intro e he
          cases hb : Region.binds .any e with
          | false => rfl
          | true =>
            have hed : e.on ∈ edgesOn o := List.mem_map.2 ⟨e, List.mem_filter.2 ⟨Array.mem_toList_iff.2 he, hb⟩, rfl⟩
            have hlt := PR.edge k o hok _ hed
            have := ih e.on hlt (by omega)
            have hin : e.on < listed.size := by omega
            simp only [Array.getD, hin, dif_pos] at this ⊢
            simpa using this
        rw [hr] at hmem
        cases hmem
  have main : ∀ (fuel : Nat) (listed : Array Bool) (a : Act) (w : World) (ρ : Pls), listed.size = m → ((List.range m).filter fun k => !listed.getD k true).length ≤ fuel → Inv (fun k => listed.getD k true && decide (k < m)) a w ρ → wpAnyIn (FR rd) 0 P .any ops Q fuel listed a w := by
    intro fuel
    induction fuel with
    | zero =>
      intro listed a w ρ hls hcount I
      have hall : ∀ k, k < m → listed.getD k true = true := by
        intro k hk
        cases hl : listed.getD k true with
        | true => rfl
        | false =>
          have : k ∈ (List.range m).filter fun k => !listed.getD k true := List.mem_filter.2 ⟨List.mem_range.2 hk, by rw [hl]; rfl⟩
          rw [List.eq_nil_of_length_eq_zero (Nat.le_zero.1 hcount)] at this
          cases this
      refine ⟨?_, fini _ a w ρ (fun k hk => by simp [hall k hk, hk]) I⟩
      unfold Region.ready
      refine List.filter_eq_nil_iff.2 fun k hk => ?_
      rw [hall k (List.mem_range.1 hk)]
      simp
    | succ fuel ih =>
      intro listed a w ρ hls hcount I
      refine ⟨fun hr => fini _ a w ρ (fun k hk => by simp [allOf listed hls hr k hk, hk]) I, fun i hi => ?_⟩
      unfold Region.ready at hi
      obtain ⟨h1, h2⟩ := List.mem_filter.1 hi
      have him : i < m := List.mem_range.1 h1
      obtain ⟨o, hio⟩ := hop i him
      rw [hio] at h2
      simp only [Option.map_some, Option.getD_some, Bool.and_eq_true, Bool.not_eq_true'] at h2
      obtain ⟨h2, h3⟩ := h2
      rw [Array.all_eq_true'] at h3
      refine step _ a w ρ i o _ him hio (by rw [h2]; rfl) (fun e he => ?_) I (fun a' w' ρ' I' => ?_)
      · obtain ⟨ed, hed, rfl⟩ := List.mem_map.1 he
        obtain ⟨hed, hb⟩ := List.mem_filter.1 hed
        have h4 := h3 ed (Array.mem_toList_iff.1 hed)
        rw [hb] at h4
        have hlt := PR.edge i o hio _ he
        have hin : ed.on < listed.size := by omega
        have hm' : ed.on < m := by omega
        simp only [Bool.not_true, Bool.false_or, Array.getD, hin, dif_pos] at h4 ⊢
        simp [hm']
        simpa using h4
      · have hfun : ins (fun k => listed.getD k true && decide (k < m)) i = fun k => (listed.setIfInBounds i true).getD k true && decide (k < m) := by
          funext k
          unfold ins
          simp only [Array.getD_eq_getD_getElem?, Array.getElem?_setIfInBounds]
          by_cases e : i = k
          · subst e; simp [him, show i < listed.size by omega]
          · simp [e, Ne.symm e]
        rw [hfun] at I'
        refine ih _ a' w' ρ' (by simpa using hls) ?_ I'
        have := filter_lt (p := fun k => !(listed.setIfInBounds i true).getD k true) (q := fun k => !listed.getD k true) (i := i) (fun k hk => by
          simp only [Array.getD_eq_getD_getElem?, Array.getElem?_setIfInBounds] at hk ⊢
          by_cases e : i = k
          · subst e; simp [show i < listed.size by omega] at hk
          · simpa [e] using hk) (by
          simp only [Array.getD_eq_getD_getElem?, Array.getElem?_setIfInBounds]
          simp [show i < listed.size by omega]) (by simp only [h2]; rfl) h1
        have h7 : (List.range ops.size) = List.range m := rfl
        rw [h7] at this
        omega
  refine wpIn_region_any hx (main m _ _ _ ρ0 (by simp [m]) (Nat.le_trans (List.length_filter_le _ _) (by simp [m])) ?_)
  have hno : ∀ k, k < m → ((Array.replicate ops.size false).getD k true && decide (k < m)) = false := by
    intro k hk
    have : k < ops.size := hk
    simp [Array.getD, this]
  refine ⟨?_, fun l _ => rfl, ?_, (Below.refl _ _).drew, fun k o hk hS => ?_⟩
  · have h1 : tt (fun k => (Array.replicate ops.size false).getD k true && decide (k < m)) = s.t := tS_none m hno
    have h2 : hh (fun k => (Array.replicate ops.size false).getD k true && decide (k < m)) = s.h := hS_none m hno
    rw [h1, h2]
    exact ⟨S0.rel, S0.tmp, S0.dfr, S0.n0le, S0.siz⟩
  · have h2 : hh (fun k => (Array.replicate ops.size false).getD k true && decide (k < m)) = s.h := hS_none m hno
    rw [h2]
    exact Mv.refl _ _
  · have hkm : k < m := (Array.getElem?_eq_some_iff.1 hk).1
    have hS2 := hno k hkm
    simp only at hS
    rw [hS2] at hS
    cases hS

end
end Go.Proofs.YtgbdbenepnbajaaGreatDoor.AM
