/- Regions that draw their order: whatever order is drawn, the text's order tells what comes out. -/
import Derived.Test.YtkdmhlmaeccekaaAmDraw0
namespace Go.Proofs.Ytkdmhlmaeccekaa.AM
open Go Go.RowKit
set_option linter.unusedVariables false
set_option linter.unusedSimpArgs false

def dstOk (nt : Nat) (ops : Array Oper) : Bool := ops.toList.all fun o => match o.dst with | some d => decide (d < nt) | none => true

theorem dstOk_spec {nt : Nat} {ops : Array Oper} (h : dstOk nt ops = true) : ∀ o ∈ ops.toList, ∀ x, o.dst = some x → x < nt := by
  intro o ho x hx
  unfold dstOk at h
  have := List.all_eq_true.1 h o ho
  rw [hx] at this
  simpa using this

/-- What an operation waits for. -/
def edgesOn (o : Oper) : List Nat := (o.after.toList.filter (Region.binds .any ·)).map (·.on)

/-- Behind which operations each one comes in whatever order, as bits. -/
def ancs : List Oper → List Nat → List Nat
  | [], acc => acc
  | o :: r, acc => ancs r (acc ++ [(edgesOn o).foldl (fun s e => s ||| 2 ^ e ||| acc.getD e 0) 0])

def anc (B : List Nat) (i j : Nat) : Bool := (B.getD i 0).testBit j

def pairOk (md : Nat → Option CMode) (ops : Array Oper) (B : List Nat) (i : Nat) (o : Oper) (k : Nat) : Bool :=
  match ops[k]? with
  | none => false
  | some p => (anc B i k || (p.apart ops o && (kindA md ops o.op != 3 || kindA md ops p.op == 0) && (kindA md ops p.op != 3 || kindA md ops o.op == 0))) && (kindA md ops p.op != 3 || kindA md ops o.op == 0 || kindA md ops o.op == 3)

def operOk (md : Nat → Option CMode) (ops : Array Oper) (B : List Nat) (i : Nat) : Bool :=
  match ops[i]? with
  | none => false
  | some o => (edgesOn o).all (fun e => decide (e < i)) && (List.range ops.size).all (fun j => !anc B i j || (edgesOn o).any fun e => e == j || anc B e j) && (List.range i).all (pairOk md ops B i o)

def drawOk (md : Nat → Option CMode) (nt : Nat) (ops : Array Oper) : Bool := dstOk nt ops && (List.range ops.size).all (operOk md ops (ancs ops.toList []))

/-! ### a part of the operations -/
def tS (t0 : Nat → AV) (dst : Nat → Option Tmp) (v : Nat → AV) (S : Nat → Bool) : Nat → Nat → AV
  | 0 => t0
  | k + 1 => if S k then upd (tS t0 dst v S k) (dst k) (v k) else tS t0 dst v S k

def hS (h0 : Heap) (nx : Nat → Heap → Heap) (S : Nat → Bool) : Nat → Heap
  | 0 => h0
  | k + 1 => if S k then nx k (hS h0 nx S k) else hS h0 nx S k

def ins (S : Nat → Bool) (i : Nat) : Nat → Bool := fun k => S k || k == i

theorem upd_comm {t : Nat → AV} {d d' : Option Tmp} {v v' : AV} (h : ∀ x, d = some x → d' ≠ some x) : upd (upd t d v) d' v' = upd (upd t d' v') d v := by
  funext k
  cases d with
  | none => cases d' <;> rfl
  | some x =>
    cases d' with
    | none => rfl
    | some y =>
      have : x ≠ y := fun e => h x rfl (by rw [e])
      simp only [upd]
      by_cases h1 : k = y
      · subst h1; simp [Ne.symm this]
      · by_cases h2 : k = x
        · subst h2; simp [h1]
        · simp [h1, h2]

section
variable {t0 : Nat → AV} {dst : Nat → Option Tmp} {v : Nat → AV} {S : Nat → Bool} {h0 : Heap} {nx : Nat → Heap → Heap} {m i : Nat}

theorem tS_ins (hi : i < m) (hS : S i = false) (hd : ∀ k, i < k → k < m → S k = true → ∀ x, dst i = some x → dst k ≠ some x) : tS t0 dst v (ins S i) m = upd (tS t0 dst v S m) (dst i) (v i) := by
  have key : ∀ n, n ≤ m → (n ≤ i → tS t0 dst v (ins S i) n = tS t0 dst v S n) ∧ (i < n → tS t0 dst v (ins S i) n = upd (tS t0 dst v S n) (dst i) (v i)) := by
    intro n
    induction n with
    | zero => intro _; exact ⟨fun _ => rfl, fun h => by omega⟩
    | succ n ih =>
      intro hn
      obtain ⟨ih1, ih2⟩ := ih (by omega)
      refine ⟨fun hle => ?_, fun hlt => ?_⟩
      · have : (n == i) = false := by simp; omega
        simp only [tS, ins, this, Bool.or_false, ih1 (by omega)]
      · by_cases e : n = i
        · subst e
          have e2 := ih1 (Nat.le_refl _)
          simp only [tS, hS, Bool.false_eq_true, if_false]
          rw [if_pos (by simp [ins]), e2]
        · have hb : (n == i) = false := by simp [e]
          have e2 := ih2 (by omega)
          simp only [tS]
          have e3 : ins S i n = S n := by simp [ins, hb]
          rw [e3, e2]
          cases hn' : S n with
          | false => simp
          | true =>
            simp only [if_true]
            exact upd_comm (fun x hx => hd n (by omega) (by omega) hn' x hx)
  exact (key m (Nat.le_refl _)).2 hi

theorem tS_get {r : Nat} (hi : i ≤ m) (h : ∀ k, k < m → dst k = some r → (k < i → S k = true) ∧ (i ≤ k → S k = false)) : tS t0 dst v S m r = tS t0 dst v (fun _ => true) i r := by
  have upd_ne : ∀ {t : Nat → AV} {d : Option Tmp} {x : AV}, d ≠ some r → upd t d x r = t r := by
    intro t d x hd
    cases d with
    | none => rfl
    | some d => simp only [upd]; rw [if_neg (fun e => hd (by rw [e]))]
  have key : ∀ n, n ≤ m → (n ≤ i → tS t0 dst v S n r = tS t0 dst v (fun _ => true) n r) ∧ (i ≤ n → tS t0 dst v S n r = tS t0 dst v (fun _ => true) i r) := by
    intro n
    induction n with
    | zero =>
      intro _
      refine ⟨fun _ => rfl, fun h0 => ?_⟩
      have : i = 0 := by omega
      rw [this]
      rfl
    | succ n ih =>
      intro hn
      obtain ⟨ih1, ih2⟩ := ih (by omega)
      have step1 : n < i → tS t0 dst v S (n + 1) r = tS t0 dst v (fun _ => true) (n + 1) r := by
        intro hlt
        have e := ih1 (by omega)
        simp only [tS, if_true]
        by_cases hd : dst n = some r
        · rw [(h n (by omega) hd).1 hlt]
          simp only [if_true, hd, upd]
        · cases S n with
          | true => simp only [if_true]; rw [upd_ne hd, upd_ne hd]; exact e
          | false => simp only [Bool.false_eq_true, if_false]; rw [upd_ne hd]; exact e
      refine ⟨fun hle => step1 (by omega), fun hge => ?_⟩
      by_cases e : i = n + 1
      · rw [e]; exact step1 (by omega)
      · have e2 := ih2 (by omega)
        simp only [tS]
        by_cases hd : dst n = some r
        · rw [(h n (by omega) hd).2 (by omega)]
          simpa using e2
        · cases S n with
          | true => simp only [if_true]; rw [upd_ne hd]; exact e2
          | false => simpa using e2
  exact (key m (Nat.le_refl _)).2 hi

theorem hS_ins (hi : i < m) (hS' : S i = false) (hc : ∀ k, i < k → k < m → S k = true → ∀ h, nx k (nx i h) = nx i (nx k h)) : hS h0 nx (ins S i) m = nx i (hS h0 nx S m) := by
  have key : ∀ n, n ≤ m → (n ≤ i → hS h0 nx (ins S i) n = hS h0 nx S n) ∧ (i < n → hS h0 nx (ins S i) n = nx i (hS h0 nx S n)) := by
    intro n
    induction n with
    | zero => intro _; exact ⟨fun _ => rfl, fun h => by omega⟩
    | succ n ih =>
      intro hn
      obtain ⟨ih1, ih2⟩ := ih (by omega)
      refine ⟨fun hle => ?_, fun hlt => ?_⟩
      · have : ins S i n = S n := by simp [ins]; intro e; omega
        simp only [hS]
        rw [this, ih1 (by omega)]
      · by_cases e : n = i
        · subst e
          have e2 := ih1 (Nat.le_refl _)
          simp only [hS, hS', Bool.false_eq_true, if_false]
          rw [if_pos (by simp [ins]), e2]
        · have e2 := ih2 (by omega)
          have e3 : ins S i n = S n := by simp [ins, e]
          simp only [hS]
          rw [e3, e2]
          cases hn' : S n with
          | false => simp
          | true => simp only [if_true]; exact hc n (by omega) (by omega) hn' _
  exact (key m (Nat.le_refl _)).2 hi

end

section
variable {P : Program} {md : Nat → Option CMode} {orc : Orc} {ops : Array Oper} {nt : Nat}

theorem txt_of {h0 : Heap} : ∀ (l : List Oper) (s s' : St), regD P md orc ops h0 l s = some s' → ∃ st : Nat → St, st 0 = s ∧ st l.length = s' ∧ ∀ (k : Nat) o, l[k]? = some o → stepD P md orc ops h0 o (st k) = some (st (k + 1))
  | [], s, s', e => by cases e; exact ⟨fun _ => s, rfl, rfl, fun k o h => by simp at h⟩
  | o :: l, s, s', e => by
    replace e := Option.bind_eq_some_iff.mp e; obtain ⟨s1, h1, e⟩ := e
    obtain ⟨st, h2, h3, h4⟩ := txt_of l s1 s' e
    refine ⟨fun k => match k with | 0 => s | k + 1 => st k, rfl, h3, fun k o' hk => ?_⟩
    cases k with
    | zero => simp at hk; subst hk; simp only; rw [h2]; exact h1
    | succ k => exact h4 k o' (by simpa using hk)

/-- What is known of an operation's step in the text's order. -/
def StepIs (P : Program) (md : Nat → Option CMode) (orc : Orc) (ops : Array Oper) (h0 : Heap) (s s1 : St) (o : Oper) (v : AV) (h1 : Heap) : Prop :=
  s1.t = upd s.t o.dst v ∧
  ((wantA ops s.t o = some false ∧ v = skipV ∧ s1.h = s.h ∧ s1.c = s.c) ∨
   (wantA ops s.t o = some true ∧ kindA md ops o.op = 3 ∧ opA P md orc s.t s.h s.c o.op = some (v, s1.h, s1.c)) ∨
   (wantA ops s.t o = some true ∧ kindA md ops o.op ≠ 3 ∧ freshA s.t o.op = true ∧ opA P md orc s.t h0 s.c o.op = some (v, h1, s1.c) ∧ s1.h = h1.lay s.c s1.c s.h))

theorem stepIs_of {h0 : Heap} {s s1 : St} {o : Oper} (e : stepD P md orc ops h0 o s = some s1) : ∃ p : AV × Heap, StepIs P md orc ops h0 s s1 o p.1 p.2 := by
  unfold stepD at e
  replace e := Option.bind_eq_some_iff.mp e; obtain ⟨w, hw, e⟩ := e
  cases w with
  | false => simp only [cond_false, Option.some.injEq] at e; subst e; exact ⟨(skipV, s.h), rfl, .inl ⟨hw, rfl, rfl, rfl⟩⟩
  | true =>
    simp only [cond_true] at e
    split at e
    · rename_i hk
      obtain ⟨⟨v, h, c⟩, h1, e⟩ := Option.map_eq_some_iff.mp e
      subst e
      exact ⟨(v, h), rfl, .inr (.inl ⟨hw, hk, h1⟩)⟩
    · rename_i hk
      split at e
      · cases e
      · rename_i hf
        obtain ⟨⟨v, h, c⟩, h1, e⟩ := Option.map_eq_some_iff.mp e
        subst e
        exact ⟨(v, h), rfl, .inr (.inr ⟨hw, hk, by simpa using hf, h1, rfl⟩)⟩

theorem lay_comm {a b h : Heap} {c c1 d d1 : Nat} (hd : c1 ≤ d ∨ d1 ≤ c) : b.lay d d1 (a.lay c c1 h) = a.lay c c1 (b.lay d d1 h) := by
  funext l
  unfold Heap.lay
  by_cases h1 : c ≤ l ∧ l < c1
  · by_cases h2 : d ≤ l ∧ l < d1
    · omega
    · rw [if_neg h2, if_pos h1, if_pos h1]
  · by_cases h2 : d ≤ l ∧ l < d1
    · rw [if_pos h2, if_neg h1, if_pos h2]
    · rw [if_neg h2, if_neg h1, if_neg h1, if_neg h2]


theorem filter_lt {p q : Nat → Bool} {i : Nat} (hpq : ∀ k, p k = true → q k = true) (hp : p i = false) (hq : q i = true) : ∀ {l : List Nat}, i ∈ l → (l.filter p).length < (l.filter q).length
  | [], h => by cases h
  | k :: l, h => by
    have hle : ∀ l : List Nat, (l.filter p).length ≤ (l.filter q).length := by
      intro l
      induction l with
      | nil => simp
      | cons x l ih =>
        simp only [List.filter_cons]
        cases hx : p x with
        | true => rw [hpq x hx]; simpa using ih
        | false => cases q x <;> simp <;> omega
    simp only [List.filter_cons]
    by_cases e : k = i
    · subst e
      rw [hp, hq]
      have := hle l
      simp
      omega
    · have h' : i ∈ l := by
        rcases List.mem_cons.1 h with h | h
        · exact absurd h.symm e
        · exact h
      have ih := filter_lt hpq hp hq h'
      cases hx : p k with
      | true => rw [hpq k hx]; simpa using ih
      | false => cases q k <;> simp <;> omega

theorem tS_none {t0 : Nat → AV} {dst : Nat → Option Tmp} {v : Nat → AV} {S : Nat → Bool} : ∀ m, (∀ k, k < m → S k = false) → tS t0 dst v S m = t0
  | 0, _ => rfl
  | m + 1, h => by simp only [tS]; rw [h m (by omega)]; simpa using tS_none m (fun k hk => h k (by omega))
theorem hS_none {h0 : Heap} {nx : Nat → Heap → Heap} {S : Nat → Bool} : ∀ m, (∀ k, k < m → S k = false) → hS h0 nx S m = h0
  | 0, _ => rfl
  | m + 1, h => by simp only [hS]; rw [h m (by omega)]; simpa using hS_none m (fun k hk => h k (by omega))
theorem tS_all {t0 : Nat → AV} {dst : Nat → Option Tmp} {v : Nat → AV} {S : Nat → Bool} : ∀ m, (∀ k, k < m → S k = true) → tS t0 dst v S m = tS t0 dst v (fun _ => true) m
  | 0, _ => rfl
  | m + 1, h => by simp only [tS]; rw [h m (by omega), tS_all m (fun k hk => h k (by omega))]; simp

/-- What 'drawOk' says of two operations. -/
structure Pairs (md : Nat → Option CMode) (ops : Array Oper) (A : Nat → Nat → Bool) : Prop where
  edge : ∀ (i : Nat) o, ops[i]? = some o → ∀ e ∈ edgesOn o, e < i
  cert : ∀ (i : Nat) o, ops[i]? = some o → ∀ j, j < ops.size → A i j = true → ∃ e ∈ edgesOn o, e = j ∨ A e j = true
  apart : ∀ (i k : Nat) o p, ops[i]? = some o → ops[k]? = some p → k < i → A i k = false → p.apart ops o = true ∧ (kindA md ops o.op = 3 → kindA md ops p.op = 0) ∧ (kindA md ops p.op = 3 → kindA md ops o.op = 0)
  late : ∀ (i k : Nat) o p, ops[i]? = some o → ops[k]? = some p → k < i → kindA md ops p.op = 3 → kindA md ops o.op = 0 ∨ kindA md ops o.op = 3

theorem pairs_of (h : drawOk md nt ops = true) : dstOk nt ops = true ∧ ∃ A, Pairs md ops A := by
  unfold drawOk at h
  simp only [Bool.and_eq_true, List.all_eq_true, List.mem_range] at h
  obtain ⟨h1, h2⟩ := h
  refine ⟨h1, anc (ancs ops.toList []), ?_⟩
  have get : ∀ (i : Nat) o, ops[i]? = some o → (∀ e ∈ edgesOn o, e < i) ∧ (∀ j, j < ops.size → anc (ancs ops.toList []) i j = true → ∃ e ∈ edgesOn o, e = j ∨ anc (ancs ops.toList []) e j = true) ∧ ∀ k, k < i → pairOk md ops (ancs ops.toList []) i o k = true := by
    intro i o hi
    have h3 := h2 i (Array.getElem?_eq_some_iff.1 hi).1
    unfold operOk at h3
    rw [hi] at h3
    simp only [Bool.and_eq_true, List.all_eq_true, List.mem_range, decide_eq_true_eq] at h3
    refine ⟨h3.1.1, fun j hj ha => ?_, h3.2⟩
    have := h3.1.2 j hj
    rw [ha] at this
    simp only [Bool.not_true, Bool.false_or, List.any_eq_true, Bool.or_eq_true, beq_iff_eq] at this
    obtain ⟨e, he, h4⟩ := this
    exact ⟨e, he, h4⟩
  have pair : ∀ (i k : Nat) o p, ops[i]? = some o → ops[k]? = some p → k < i → (anc (ancs ops.toList []) i k = false → p.apart ops o = true ∧ (kindA md ops o.op = 3 → kindA md ops p.op = 0) ∧ (kindA md ops p.op = 3 → kindA md ops o.op = 0)) ∧ (kindA md ops p.op = 3 → kindA md ops o.op = 0 ∨ kindA md ops o.op = 3) := by
    intro i k o p hi hk hlt
    have := (get i o hi).2.2 k hlt
    unfold pairOk at this
    rw [hk] at this
    simp only [Bool.and_eq_true, Bool.or_eq_true, bne_iff_ne, ne_eq, beq_iff_eq] at this
    obtain ⟨h3, h4⟩ := this
    refine ⟨fun ha => ?_, fun h5 => ?_⟩
    · rcases h3 with h3 | ⟨⟨h3, h6⟩, h7⟩
      · rw [ha] at h3; cases h3
      · exact ⟨h3, fun h => h6.resolve_left (fun h' => h' h), fun h => h7.resolve_left (fun h' => h' h)⟩
    · rcases h4 with (h4 | h4) | h4
      · exact absurd h5 h4
      · exact .inl h4
      · exact .inr h4
  exact ⟨fun i o hi => (get i o hi).1, fun i o hi => (get i o hi).2.1, fun i k o p hi hk hlt => (pair i k o p hi hk hlt).1, fun i k o p hi hk hlt => (pair i k o p hi hk hlt).2⟩

def Closed (ops : Array Oper) (S : Nat → Bool) : Prop := ∀ (i : Nat) o, ops[i]? = some o → S i = true → ∀ e ∈ edgesOn o, S e = true

theorem Pairs.down {A : Nat → Nat → Bool} (Q : Pairs md ops A) {S : Nat → Bool} (hS : Closed ops S) : ∀ (i : Nat) o, ops[i]? = some o → (∀ e ∈ edgesOn o, S e = true) → ∀ j, j < ops.size → A i j = true → S j = true := by
  intro i
  induction i using Nat.strongRecOn with
  | _ i ih =>
    intro o hi he j hj ha
    obtain ⟨e, h1, h2⟩ := Q.cert i o hi j hj ha
    rcases h2 with rfl | h2
    · exact he e h1
    · have hlt := Q.edge i o hi e h1
      have hi' := (Array.getElem?_eq_some_iff.1 hi).1
      obtain ⟨o', ho'⟩ : ∃ o', ops[e]? = some o' := ⟨ops[e]'(by omega), Array.getElem?_eq_getElem (by omega)⟩
      exact ih e hlt o' ho' (hS e o' ho' (he e h1)) j hj h2

theorem draw_sound (hx : P.follows .mixedOrders = true) (hm : MdOk P md) (ho : OrcOk P orc) (hok : drawOk md nt ops = true) {s s' : St} (e : regD P md orc ops s.h ops.toList s = some s') : s.c ≤ s'.c ∧
    ∀ (ρ : Pls) (F : Nat → Prop) (base : Nat) (a : Act) (w : World), SR nt ρ F base s a w → base ≤ w.heap.size → (∀ k, F k → k < base) → Fr ρ s.c s'.c → ∀ (id : Nat) (Q : Exit → Act → World → Prop),
      (∀ ρ' a' w', SR nt ρ' F base s' a' w' → Way F base ρ s.h w s.c ρ' s'.h w' s'.c → Q .normal a' w') → (Code.region id ops true).wp P Q a w := by
  obtain ⟨hdst, A, PR⟩ := pairs_of hok
  obtain ⟨st, hst0, hstm, hst⟩ := txt_of ops.toList s s' e
  have hsk : ∀ k, ∃ p : AV × Heap, ∀ o, ops[k]? = some o → StepIs P md orc ops s.h (st k) (st (k + 1)) o p.1 p.2 := by
    intro k
    cases hk : ops[k]? with
    | none => exact ⟨(.bad, s.h), fun o h => by cases h⟩
    | some o =>
      obtain ⟨p, hp⟩ := stepIs_of (hst k o (by simpa using hk))
      exact ⟨p, fun o' h => by cases h; exact hp⟩
  obtain ⟨f, hf⟩ := Classical.skolem.mp hsk
  let m := ops.size
  have hstm' : st m = s' := by rw [← hstm]; simp [m]
  -- the counters
  have hcle : ∀ (k : Nat) o, ops[k]? = some o → (st k).c ≤ (st (k + 1)).c := by
    intro k o hk
    obtain ⟨_, h | h | h⟩ := hf k o hk
    · rw [h.2.2.2]; exact Nat.le_refl _
    · exact (opA_sound (a := ⟨#[], []⟩) hm ho h.2.2).1
    · exact (opA_sound (a := ⟨#[], []⟩) hm ho h.2.2.2.1).1
  have hmono : ∀ j k, j ≤ k → k ≤ m → (st j).c ≤ (st k).c := by
    intro j k hjk hkm
    induction hjk with
    | refl => exact Nat.le_refl _
    | step hjk ih =>
      rename_i k
      exact Nat.le_trans (ih (by omega)) (hcle k ops[k] (Array.getElem?_eq_getElem (by omega)))
  refine ⟨by have := hmono 0 m (Nat.zero_le _) (Nat.le_refl _); rw [hst0, hstm'] at this; exact this, ?_⟩
  intro ρ0 F base a0 w0 S0 hbase hF fr id Q hQ
  have fr0 : ∀ l, (st 0).c ≤ l → l < (st m).c → ρ0 l = none := by rw [hst0, hstm']; exact fr
  -- small kinds leave the counter
  have hsmall : ∀ (k : Nat) o, ops[k]? = some o → (kindA md ops o.op = 0 ∨ kindA md ops o.op = 1) → (st (k + 1)).c = (st k).c := by
    intro k o hk hkd
    obtain ⟨_, h | h | h⟩ := hf k o hk
    · exact h.2.2.2
    · omega
    · rcases hkd with hkd | hkd
      · exact (kind0 hkd h.2.2.2.1).2.1
      · have hn : ∀ l, (st k).c ≤ l → l < (st (k + 1)).c → s.h l = none ∧ s.h l = none := by
          intro l h1 h2
          have : ρ0 l = none := fr0 l (Nat.le_trans (hmono 0 k (Nat.zero_le _) (by have := (Array.getElem?_eq_some_iff.1 hk).1; omega)) h1) (Nat.lt_of_lt_of_le h2 (hmono (k + 1) m (by have := (Array.getElem?_eq_some_iff.1 hk).1; omega) (Nat.le_refl _)))
          have hnone : s.h l = none := by
            cases hl : s.h l with
            | none => rfl
            | some b => obtain ⟨p, hp, _⟩ := S0.rel.lt hl; rw [this] at hp; cases hp
          exact ⟨hnone, hnone⟩
        exact (kind12 (h' := s.h) (.inl hkd) h.2.2.1 (fun _ _ h => h) hn h.2.2.2.1).2 hkd
  let dst : Nat → Option Tmp := fun k => (ops[k]?).bind (·.dst)
  let vk : Nat → AV := fun k => (f k).1
  let kd : Nat → Nat := fun k => match ops[k]? with | some o => kindA md ops o.op | none => 0
  let nx : Nat → Heap → Heap := fun k h => if kd k = 3 then (st (k + 1)).h else (f k).2.lay (st k).c (st (k + 1)).c h
  let tt : (Nat → Bool) → Nat → AV := fun S => tS s.t dst vk S m
  let hh : (Nat → Bool) → Heap := fun S => hS s.h nx S m
  have hdk : ∀ (k : Nat) o, ops[k]? = some o → dst k = o.dst := fun k o hk => by simp only [dst, hk, Option.bind_some]
  have hkk : ∀ (k : Nat) o, ops[k]? = some o → kd k = kindA md ops o.op := fun k o hk => by simp only [kd, hk]
  have hop : ∀ k, k < m → ∃ o, ops[k]? = some o := fun k hk => ⟨ops[k], Array.getElem?_eq_getElem hk⟩
  have hnx0 : ∀ k, k < m → (kd k = 0 ∨ kd k = 1) → ∀ h, nx k h = h := by
    intro k hk hkd h
    obtain ⟨o, hok⟩ := hop k hk
    have h3 : kd k ≠ 3 := by omega
    simp only [nx, if_neg h3]
    rw [hsmall k o hok (by rw [← hkk k o hok]; exact hkd), lay_same]
  -- the text's order itself
  have htext : ∀ k, k ≤ m → tS s.t dst vk (fun _ => true) k = (st k).t := by
    intro k
    induction k with
    | zero => intro _; simp only [tS]; rw [hst0]
    | succ k ih =>
      intro hk
      obtain ⟨o, hok⟩ := hop k (by omega)
      simp only [tS, if_true]
      rw [ih (by omega), hdk k o hok, (hf k o hok).1]
  have hnxt : ∀ k, k < m → nx k (st k).h = (st (k + 1)).h := by
    intro k hk
    obtain ⟨o, hok⟩ := hop k hk
    simp only [nx]
    by_cases h3 : kd k = 3
    · rw [if_pos h3]
    · rw [if_neg h3]
      obtain ⟨_, h | h | h⟩ := hf k o hok
      · rw [h.2.2.2, lay_same, h.2.2.1]
      · exact absurd (by rw [hkk k o hok]; exact h.2.1) h3
      · exact h.2.2.2.2.symm
  -- what is so while operations are left
  let Inv : (Nat → Bool) → Act → World → Pls → Prop := fun S a w ρ =>
    SR nt ρ F base ⟨tt S, hh S, 0⟩ a w ∧ (∀ l, (∀ k, k < m → S k = true → ¬ ((st k).c ≤ l ∧ l < (st (k + 1)).c)) → ρ l = ρ0 l) ∧ Mv w0.heap (FF F s.h ρ0) w.heap (FF F (hh S) ρ) ∧ Below base w0 w ∧ Closed ops S
  have disj : ∀ i k, i < m → k < m → i ≠ k → ∀ l, (st i).c ≤ l → l < (st (i + 1)).c → ¬ ((st k).c ≤ l ∧ l < (st (k + 1)).c) := by
    intro i k hi hk hne l h1 h2 ⟨h3, h4⟩
    rcases Nat.lt_or_gt_of_ne hne with h5 | h5
    · have := hmono (i + 1) k (by omega) (by omega); omega
    · have := hmono (k + 1) i (by omega) (by omega); omega
  have inside : ∀ i, i < m → ∀ l, (st i).c ≤ l → l < (st (i + 1)).c → ρ0 l = none := fun i hi l h1 h2 =>
    fr0 l (Nat.le_trans (hmono 0 i (Nat.zero_le _) (by omega)) h1) (Nat.lt_of_lt_of_le h2 (hmono (i + 1) m (by omega) (Nat.le_refl _)))
  -- all is done
  have fini : ∀ (S : Nat → Bool) (a : Act) (w : World) (ρ : Pls), (∀ k, k < m → S k = true) → Inv S a w ρ → Q .normal a w := by
    intro S a w ρ hall ⟨I1, I2, I3, I4, I5⟩
    have ht : tt S = s'.t := by
      simp only [tt]
      rw [tS_all m hall, htext m (Nat.le_refl _), hstm']
    have hhs : ∀ k, k ≤ m → hS s.h nx S k = (st k).h := by
      intro k
      induction k with
      | zero => intro _; simp only [hS]; rw [hst0]
      | succ k ih => intro hk; simp only [hS]; rw [hall k (by omega), ih (by omega)]; simpa using hnxt k (by omega)
    have hhm : hh S = s'.h := by simp only [hh]; rw [hhs m (Nat.le_refl _), hstm']
    simp only [ht, hhm] at I1 I3
    refine hQ ρ a w ⟨I1.rel, I1.tmp, I1.dfr, I1.siz⟩ ⟨fun l hl => I2 l fun k hk _ hin => hl ?_, I3, I4⟩
    have h1 := hmono 0 k (Nat.zero_le _) (by omega)
    have h2 := hmono (k + 1) m (by omega) (Nat.le_refl _)
    rw [hst0] at h1
    rw [hstm'] at h2
    omega
  -- one operation more
  have step : ∀ (S : Nat → Bool) (a : Act) (w : World) (ρ : Pls) (i : Nat) (o : Oper) (K : Act → World → Prop), i < m → ops[i]? = some o → S i = false → (∀ e ∈ edgesOn o, S e = true) → Inv S a w ρ →
      (∀ a' w' ρ', Inv (ins S i) a' w' ρ' → K a' w') → wpOp P ops Q i K a w := by
    intro S a w ρ i o K him hio hSi hed ⟨I1, I2, I3, I4, I5⟩ hK
    have hA : ∀ j, j < m → A i j = true → S j = true := PR.down I5 i o hio hed
    have hB : ∀ k, k < m → S k = true → i < k → A k i = false := by
      intro k hk hSk hik
      cases hAk : A k i with
      | false => rfl
      | true =>
        obtain ⟨p, hp⟩ := hop k hk
        have := PR.down I5 k p hp (I5 k p hp hSk) i him hAk
        rw [hSi] at this
        cases this
    have hlook : ∀ r ∈ o.looksAt ops, tt S r = (st i).t r := by
      intro r hr
      simp only [tt]
      rw [tS_get (i := i) (by omega) (fun k hk hd => ⟨fun hlt => ?_, fun hge => ?_⟩), htext i (by omega)]
      · cases hSk : S k with
        | true => rfl
        | false =>
          obtain ⟨p, hp⟩ := hop k hk
          have hAk : A i k = false := by
            cases h : A i k with
            | false => rfl
            | true => rw [hA k hk h] at hSk; cases hSk
          have := (Oper.apart_spec (PR.apart i k o p hio hp hlt hAk).1).1 r (by rw [← hdk k p hp]; exact hd)
          exact absurd hr this
      · by_cases e : k = i
        · rw [e]; exact hSi
        · cases hSk : S k with
          | false => rfl
          | true =>
            obtain ⟨p, hp⟩ := hop k hk
            have := (Oper.apart_spec (PR.apart k i p o hp hio (by omega) (hB k hk hSk (by omega))).1).2.2 r (by rw [← hdk k p hp]; exact hd)
            exact absurd hr this
    obtain ⟨hcop, hcw⟩ := looks_congr (P := P) (md := md) (orc := orc) hlook
    -- the memory with one operation more
    have hcomm : ∀ k, i < k → k < m → S k = true → ∀ h, nx k (nx i h) = nx i (nx k h) := by
      intro k hik hk hSk h
      obtain ⟨p, hp⟩ := hop k hk
      obtain ⟨_, h1, h2⟩ := PR.apart k i p o hp hio hik (hB k hk hSk hik)
      rw [← hkk k p hp, ← hkk i o hio] at h1
      rw [← hkk k p hp, ← hkk i o hio] at h2
      by_cases h3 : kd i = 0
      · rw [hnx0 i him (.inl h3), hnx0 i him (.inl h3)]
      · by_cases h4 : kd k = 0
        · rw [hnx0 k hk (.inl h4), hnx0 k hk (.inl h4)]
        · have h5 : kd k ≠ 3 := fun e => h3 (h1 e)
          have h6 : kd i ≠ 3 := fun e => h4 (h2 e)
          simp only [nx, if_neg h5, if_neg h6]
          exact lay_comm (.inl (hmono (i + 1) k (by omega) (by omega)))
    have hhins : hh (ins S i) = nx i (hh S) := hS_ins him hSi hcomm
    have htins : tt (ins S i) = upd (tt S) o.dst (vk i) := by
      simp only [tt]
      rw [tS_ins him hSi (fun k hik hk hSk x hx => ?_), hdk i o hio]
      obtain ⟨p, hp⟩ := hop k hk
      rw [hdk i o hio] at hx
      rw [hdk k p hp]
      exact (Oper.apart_spec (PR.apart k i p o hp hio hik (hB k hk hSk hik)).1).2.1 x hx
    have hD : kd i = 3 → hh S = (st i).h := by
      intro h3
      have lo : ∀ k, k < i → S k = false → kd k = 0 := by
        intro k hk hSk
        obtain ⟨p, hp⟩ := hop k (by omega)
        have hAk : A i k = false := by
          cases h : A i k with
          | false => rfl
          | true => rw [hA k (by omega) h] at hSk; cases hSk
        rw [hkk k p hp]
        exact (PR.apart i k o p hio hp hk hAk).2.1 (by rw [← hkk i o hio]; exact h3)
      have hi' : ∀ k, i < k → k < m → S k = true → kd k = 0 := by
        intro k hik hk hSk
        obtain ⟨p, hp⟩ := hop k hk
        rw [hkk k p hp]
        exact (PR.apart k i p o hp hio hik (hB k hk hSk hik)).2.2 (by rw [← hkk i o hio]; exact h3)
      have key : ∀ n, n ≤ m → (n ≤ i → hS s.h nx S n = (st n).h) ∧ (i ≤ n → hS s.h nx S n = (st i).h) := by
        intro n
        induction n with
        | zero =>
          intro _
          refine ⟨fun _ => by simp only [hS]; rw [hst0], fun h0 => ?_⟩
          have : i = 0 := by omega
          rw [this]; simp only [hS]; rw [hst0]
        | succ n ih =>
          intro hn
          obtain ⟨ih1, ih2⟩ := ih (by omega)
          have a1 : n < i → hS s.h nx S (n + 1) = (st (n + 1)).h := by
            intro hlt
            simp only [hS]
            rw [ih1 (by omega)]
            cases hSn : S n with
            | true => simpa using hnxt n (by omega)
            | false =>
              simp only [Bool.false_eq_true, if_false]
              rw [← hnxt n (by omega), hnx0 n (by omega) (.inl (lo n hlt hSn))]
          refine ⟨fun hle => a1 (by omega), fun hge => ?_⟩
          by_cases e : i = n + 1
          · rw [e]; exact a1 (by omega)
          · simp only [hS]
            rw [ih2 (by omega)]
            cases hSn : S n with
            | false => simp
            | true =>
              have hne : n ≠ i := by intro e; subst e; rw [hSi] at hSn; cases hSn
              simp only [if_true]
              exact hnx0 n (by omega) (.inl (hi' n (by omega) (by omega) hSn)) _
      exact (key m (Nat.le_refl _)).2 (by omega)
    have hρi : ∀ l, (st i).c ≤ l → l < (st (i + 1)).c → ρ l = none := by
      intro l h1 h2
      rw [I2 l (fun k hk hSk => disj i k him hk (by intro e; subst e; rw [hSi] at hSk; cases hSk) l h1 h2)]
      exact inside i him l h1 h2
    have hclosed : Closed ops (ins S i) := by
      intro k p hp hk e he
      unfold ins at hk ⊢
      simp only [Bool.or_eq_true, beq_iff_eq] at hk ⊢
      rcases hk with hk | rfl
      · exact .inl (I5 k p hp hk e he)
      · rw [hio] at hp; cases hp; exact .inl (hed e he)
    have hdn : ∀ x, o.dst = some x → x < nt := dstOk_spec hdst o (by rw [Array.mem_toList_iff]; exact Array.mem_of_getElem? hio)
    -- the end of a step
    have close : ∀ (v : AV) (u : Value) (w' : World) (ρ' : Pls), v = vk i → Good ρ F base (hh S) w (st i).c v (nx i (hh S)) (st (i + 1)).c u w' ρ' → K (a.put o.dst u) w' := by
      intro v u w' ρ' hv g
      subst hv
      have sub := g.sub hρi
      refine hK _ w' ρ' ⟨?_, fun l hl => ?_, ?_, I4.trans g.bel, hclosed⟩
      · rw [htins, hhins]
        exact I1.put (c' := 0) hdn g.rel g.val g.mv sub
      · rw [g.out l (hl i him (by simp [ins]))]
        exact I2 l (fun k hk hSk => hl k hk (by simp [ins, hSk]))
      · rw [hhins]
        exact I3.trans g.mv
    have hsize : base ≤ w.heap.size := Nat.le_trans hbase I4.size
    unfold wpOp
    rw [hio]
    simp only
    obtain ⟨_, h | h | h⟩ := hf i o hio
    · -- it is passed over
      obtain ⟨hw, hv, h1, h2⟩ := h
      rw [← hcw] at hw
      rw [wanted_of I1.tmp hw]
      simp only [Bool.false_eq_true, if_false]
      have hnxi : nx i (hh S) = hh S := by
        by_cases h3 : kd i = 3
        · simp only [nx, if_pos h3]; rw [hD h3, h1]
        · simp only [nx, if_neg h3]; rw [h2, lay_same]
      refine close skipV undef w ρ hv.symm ?_
      rw [hnxi]
      exact ⟨I1.rel, skip_rel _ _ _, fun _ _ => rfl, Mv.refl _ _, Below.refl _ _⟩
    · -- it may do all
      obtain ⟨hw, h3, h1⟩ := h
      rw [← hcw] at hw
      rw [wanted_of I1.tmp hw]
      simp only [if_true]
      rw [← hkk i o hio] at h3
      rw [← hcop, ← hD h3] at h1
      have hnxi : nx i (hh S) = (st (i + 1)).h := by simp only [nx, if_pos h3]
      obtain ⟨_, h4⟩ := opA_sound (a := a) hm ho h1
      refine .inl (wp_of_hits (h4 ρ F base w I1.rel hsize hF hρi I1.tmp) ?_)
      rintro u w' ⟨ρ', g⟩
      exact close _ u w' ρ' rfl (by rw [hnxi]; exact g)
    · obtain ⟨hw, h3, hfr, h1, h2⟩ := h
      rw [← hcw] at hw
      rw [wanted_of I1.tmp hw]
      simp only [if_true]
      have h3' : kd i ≠ 3 := by rw [hkk i o hio]; exact h3
      have hnxi : nx i (hh S) = (f i).2.lay (st i).c (st (i + 1)).c (hh S) := by simp only [nx, if_neg h3']
      have hop2 : opA P md orc (tt S) (hh S) (st i).c o.op = some (vk i, nx i (hh S), (st (i + 1)).c) := by
        rw [hnxi]
        by_cases h0 : kindA md ops o.op = 0
        · rw [← hcop] at h1
          obtain ⟨h4, h5, h6⟩ := kind0 h0 h1
          rw [h6 (hh S), h5, lay_same]
        · -- no operation of the last kind has been done
          have no3 : ∀ k, k < m → S k = true → kd k ≠ 3 := by
            intro k hk hSk h4
            obtain ⟨p, hp⟩ := hop k hk
            rw [hkk k p hp] at h4
            rcases Nat.lt_trichotomy k i with h5 | h5 | h5
            · rcases PR.late i k o p hio hp h5 h4 with h6 | h6
              · exact h0 h6
              · exact h3 h6
            · subst h5; rw [hSi] at hSk; cases hSk
            · exact h0 ((PR.apart k i p o hp hio h5 (hB k hk hSk h5)).2.1 h4)
          have hle : HLe s.h (hh S) := by
            intro l b hlb
            have hout : ∀ k, k < m → ¬ ((st k).c ≤ l ∧ l < (st (k + 1)).c) := by
              intro k hk ⟨h4, h5⟩
              obtain ⟨p, hp, _⟩ := S0.rel.lt hlb
              rw [inside k hk l h4 h5] at hp
              cases hp
            have key : ∀ n, n ≤ m → hS s.h nx S n l = some b := by
              intro n
              induction n with
              | zero => intro _; exact hlb
              | succ n ih =>
                intro hn
                simp only [hS]
                cases hSn : S n with
                | false => simpa using ih (by omega)
                | true =>
                  simp only [if_true, nx, if_neg (no3 n (by omega) hSn)]
                  unfold Heap.lay
                  rw [if_neg (hout n (by omega))]
                  exact ih (by omega)
            exact key m (Nat.le_refl _)
          have hk12 : kindA md ops o.op = 1 ∨ kindA md ops o.op = 2 := by
            have hlt : kindA md ops o.op ≤ 3 := by
              unfold kindA
              split <;> try omega
              split <;> try omega
              · split <;> try omega
                split <;> try omega
                split <;> omega
              · split <;> omega
            omega
          have hfr' : freshA (tt S) o.op = true := by
            have : freshA (tt S) o.op = freshA (st i).t o.op := by
              have hev : ∀ x ∈ o.op.operands.toList, evA (tt S) x = evA (st i).t x := fun x hx => ev_congr fun r hr => hlook r (by
                unfold Oper.looksAt
                refine List.mem_append.2 (.inl (List.mem_filterMap.2 ⟨x, hx, ?_⟩))
                rw [hr])
              unfold freshA
              split
              · rename_i cl hcl
                split
                · rename_i b hb
                  split
                  · split
                    · rename_i x xs hxs
                      rw [hev x (by rw [hcl]; simp only [Op.operands, Call.operands, Array.toList_append, List.mem_append]; exact .inr (by rw [hxs]; simp))]
                    · rfl
                  · rfl
                · rfl
              · rfl
            rw [this]; exact hfr
          rw [← hcop] at h1
          have hn1 : ∀ l, (st i).c ≤ l → l < (st (i + 1)).c → s.h l = none := by
            intro l h4 h5
            cases hl : s.h l with
            | none => rfl
            | some b => obtain ⟨p, hp, _⟩ := S0.rel.lt hl; rw [inside i him l h4 h5] at hp; cases hp
          have hn2 : ∀ l, (st i).c ≤ l → l < (st (i + 1)).c → hh S l = none := by
            intro l h4 h5
            cases hl : hh S l with
            | none => rfl
            | some b => obtain ⟨p, hp, _⟩ := I1.rel.lt hl; rw [hρi l h4 h5] at hp; cases hp
          exact (kind12 hk12 hfr' hle (fun l h4 h5 => ⟨hn1 l h4 h5, hn2 l h4 h5⟩) h1).1
      obtain ⟨_, h4⟩ := opA_sound (a := a) hm ho hop2
      refine .inl (wp_of_hits (h4 ρ F base w I1.rel hsize hF hρi I1.tmp) ?_)
      rintro u w' ⟨ρ', g⟩
      exact close _ u w' ρ' rfl g
  -- every order
  have allOf : ∀ (listed : Array Bool), listed.size = m → Region.ready .any ops listed = [] → ∀ k, k < m → listed.getD k true = true := by
    intro listed hls hr k
    induction k using Nat.strongRecOn with
    | _ k ih =>
      intro hk
      cases hl : listed.getD k true with
      | true => rfl
      | false =>
        exfalso
        obtain ⟨o, hok⟩ := hop k hk
        have hmem : k ∈ Region.ready .any ops listed := by
          unfold Region.ready
          refine List.mem_filter.2 ⟨List.mem_range.2 hk, ?_⟩
          rw [hl, hok]
          simp only [Bool.not_false, Bool.true_and, Option.map_some, Option.getD_some]
          rw [Array.all_eq_true']
          intro e he
          cases hb : Region.binds .any e with
          | false => rfl
          | true =>
            have hed : e.on ∈ edgesOn o := List.mem_map.2 ⟨e, List.mem_filter.2 ⟨Array.mem_toList_iff.2 he, hb⟩, rfl⟩
            have hlt := PR.edge k o hok _ hed
            have := ih e.on hlt (by omega)
            have hin : e.on < listed.size := by omega
            simp only [Array.getD, hin, dif_pos] at this ⊢
            simpa using this
        rw [hr] at hmem
        cases hmem
  have main : ∀ (fuel : Nat) (listed : Array Bool) (a : Act) (w : World) (ρ : Pls), listed.size = m → ((List.range m).filter fun k => !listed.getD k true).length ≤ fuel → Inv (fun k => listed.getD k true && decide (k < m)) a w ρ → wpAny P .any ops Q fuel listed a w := by
    intro fuel
    induction fuel with
    | zero =>
      intro listed a w ρ hls hcount I
      have hall : ∀ k, k < m → listed.getD k true = true := by
        intro k hk
        cases hl : listed.getD k true with
        | true => rfl
        | false =>
          have : k ∈ (List.range m).filter fun k => !listed.getD k true := List.mem_filter.2 ⟨List.mem_range.2 hk, by rw [hl]; rfl⟩
          rw [List.eq_nil_of_length_eq_zero (Nat.le_zero.1 hcount)] at this
          cases this
      refine ⟨?_, fini _ a w ρ (fun k hk => by simp [hall k hk, hk]) I⟩
      unfold Region.ready
      refine List.filter_eq_nil_iff.2 fun k hk => ?_
      rw [hall k (List.mem_range.1 hk)]
      simp
    | succ fuel ih =>
      intro listed a w ρ hls hcount I
      refine ⟨fun hr => fini _ a w ρ (fun k hk => by simp [allOf listed hls hr k hk, hk]) I, fun i hi => ?_⟩
      unfold Region.ready at hi
      obtain ⟨h1, h2⟩ := List.mem_filter.1 hi
      have him : i < m := List.mem_range.1 h1
      obtain ⟨o, hio⟩ := hop i him
      rw [hio] at h2
      simp only [Option.map_some, Option.getD_some, Bool.and_eq_true, Bool.not_eq_true'] at h2
      obtain ⟨h2, h3⟩ := h2
      rw [Array.all_eq_true'] at h3
      refine step _ a w ρ i o _ him hio (by rw [h2]; rfl) (fun e he => ?_) I (fun a' w' ρ' I' => ?_)
      · obtain ⟨ed, hed, rfl⟩ := List.mem_map.1 he
        obtain ⟨hed, hb⟩ := List.mem_filter.1 hed
        have h4 := h3 ed (Array.mem_toList_iff.1 hed)
        rw [hb] at h4
        have hlt := PR.edge i o hio _ he
        have hin : ed.on < listed.size := by omega
        have hm' : ed.on < m := by omega
        simp only [Bool.not_true, Bool.false_or, Array.getD, hin, dif_pos] at h4 ⊢
        simp [hm']
        simpa using h4
      · have hfun : ins (fun k => listed.getD k true && decide (k < m)) i = fun k => (listed.setIfInBounds i true).getD k true && decide (k < m) := by
          funext k
          unfold ins
          simp only [Array.getD_eq_getD_getElem?, Array.getElem?_setIfInBounds]
          by_cases e : i = k
          · subst e; simp [him, show i < listed.size by omega]
          · simp [e, Ne.symm e]
        rw [hfun] at I'
        refine ih _ a' w' ρ' (by simpa using hls) ?_ I'
        have := filter_lt (p := fun k => !(listed.setIfInBounds i true).getD k true) (q := fun k => !listed.getD k true) (i := i) (fun k hk => by
          simp only [Array.getD_eq_getD_getElem?, Array.getElem?_setIfInBounds] at hk ⊢
          by_cases e : i = k
          · subst e; simp [show i < listed.size by omega] at hk
          · simpa [e] using hk) (by
          simp only [Array.getD_eq_getD_getElem?, Array.getElem?_setIfInBounds]
          simp [show i < listed.size by omega]) (by simp only [h2]; rfl) h1
        have h7 : (List.range ops.size) = List.range m := rfl
        rw [h7] at this
        omega
  refine wp_region_any hx (main m _ _ _ ρ0 (by simp [m]) (Nat.le_trans (List.length_filter_le _ _) (by simp [m])) ?_)
  have hno : ∀ k, k < m → ((Array.replicate ops.size false).getD k true && decide (k < m)) = false := by
    intro k hk
    have : k < ops.size := hk
    simp [Array.getD, this]
  refine ⟨?_, fun l _ => rfl, ?_, (Below.refl _ _).drew, fun k o hk hS => ?_⟩
  · have h1 : tt (fun k => (Array.replicate ops.size false).getD k true && decide (k < m)) = s.t := tS_none m hno
    have h2 : hh (fun k => (Array.replicate ops.size false).getD k true && decide (k < m)) = s.h := hS_none m hno
    rw [h1, h2]
    exact ⟨S0.rel, S0.tmp, S0.dfr, S0.siz⟩
  · have h2 : hh (fun k => (Array.replicate ops.size false).getD k true && decide (k < m)) = s.h := hS_none m hno
    rw [h2]
    exact Mv.refl _ _
  · have hkm : k < m := (Array.getElem?_eq_some_iff.1 hk).1
    have hS2 := hno k hkm
    simp only at hS
    rw [hS2] at hS
    cases hS

end
end Go.Proofs.Ytkdmhlmaeccekaa.AM
