/- Each operation of the interpreter tells what the machine does: those that call nothing. -/
import Derived.Test.YtgbdbenepnbajaaGreatDoorAmMem
import Derived.RangeFuncRecord
import Derived.TacticsIn
import Derived.OrdersIn
namespace Go.Proofs.YtgbdbenepnbajaaGreatDoor.AM
open Go Go.RowKit
set_option linter.unusedVariables false

/-- What an operation comes to. -/
def Hits (P : Program) (x : Sem Next) (w : World) (Φ : Value → World → Prop) : Prop :=
  match x.run P w with
  | .ok (.value u) w' => Φ u w'
  | .ok .skip w' => Φ undef w'
  | .ok (.enter f args) w' => Calls P f args w' fun e w'' => ∃ u, e = .returned u ∧ Φ u w''
  | .ok (.round l f tmps a b) w' => RoundIn Fence.wide 0 P l f tmps a b w' fun e w'' => ∃ u, e = .returned u ∧ Φ u w''
  | _ => False

theorem hits_value {P : Program} {x : Sem Value} {w w' : World} {u : Value} {Φ : Value → World → Prop} (h : x.run P w = .ok u w') (k : Φ u w') :
    Hits P (do pure (.value (← x))) w Φ := by
  unfold Hits
  simp [h, k]

theorem hits_skip {P : Program} {x : Sem Unit} {w w' : World} {Φ : Value → World → Prop} (h : x.run P w = .ok () w') (k : Φ undef w') :
    Hits P (do x; pure .skip) w Φ := by
  unfold Hits
  simp [h, k]

theorem hits_pure {P : Program} {u : Value} {w : World} {Φ : Value → World → Prop} (k : Φ u w) : Hits P (pure (.value u)) w Φ := by
  unfold Hits
  simp [k]

theorem Hits.mono {P : Program} {x : Sem Next} {w : World} {Φ Ψ : Value → World → Prop} (h : Hits P x w Φ) (k : ∀ u w', Φ u w' → Ψ u w') : Hits P x w Ψ := by
  unfold Hits at h ⊢
  split at h
  · exact k _ _ h
  · exact k _ _ h
  · exact h.mono fun e w' ⟨u, he, hu⟩ => ⟨u, he, k _ _ hu⟩
  · exact h.mono fun e w' ⟨u, he, hu⟩ => ⟨u, he, k _ _ hu⟩
  · exact h.elim

/-- The fence that lets all in, in a round or in none. -/
def FR (rd : Option Nat) : Fence := { Fence.wide with round := rd }
theorem FR_none : FR none = Fence.wide := rfl
theorem FR_round (l : Nat) : FR (some l) = Fence.wide.inRound l := rfl

theorem callsFR {rd : Option Nat} {P : Program} {n : Nat} {f : FuncId} {args : Array Value} {w : World} {R : Ending → World → Prop} (h : Calls P f args w R) : CallsIn (FR rd) n P f args w R :=
  (callsIn_wide (n := n)).2 h
theorem roundFR {rd : Option Nat} {P : Program} {n m : Nat} {l : Nat} {f : FuncId} {tmps : Array Value} {a b : Code} {w : World} {R : Ending → World → Prop} (h : RoundIn Fence.wide n P l f tmps a b w R) : RoundIn (FR rd) m P l f tmps a b w R :=
  ⟨trivial, fun c cs _ => h.2 c cs (room_wide _)⟩

theorem wp_of_hits {rd : Option Nat} {P : Program} {o : Oper} {a : Act} {w : World} {Φ : Value → World → Prop} {K : Act → World → Prop} {Q : Exit → Act → World → Prop} (hd : ∀ c, o.op ≠ .defer c)
    (h : Hits P (execOp a.eval o) w Φ) (k : ∀ u w', Φ u w' → K (a.put o.dst u) w') : o.wpIn (FR rd) 0 P a w K Q := by
  refine ⟨fun _ _ => trivial, ?_⟩
  have hs : o.semAt (FR rd).round a.eval = execOp a.eval o := by
    cases rd with
    | none => exact Oper.semAt_none _ _
    | some l => exact Oper.semAt_some l _ _ hd
  rw [hs]
  unfold Hits at h
  unfold Oper.uponIn
  split at h
  · rename_i e; rw [e]; exact k _ _ h
  · rename_i e; rw [e]; exact k _ _ h
  · rename_i f args w' e
    rw [e]
    refine ⟨fun hh => (by cases hh), callsFR (Calls.mono h fun e w'' ⟨u, he, hu⟩ => ?_)⟩
    subst he
    exact k _ _ hu
  · rename_i l f tmps x y w' e
    rw [e]
    refine ⟨fun hh => (by cases hh), roundFR (RoundIn.mono h fun e w'' ⟨u, he, hu⟩ => ?_)⟩
    subst he
    exact k _ _ hu
  · exact h.elim

def Fr (ρ : Pls) (c c' : Nat) : Prop := ∀ l, c ≤ l → l < c' → ρ l = none

structure Good (ρ : Pls) (F : Nat → Prop) (base : Nat) (h : Heap) (w : World) (c : Nat) (v : AV) (h' : Heap) (c' : Nat) (u : Value) (w' : World) (ρ' : Pls) : Prop where
  rel : Rel ρ' F base h' w'.heap
  val : VR w'.heap (FF F h' ρ') ρ' v u
  out : ∀ l, ¬ (c ≤ l ∧ l < c') → ρ' l = ρ l
  mv : Mv w.heap (FF F h ρ) w'.heap (FF F h' ρ')
  bel : Below base w w'

/-- What a panic with a whole number hands on. -/
def panChain (t : Nat) (k : IntKind) (n : Int) : List PanicEntry := [{ v := .iface t (.int k n), recovered := false }]
/-- The memory behind a panic. -/
structure GoodP (ρ : Pls) (F : Nat → Prop) (base : Nat) (h : Heap) (w : World) (c : Nat) (h' : Heap) (c' : Nat) (w' : World) (ρ' : Pls) : Prop where
  rel : Rel ρ' F base h' w'.heap
  out : ∀ l, ¬ (c ≤ l ∧ l < c') → ρ' l = ρ l
  mv : Mv w.heap (FF F h ρ) w'.heap (FF F h' ρ')
  bel : Below base w w'
/-- How a call ends. -/
def Ends (ρ : Pls) (F : Nat → Prop) (base : Nat) (h : Heap) (w : World) (c : Nat) (r : AV) (h' : Heap) (c' : Nat) (e : Ending) (w' : World) : Prop :=
  (∃ u, e = .returned u ∧ ∃ ρ', Good ρ F base h w c r h' c' u w' ρ') ∨ ∃ t k n, r = .pan t k n ∧ e = .panicked (panChain t k n) ∧ ∃ ρ', GoodP ρ F base h w c h' c' w' ρ'
theorem Ends.ret {ρ : Pls} {F : Nat → Prop} {base : Nat} {h : Heap} {w : World} {c : Nat} {r : AV} {h' : Heap} {c' : Nat} {e : Ending} {w' : World} (x : Ends ρ F base h w c r h' c' e w') (hn : r.isPan = false) :
    ∃ u, e = .returned u ∧ ∃ ρ', Good ρ F base h w c r h' c' u w' ρ' := by
  rcases x with x | ⟨t, k, n, rfl, _⟩
  · exact x
  · cases hn
theorem Ends.pan {ρ : Pls} {F : Nat → Prop} {base : Nat} {h : Heap} {w : World} {c : Nat} {t : Nat} {k : IntKind} {n : Int} {h' : Heap} {c' : Nat} {e : Ending} {w' : World} (x : Ends ρ F base h w c (.pan t k n) h' c' e w') :
    e = .panicked (panChain t k n) ∧ ∃ ρ', GoodP ρ F base h w c h' c' w' ρ' := by
  rcases x with ⟨u, _, ρ', g⟩ | ⟨t, k, n, e, h⟩
  · have := g.val
    cases this
  · cases e
    exact h
/-- An operation that panics. -/
def HitsP (P : Program) (x : Sem Next) (w : World) (ch : List PanicEntry) (Ψ : World → Prop) : Prop :=
  match x.run P w with
  | .ok (.enter f args) w' => Calls P f args w' fun e w'' => e = .panicked ch ∧ Ψ w''
  | .halt (.panic v) w' => ch = [{ v, recovered := false }] ∧ Ψ w'
  | _ => False
theorem wp_of_hitsP {rd : Option Nat} {P : Program} {o : Oper} {a : Act} {w : World} {ch : List PanicEntry} {Ψ : World → Prop} {K : Act → World → Prop} {Q : Exit → Act → World → Prop} (hd : ∀ c, o.op ≠ .defer c)
    (h : HitsP P (execOp a.eval o) w ch Ψ) (k : ∀ w', Ψ w' → Q (.panic ch) a w') : o.wpIn (FR rd) 0 P a w K Q := by
  refine ⟨fun _ _ => trivial, ?_⟩
  have hs : o.semAt (FR rd).round a.eval = execOp a.eval o := by
    cases rd with
    | none => exact Oper.semAt_none _ _
    | some l => exact Oper.semAt_some l _ _ hd
  rw [hs]
  unfold HitsP at h
  unfold Oper.uponIn
  split at h
  · rename_i f args w' e
    rw [e]
    refine ⟨fun hh => (by cases hh), callsFR (Calls.mono h fun e w'' ⟨he, hu⟩ => ?_)⟩
    subst he
    exact k _ hu
  · rename_i v w' e
    rw [e]
    obtain ⟨rfl, hu⟩ := h
    exact k _ hu
  · exact h.elim

section
variable {P : Program} {ρ : Pls} {F : Nat → Prop} {base : Nat} {h : Heap} {w : World} {c : Nat}

theorem Good.sub {v : AV} {h' : Heap} {c' : Nat} {u : Value} {w' : World} {ρ' : Pls} (g : Good ρ F base h w c v h' c' u w' ρ') (fr : Fr ρ c c') : Sub ρ ρ' := by
  intro l p hp
  rw [g.out l (fun ⟨h1, h2⟩ => by rw [fr l h1 h2] at hp; cases hp)]
  exact hp

theorem good_same (R : Rel ρ F base h w.heap) {v : AV} {u : Value} (hv : VR w.heap (FF F h ρ) ρ v u) : Good ρ F base h w c v h c u w ρ :=
  ⟨R, hv, fun _ _ => rfl, Mv.refl _ _, Below.refl _ _⟩

theorem good_drew (R : Rel ρ F base h w.heap) {v : AV} {u : Value} (hv : VR w.heap (FF F h ρ) ρ v u) : Good ρ F base h w c v h c u w.drew ρ :=
  ⟨R, hv, fun _ _ => rfl, Mv.refl _ _, (Below.refl _ _).drew⟩

/-! ### lists -/
theorem at2_one {cs : List AV} {i j : Nat} {x : AV} (e : at2 [cs] i j = some x) : i = 0 ∧ cs[j]? = some x := by
  unfold at2 at e
  cases i with
  | zero => exact ⟨rfl, by simpa using e⟩
  | succ i => simp at e

theorem at2_flatten {sz : Nat} : ∀ {es : List (List AV)}, (∀ e ∈ es, e.length = sz) → ∀ {i j : Nat} {x : AV}, at2 es i j = some x → es.flatten[i * sz + j]? = some x ∧ j < sz ∧ i < es.length
  | [], _, i, j, x, e => by simp [at2] at e
  | r :: es, hs, i, j, x, e => by
    have hr : r.length = sz := hs r (by simp)
    cases i with
    | zero =>
      have e' : r[j]? = some x := by simpa [at2] using e
      have hj : j < r.length := (List.getElem?_eq_some_iff.1 e').1
      refine ⟨?_, by omega, by simp⟩
      rw [List.flatten_cons, Nat.zero_mul, Nat.zero_add, List.getElem?_append_left hj]
      exact e'
    | succ i =>
      have e' : at2 es i j = some x := by simpa [at2] using e
      obtain ⟨h1, h2, h3⟩ := at2_flatten (fun e he => hs e (by simp [he])) e'
      refine ⟨?_, h2, by simp; omega⟩
      rw [List.flatten_cons, List.getElem?_append_right (by rw [hr, Nat.add_mul]; omega), hr, show (i + 1) * sz + j - sz = i * sz + j by rw [Nat.add_mul]; omega]
      exact h1

theorem flatten_at2 {sz : Nat} : ∀ {es : List (List AV)}, (∀ e ∈ es, e.length = sz) → ∀ {k : Nat} {x : AV}, es.flatten[k]? = some x → ∃ i j, k = i * sz + j ∧ at2 es i j = some x
  | [], _, k, x, e => by simp at e
  | r :: es, hs, k, x, e => by
    have hr : r.length = sz := hs r (by simp)
    rcases Nat.lt_or_ge k r.length with hk | hk
    · rw [List.flatten_cons, List.getElem?_append_left hk] at e
      exact ⟨0, k, by omega, by simpa [at2] using e⟩
    · rw [List.flatten_cons, List.getElem?_append_right hk] at e
      obtain ⟨i, j, h1, h2⟩ := flatten_at2 (fun e he => hs e (by simp [he])) e
      refine ⟨i + 1, j, by rw [Nat.add_mul]; omega, by simpa [at2] using h2⟩

theorem flatten_len {sz : Nat} : ∀ {es : List (List AV)}, (∀ e ∈ es, e.length = sz) → es.flatten.length = es.length * sz
  | [], _ => by simp
  | r :: es, hs => by
    have hr : r.length = sz := hs r (by simp)
    have ih := flatten_len (sz := sz) (es := es) (fun e he => hs e (by simp [he]))
    simp only [List.flatten_cons, List.length_append, List.length_cons, ih, hr, Nat.add_mul]
    omega

theorem setCells_length {α : Type} : ∀ (e : List α) (f : Nat) (cs : List α), (setCells e f cs).length = e.length
  | _, _, [] => rfl
  | e, f, c :: cs => by rw [setCells, setCells_length]; simp

theorem setCells_get {α : Type} : ∀ (cs : List α) (e : List α) (f : Nat) (i : Nat), f + cs.length ≤ e.length →
    (setCells e f cs)[i]? = if f ≤ i ∧ i < f + cs.length then cs[i - f]? else e[i]?
  | [], e, f, i, _ => by rw [setCells, if_neg]; intro ⟨h1, h2⟩; simp at h2; omega
  | c :: cs, e, f, i, hl => by
    simp only [List.length_cons] at hl
    rw [setCells, setCells_get cs _ _ _ (by simp; omega)]
    by_cases h1 : i = f
    · subst h1
      rw [if_neg (by omega), if_pos (by simp), List.getElem?_set_self (by omega)]
      simp
    · by_cases h2 : f + 1 ≤ i ∧ i < f + 1 + cs.length
      · rw [if_pos h2, if_pos (by simp; omega), show i - f = (i - (f + 1)) + 1 by omega]
        simp
      · rw [if_neg h2, if_neg (by simp; omega), List.getElem?_set_ne (by omega)]

theorem LR.setCells {H : Array Obj} {F : Nat → Prop} {ρ : Pls} : ∀ {b : List AV} {v : List Value} {a : List AV} {u : List Value} (n : Nat), LR H F ρ a u → LR H F ρ b v → LR H F ρ (AM.setCells a n b) (AM.setCells u n v)
  | [], v, a, u, n, ha, hb => by
    have : v = [] := by have := hb.1; simpa using this
    subst this; exact ha
  | x :: b, v, a, u, n, ha, hb => by
    obtain ⟨y, r, rfl, hy, hr⟩ := hb.uncons
    exact LR.setCells (n + 1) (ha.set n hy) hr

/-- A row's cells, all of them fit for a cell. -/
def ones (vs : List Value) : Prop := ∀ v ∈ vs, v.oneCell' = true

theorem ones_get {vs : List Value} (h : ones vs) {i : Nat} {v : Value} (e : vs[i]? = some v) : v.oneCell' = true := h v (List.mem_of_getElem? e)

theorem ones_of {H : Array Obj} {F : Nat → Prop} {ρ : Pls} : ∀ {cs : List AV} {vs : List Value}, LR H F ρ cs vs → cs.all okc = true → ones vs
  | [], vs, hl, _ => by
    have : vs = [] := by have := hl.1; simpa using this
    subst this; intro v hv; cases hv
  | x :: cs, vs, hl, hb => by
    obtain ⟨y, r, rfl, hy, hr⟩ := hl.uncons
    simp only [List.all_cons, Bool.and_eq_true] at hb
    intro v hv
    rcases List.mem_cons.1 hv with rfl | hv
    · exact hy.one hb.1
    · exact ones_of hr hb.2 v hv

/-- A row of cells, for 'Rel.new'. -/
theorem row_new {H : Array Obj} {F : Nat → Prop} {ρ : Pls} {es : List (List AV)} {sz o : Nat} {vs : List Value} {cs : Array Value} (hs : ∀ e ∈ es, e.length = sz) (hl : LR H F ρ es.flatten vs) (h1 : ones vs)
    (hc : ∀ (k : Nat) v, vs[k]? = some v → cs[o + k]? = some v) :
    ∀ i j x, at2 es i j = some x → ∃ v, cs[o + i * sz + j]? = some v ∧ v.oneCell' = true ∧ VR H F ρ x v := by
  intro i j x hx
  obtain ⟨h2, _⟩ := at2_flatten hs hx
  obtain ⟨v, hv, hr⟩ := hl.2 _ x h2
  exact ⟨v, by rw [Nat.add_assoc]; exact hc _ v hv, ones_get h1 hv, hr⟩

/-! ### types -/
theorem szT_some {t n : Nat} (e : szT P t = some n) : ∃ i, P.info? t = some i ∧ i.size = n := by
  unfold szT at e
  exact Option.map_eq_some_iff.mp e
theorem slT_some {t e : Nat} (h : slT P t = some e) : P.underlying t = some (.slice e) := by
  unfold slT at h
  obtain ⟨d, h1, h2⟩ := Option.bind_eq_some_iff.mp h
  split at h2
  · cases h2; exact h1
  · cases h2
theorem arT_some {t n e : Nat} (h : arT P t = some (n, e)) : P.underlying t = some (.array n e) := by
  unfold arT at h
  obtain ⟨d, h1, h2⟩ := Option.bind_eq_some_iff.mp h
  split at h2
  · cases h2; exact h1
  · cases h2
theorem fdT_some {t i off ft : Nat} (h : fdT P t i = some (off, ft)) : ∃ fs f, P.underlying t = some (.struct fs) ∧ fs[i]? = some f ∧ f.offset = off ∧ f.type = ft := by
  unfold fdT at h
  obtain ⟨d, h1, h2⟩ := Option.bind_eq_some_iff.mp h
  split at h2
  · obtain ⟨f, hf, e⟩ := Option.map_eq_some_iff.mp h2
    cases e
    exact ⟨_, f, h1, hf, rfl, rfl⟩
  · cases h2
theorem run_sz {t n : Nat} (e : szT P t = some n) (w : World) : (sizeOf t).run P w = .ok n w := by
  obtain ⟨i, h1, h2⟩ := szT_some e
  simp [sizeOf, typeInfo, h1, h2]
theorem run_ag {t : Nat} {b : Bool} (e : aggT P t = some b) (w : World) : (isAgg t).run P w = .ok b w := by
  unfold aggT at e
  obtain ⟨d, h1, h2⟩ := Option.map_eq_some_iff.mp e
  unfold isAgg
  rw [Sem.run_bind, run_underlying h1]
  subst h2
  cases d <;> rfl
theorem zeT_some {t : Nat} {zs : List AV} (e : zeT P t = some zs) : ∃ i z, P.info? t = some i ∧ i.zero = some z ∧ (∀ (H : Array Obj) (F : Nat → Prop) (ρ : Pls), LR H F ρ zs z.cells.toList) ∧ ones z.cells.toList := by
  unfold zeT at e
  obtain ⟨z, h1, h2⟩ := Option.bind_eq_some_iff.mp e
  obtain ⟨i, h3, h4⟩ := Option.bind_eq_some_iff.mp h1
  split at h2
  · rename_i hall
    cases h2
    refine ⟨i, z, h3, h4, fun H F ρ => ⟨by simp, fun k x hx => ?_⟩, fun v hv => ?_⟩
    · rw [List.getElem?_map] at hx
      obtain ⟨v, hv, e⟩ := Option.map_eq_some_iff.mp hx
      exact ⟨v, hv, e ▸ lit_sound v⟩
    · exact List.all_eq_true.1 hall v hv
  · cases h2

theorem run_zero {t : Nat} {i : TypeInfo} {z : Value} (hi : P.info? t = some i) (hz : i.zero = some z) (w : World) : (zeroValue t).run P w = .ok z w := by
  simp [zeroValue, typeInfo, hi, hz]

end
end Go.Proofs.YtgbdbenepnbajaaGreatDoor.AM
