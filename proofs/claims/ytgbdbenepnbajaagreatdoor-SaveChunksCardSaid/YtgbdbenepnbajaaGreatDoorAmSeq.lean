/- From operations to regions. -/
import Derived.Test.YtgbdbenepnbajaaGreatDoorAmOp
namespace Go.Proofs.YtgbdbenepnbajaaGreatDoor.AM
open Go Go.RowKit
set_option linter.unusedVariables false
set_option linter.unusedSimpArgs false

/-- The blocks for the deferred calls of loops over functions: no call lies in them. -/
def MarksL (G : Nat → Prop) (n0 : Nat) (H : Array Obj) : List Deferred → Prop
  | [] => True
  | d :: ds => (∃ r, d.target = .collected r ∧ n0 ≤ r ∧ ¬ G r ∧ H[r]? = some (.deferred (some [])) ∧ ∀ d' ∈ ds, d'.target ≠ .collected r) ∧ MarksL G n0 H ds

theorem MarksL.mono {G G' : Nat → Prop} {n0 : Nat} {H H' : Array Obj} : ∀ {ds : List Deferred}, MarksL G n0 H ds → (∀ r, H[r]? = some (.deferred (some [])) → ¬ G r → (∃ d ∈ ds, d.target = .collected r) → ¬ G' r ∧ H'[r]? = H[r]?) → MarksL G' n0 H' ds
  | [], _, _ => trivial
  | d :: ds, ⟨⟨r, h1, h2, h3, h4, h5⟩, h⟩, k => by
    obtain ⟨k1, k2⟩ := k r h4 h3 ⟨d, by simp, h1⟩
    exact ⟨⟨r, h1, h2, k1, k2.trans h4, h5⟩, h.mono fun r h4 h3 ⟨d', hd, e⟩ => k r h4 h3 ⟨d', by simp [hd], e⟩⟩

/-- .. ahead of the calls that were deferred before. -/
def Marks (D0 : List Deferred) (G : Nat → Prop) (n0 : Nat) (H : Array Obj) (ds : List Deferred) : Prop := ∃ ms, ds = ms ++ D0 ∧ MarksL G n0 H ms
theorem Marks.mono {D0 : List Deferred} {G G' : Nat → Prop} {n0 : Nat} {H H' : Array Obj} {ds : List Deferred} : Marks D0 G n0 H ds → (∀ r, H[r]? = some (.deferred (some [])) → ¬ G r → ¬ G' r ∧ H'[r]? = H[r]?) → Marks D0 G' n0 H' ds := by
  rintro ⟨ms, rfl, h⟩ k
  exact ⟨ms, rfl, h.mono fun r h4 h3 _ => k r h4 h3⟩
theorem Marks.nil {G : Nat → Prop} {n0 : Nat} {H : Array Obj} (D0 : List Deferred) : Marks D0 G n0 H D0 := ⟨[], rfl, trivial⟩

/-- A state of the interpreter, and one of the machine. -/
structure SR (D0 : List Deferred) (nt n0 : Nat) (ρ : Pls) (F : Nat → Prop) (base : Nat) (s : St) (a : Act) (w : World) : Prop where
  rel : Rel ρ F base s.h w.heap
  tmp : ∀ i, VR w.heap (FF F s.h ρ) ρ (s.t i) (a.tmps.getD i undef)
  dfr : Marks D0 (FF F s.h ρ) n0 w.heap a.defers
  n0le : n0 ≤ w.heap.size
  siz : nt ≤ a.tmps.size

/-- The way from one state to another. -/
structure Way (F : Nat → Prop) (base : Nat) (ρ : Pls) (h : Heap) (w : World) (c : Nat) (ρ' : Pls) (h' : Heap) (w' : World) (c' : Nat) : Prop where
  out : ∀ l, ¬ (c ≤ l ∧ l < c') → ρ' l = ρ l
  mv : Mv w.heap (FF F h ρ) w'.heap (FF F h' ρ')
  bel : Below base w w'

theorem Way.refl (F : Nat → Prop) (base : Nat) (ρ : Pls) (h : Heap) (w : World) (c : Nat) : Way F base ρ h w c ρ h w c := ⟨fun _ _ => rfl, Mv.refl _ _, Below.refl _ _⟩

theorem Way.trans {F : Nat → Prop} {base : Nat} {ρ ρ1 ρ2 : Pls} {h h1 h2 : Heap} {w w1 w2 : World} {c c1 c2 : Nat} (a : Way F base ρ h w c ρ1 h1 w1 c1) (b : Way F base ρ1 h1 w1 c1 ρ2 h2 w2 c2) (h1' : c ≤ c1) (h2' : c1 ≤ c2) :
    Way F base ρ h w c ρ2 h2 w2 c2 :=
  ⟨fun l hl => (b.out l (by omega)).trans (a.out l (by omega)), a.mv.trans b.mv, a.bel.trans b.bel⟩

theorem Way.fr {F : Nat → Prop} {base : Nat} {ρ ρ1 : Pls} {h h1 : Heap} {w w1 : World} {c c1 c2 : Nat} (a : Way F base ρ h w c ρ1 h1 w1 c1) (fr : Fr ρ c c2) (h1' : c ≤ c1) : Fr ρ1 c1 c2 := by
  intro l h2 h3
  rw [a.out l (by omega)]
  exact fr l (by omega) h3

section
variable {P : Program} {md : Nat → Option CMode} {orc : Orc} {ops : Array Oper} {D0 : List Deferred} {nt n0 : Nat} {rd : Option Nat}

theorem tmps_put {a : Act} {d : Tmp} {u : Value} (h : d < a.tmps.size) (i : Nat) : ((a.put (some d) u).tmps.getD i undef) = if i = d then u else a.tmps.getD i undef := by
  simp only [Act.put, Array.getD_eq_getD_getElem?, Array.getElem?_setIfInBounds]
  by_cases e : i = d
  · subst e; simp [h]
  · simp [e, Ne.symm e]

theorem skip_rel (H : Array Obj) (F : Nat → Prop) (ρ : Pls) : VR H F ρ skipV undef :=
  .tup ρ [] #[] (fun _ => undef) rfl (fun i x h => by simp at h) (fun i x h => by simp at h)

theorem wanted_of {o : Oper} {t : Nat → AV} {a : Act} {H : Array Obj} {F : Nat → Prop} {ρ : Pls} {b : Bool} (T : ∀ i, VR H F ρ (t i) (a.tmps.getD i undef)) (e : wantA ops t o = some b) : Region.wanted o (yielded ops a.tmps) = b := by
  unfold wantA at e
  unfold Region.wanted
  split at e
  · rename_i hg; rw [hg]; simp only; exact Option.some.inj e
  · rename_i j want hg
    rw [hg]
    simp only
    obtain ⟨q, hq, e⟩ := Option.map_eq_some_iff.mp e
    unfold yldA at hq
    unfold yielded
    cases hd : (ops[j]?).bind (·.dst) with
    | none => rw [hd] at hq; cases hq
    | some d =>
      rw [hd] at hq
      simp only at hq
      split at hq
      · rename_i q' hb
        cases hq
        have hv := T d
        rw [hb] at hv
        have hval : a.tmps.getD d undef = .bool q' := by
          revert hv
          generalize a.tmps.getD d undef = y
          intro hv
          cases hv
          rfl
        have : a.tmps[d]? = some (.bool q') := by
          rw [Array.getD_eq_getD_getElem?] at hval
          cases ht : a.tmps[d]? with
          | none => rw [ht] at hval; simp [undef] at hval
          | some v => rw [ht] at hval; simp at hval; rw [hval]
        simp only [Option.bind_some, this]
        cases q' <;> cases want <;> simp at e ⊢ <;> first | exact e | (rw [← e])
      · rename_i hb
        cases hq
        have hv := T d
        rw [hb] at hv
        have hval : ∃ x, a.tmps.getD d undef = .tuple x := by
          revert hv
          generalize a.tmps.getD d undef = y
          intro hv
          cases hv
          exact ⟨_, rfl⟩
        obtain ⟨x, hval⟩ := hval
        have hb2 : b = false := by cases want <;> simpa using e.symm
        subst hb2
        rw [Array.getD_eq_getD_getElem?] at hval
        cases ht : a.tmps[d]? with
        | none => simp only [Option.bind_some, ht]; rfl
        | some v => rw [ht] at hval; simp only [Option.getD_some] at hval; subst hval; simp only [Option.bind_some, ht]; rfl
      · cases hq

/-- A temporary is written. -/
theorem SR.put {ρ : Pls} {F : Nat → Prop} {base : Nat} {s : St} {a : Act} {w w' : World} {ρ' : Pls} {h' : Heap} {c' : Nat} {v : AV} {u : Value} {d : Option Tmp} (S : SR D0 nt n0 ρ F base s a w) (hd : ∀ x, d = some x → x < nt)
    (rel : Rel ρ' F base h' w'.heap) (val : VR w'.heap (FF F h' ρ') ρ' v u) (mv : Mv w.heap (FF F s.h ρ) w'.heap (FF F h' ρ')) (sub : Sub ρ ρ') : SR D0 nt n0 ρ' F base ⟨upd s.t d v, h', c'⟩ (a.put d u) w' := by
  refine ⟨rel, fun i => ?_, ?_, Nat.le_trans S.n0le mv.le, ?_⟩
  · cases d with
    | none => exact (S.tmp i).mono mv sub
    | some d =>
      have h1 := hd d rfl
      rw [tmps_put (d := d) (Nat.lt_of_lt_of_le h1 S.siz)]
      simp only [upd]
      by_cases e : i = d
      · rw [if_pos e, if_pos e]; exact val
      · rw [if_neg e, if_neg e]; exact (S.tmp i).mono mv sub
  · have hm : Marks D0 (FF F h' ρ') n0 w'.heap a.defers := S.dfr.mono fun r h4 h3 => mv.st r (getElem_lt h4) h3
    cases d <;> exact hm
  · cases d with
    | none => exact S.siz
    | some d => simp [Act.put]; exact S.siz

def Ex.out : Ex → Exit
  | .normal => .normal
  | .exit i => .exit i
  | .ret => .ret
  | .pan t k n => .panic (panChain t k n)

/-- On to what follows, or out. -/
def KQ (K : Act → World → Prop) (Q : Exit → Act → World → Prop) : Ex → Act → World → Prop
  | .normal => K
  | e => Q e.out

/-- A panic leaves the temporaries. -/
theorem SR.out {ρ : Pls} {F : Nat → Prop} {base : Nat} {s : St} {a : Act} {w w' : World} {ρ' : Pls} {h' : Heap} {c c' : Nat} (S : SR D0 nt n0 ρ F base s a w) (g : GoodP ρ F base s.h w c h' c' w' ρ') (fr : Fr ρ c c') : SR D0 nt n0 ρ' F base ⟨s.t, h', c'⟩ a w' := by
  have sub : Sub ρ ρ' := by
    intro l p hp
    rw [g.out l (fun ⟨h1, h2⟩ => by rw [fr l h1 h2] at hp; cases hp)]
    exact hp
  exact ⟨g.rel, fun i => (S.tmp i).mono g.mv sub, S.dfr.mono fun r h4 h3 => g.mv.st r (getElem_lt h4) h3, Nat.le_trans S.n0le g.mv.le, S.siz⟩

theorem put_defers (a : Act) (d : Option Tmp) (u : Value) : (a.put d u).defers = a.defers := by cases d <;> rfl
/-- One operation, whatever it is handed on to. -/
theorem step_sound (hm : MdOk P md) (ho : OrcOk P md orc) {o : Oper} {s s' : St} {ex : Ex} (e : stepA P md orc ops o s = some (ex, s')) (hd : ∀ x, o.dst = some x → x < nt) : s.c ≤ s'.c ∧
    ∀ (ρ : Pls) (F : Nat → Prop) (base : Nat) (a : Act) (w : World), SR D0 nt n0 ρ F base s a w → base ≤ w.heap.size → (∀ k, F k → k < base) → Fr ρ s.c s'.c → ∀ (i : Nat) (Q : Exit → Act → World → Prop) (K : Act → World → Prop), ops[i]? = some o →
      (∀ ρ' a' w', SR D0 nt n0 ρ' F base s' a' w' → Way F base ρ s.h w s.c ρ' s'.h w' s'.c → a'.defers = a.defers → KQ K Q ex a' w') → wpOpIn (FR rd) 0 P ops Q i K a w := by
  unfold stepA at e
  replace e := Option.bind_eq_some_iff.mp e; obtain ⟨b, hb, e⟩ := e
  cases b
  · simp only [cond_false, Option.some.injEq] at e
    cases e
    refine ⟨Nat.le_refl _, fun ρ F base a w S hbase hF fr i Q K hi hK => ?_⟩
    unfold wpOpIn
    rw [hi]
    simp only
    rw [wanted_of S.tmp hb]
    simp only [Bool.false_eq_true, if_false]
    exact ⟨fun _ _ => trivial, hK ρ _ w (S.put hd S.rel (skip_rel _ _ _) (Mv.refl _ _) (Sub.refl _)) (Way.refl _ _ _ _ _ _) (put_defers _ _ _)⟩
  · simp only [cond_true] at e
    have key : ∀ (v : AV) (h' : Heap) (c' : Nat), opA P md orc s.t s.h s.c o.op = some (v, h', c') → (v.isPan = false ∨ mayP o.op = false) → (ex, s') = (Ex.normal, (⟨upd s.t o.dst v, h', c'⟩ : St)) → s.c ≤ s'.c ∧
        ∀ (ρ : Pls) (F : Nat → Prop) (base : Nat) (a : Act) (w : World), SR D0 nt n0 ρ F base s a w → base ≤ w.heap.size → (∀ k, F k → k < base) → Fr ρ s.c s'.c → ∀ (i : Nat) (Q : Exit → Act → World → Prop) (K : Act → World → Prop), ops[i]? = some o →
          (∀ ρ' a' w', SR D0 nt n0 ρ' F base s' a' w' → Way F base ρ s.h w s.c ρ' s'.h w' s'.c → a'.defers = a.defers → KQ K Q ex a' w') → wpOpIn (FR rd) 0 P ops Q i K a w := by
      intro v h' c' hop hnp he
      cases he
      obtain ⟨hc, _⟩ := opA_sound (a := ⟨#[], []⟩) hm ho hop hnp
      refine ⟨hc, fun ρ F base a w S hbase hF fr i Q K hi hK => ?_⟩
      obtain ⟨_, hop2⟩ := opA_sound (a := a) hm ho hop hnp
      unfold wpOpIn
      rw [hi]
      simp only
      rw [wanted_of S.tmp hb]
      simp only [if_true]
      refine (wp_of_hits (opA_nodefer hop) (hop2 ρ F base w S.rel hbase hF fr S.tmp) ?_)
      rintro u w' ⟨ρ', g⟩
      exact hK ρ' _ w' (S.put hd g.rel g.val g.mv (g.sub fr)) ⟨g.out, g.mv, g.bel⟩ (put_defers _ _ _)
    cases hmp : mayP o.op
    · rw [hmp] at e
      simp only [cond_false] at e
      obtain ⟨⟨v, h', c'⟩, hop, e⟩ := Option.map_eq_some_iff.mp e
      exact key v h' c' hop (.inr hmp) e.symm
    · rw [hmp] at e
      simp only [cond_true] at e
      obtain ⟨⟨v, h', c'⟩, hop, e⟩ := Option.map_eq_some_iff.mp e
      cases hp : v.isPan
      · refine key v h' c' hop (.inl hp) ?_
        rw [← e]
        cases v <;> first | rfl | cases hp
      · cases v with
        | pan pt pk pn =>
          cases e
          obtain ⟨hc, _⟩ := opA_pan (a := ⟨#[], []⟩) hm ho hmp hop
          refine ⟨hc, fun ρ F base a w S hbase hF fr i Q K hi hK => ?_⟩
          obtain ⟨_, hop2⟩ := opA_pan (a := a) hm ho hmp hop
          unfold wpOpIn
          rw [hi]
          simp only
          rw [wanted_of S.tmp hb]
          simp only [if_true]
          refine (wp_of_hitsP (opA_nodefer hop) (hop2 ρ F base w S.rel hbase hF fr S.tmp) ?_)
          rintro w' ⟨ρ', g⟩
          exact hK ρ' a w' (S.out g fr) ⟨g.out, g.mv, g.bel⟩ rfl
        | _ => cases hp

/-- A region in the text's order. -/
theorem reg_sound (hm : MdOk P md) (ho : OrcOk P md orc) : ∀ (os : List Oper) (l : List Nat) (s s' : St) (ex : Ex), l.map (fun i => ops[i]?) = os.map some → (∀ o ∈ os, ∀ x, o.dst = some x → x < nt) → regA P md orc ops os s = some (ex, s') → s.c ≤ s'.c ∧
    ∀ (ρ : Pls) (F : Nat → Prop) (base : Nat) (a : Act) (w : World), SR D0 nt n0 ρ F base s a w → base ≤ w.heap.size → (∀ k, F k → k < base) → Fr ρ s.c s'.c → ∀ (Q : Exit → Act → World → Prop),
      (∀ ρ' a' w', SR D0 nt n0 ρ' F base s' a' w' → Way F base ρ s.h w s.c ρ' s'.h w' s'.c → a'.defers = a.defers → Q ex.out a' w') → wpOpsIn (FR rd) 0 P ops Q l a w
  | [], l, s, s', ex, hl, _, e => by
    have : l = [] := by simpa using hl
    subst this
    cases e
    exact ⟨Nat.le_refl _, fun ρ F base a w S hb hF fr Q hQ => hQ ρ a w S (Way.refl _ _ _ _ _ _) rfl⟩
  | o :: os, l, s, s', ex, hl, hd, e => by
    cases l with
    | nil => simp at hl
    | cons i l =>
      simp only [List.map_cons, List.cons.injEq] at hl
      obtain ⟨hi, hl⟩ := hl
      replace e := Option.bind_eq_some_iff.mp e; obtain ⟨⟨ex1, s1⟩, h1, e⟩ := e
      obtain ⟨c1, k1⟩ := step_sound (nt := nt) (n0 := n0) (rd := rd) hm ho h1 (hd o (by simp))
      have out : ex1 ≠ .normal → (ex, s') = (ex1, s1) → s.c ≤ s'.c ∧
          ∀ (ρ : Pls) (F : Nat → Prop) (base : Nat) (a : Act) (w : World), SR D0 nt n0 ρ F base s a w → base ≤ w.heap.size → (∀ k, F k → k < base) → Fr ρ s.c s'.c → ∀ (Q : Exit → Act → World → Prop),
            (∀ ρ' a' w', SR D0 nt n0 ρ' F base s' a' w' → Way F base ρ s.h w s.c ρ' s'.h w' s'.c → a'.defers = a.defers → Q ex.out a' w') → wpOpsIn (FR rd) 0 P ops Q (i :: l) a w := by
        intro hne he
        cases he
        refine ⟨c1, fun ρ F base a w S hb hF fr Q hQ => ?_⟩
        rw [wpOpsIn_cons]
        refine k1 ρ F base a w S hb hF fr i Q _ hi fun ρ' a' w' S' W' D' => ?_
        have := hQ ρ' a' w' S' W' D'
        cases ex <;> first | exact absurd rfl hne | exact this
      cases ex1 with
      | normal =>
        obtain ⟨c2, k2⟩ := reg_sound hm ho os l s1 s' ex hl (fun o ho => hd o (by simp [ho])) e
        refine ⟨Nat.le_trans c1 c2, fun ρ F base a w S hb hF fr Q hQ => ?_⟩
        rw [wpOpsIn_cons]
        refine k1 ρ F base a w S hb hF (fun l h3 h4 => fr l h3 (by omega)) i Q _ hi ?_
        intro ρ1 a1 w1 S1 W1 D1
        refine k2 ρ1 F base a1 w1 S1 (Nat.le_trans hb W1.bel.size) hF (W1.fr fr c1) Q ?_
        intro ρ2 a2 w2 S2 W2 D2
        exact hQ ρ2 a2 w2 S2 (W1.trans W2 c1 c2) (D2.trans D1)
      | exit i => exact out (by simp) (Option.some.inj e).symm
      | ret => exact out (by simp) (Option.some.inj e).symm
      | pan t k n => exact out (by simp) (Option.some.inj e).symm

theorem range_get (ops : Array Oper) : (List.range ops.size).map (fun i => ops[i]?) = ops.toList.map some := by
  apply List.ext_getElem?
  intro i
  rw [List.getElem?_map, List.getElem?_map]
  by_cases h : i < ops.size
  · rw [List.getElem?_range h]; simp [h]
  · rw [List.getElem?_eq_none (by simpa using h), List.getElem?_eq_none (by simpa using h)]; rfl

end
end Go.Proofs.YtgbdbenepnbajaaGreatDoor.AM
