/- What comes in, as abstract values. -/
import Derived.Test.YtgbdbenepnbajaaGreatDoorAmSound
import Derived.ProofKit
namespace Go.Proofs.YtgbdbenepnbajaaGreatDoor.AM
open Go Go.RowKit
set_option linter.unusedVariables false
set_option linter.unusedSimpArgs false

/-- The forms of a type's values. -/
def TyOk (P : Program) : Nat → TypeId → List AV → Prop
  | 0, _, _ => False
  | n + 1, t, avs => match P.underlying t with
    | some .bool => ∃ b, avs = [boolV b]
    | some (.int k) => ∃ i, avs = [intV k i] ∧ k.min ≤ i ∧ i ≤ k.max
    | some .string => ∃ s, avs = [.val (.string s)] ∧ s.size ≤ maxLen
    | some (.slice e) => ∃ b es, avs = [.ro b es] ∧ (b = true → es = []) ∧ es.length ≤ maxLen ∧ ∀ r ∈ es, r.length = P.cellsOf e ∧ TyOk P n e r
    | some (.struct fs) => avs.length = P.cellsOf t ∧ ∀ f ∈ fs.toList, TyOk P n f.type ((avs.drop f.offset).take (P.cellsOf f.type))
    | _ => False

/-- Fields one behind the other. -/
def offs (P : Program) : Nat → List Field → Option Nat
  | o, [] => some o
  | o, f :: fs => if f.offset = o then offs P (o + P.cellsOf f.type) fs else none

/-- The types that are taken. -/
def supp (P : Program) : Nat → TypeId → Bool
  | 0, _ => false
  | n + 1, t => match P.underlying t with
    | some .bool => true
    | some (.int _) => true
    | some .string => true
    | some (.slice e) => supp P n e
    | some (.struct fs) => fs.toList.all (fun f => supp P n f.type) && (offs P 0 fs.toList == some (P.cellsOf t))
    | _ => false

section
variable {P : Program} {H : Type} {enc : TypeId × Value → H} {w : World}

theorem cells?_get {base : Nat} {a : Addr} {n : Nat} {vs : List Value} (h : w.cells? base a n = some vs) : vs.length = n ∧ ∀ (j : Nat) v, vs[j]? = some v → w.cell? (a.add j) = some v := by
  unfold World.cells? at h
  split at h
  · obtain ⟨h1, h2⟩ := mapM_some h
    simp only [List.length_range] at h1
    refine ⟨h1, fun j v hj => ?_⟩
    obtain ⟨x, hx, hc⟩ := h2 j v hj
    have hlt : j < n := by have := (List.getElem?_eq_some_iff.1 hj).1; omega
    rw [List.getElem?_range hlt] at hx
    cases hx
    exact hc
  · cases h

theorem fields_row {F : Nat → Prop} {ρ : Pls} {cs : List Value} {g : Field → List AV} : ∀ (fs : List Field) (o : Nat), offs P o fs = some cs.length → o ≤ cs.length →
    (∀ f ∈ fs, LR w.heap F ρ (g f) ((cs.drop f.offset).take (P.cellsOf f.type))) → LR w.heap F ρ (fs.flatMap g) (cs.drop o) ∧ ∀ f ∈ fs, o ≤ f.offset ∧ ((fs.flatMap g).drop (f.offset - o)).take (P.cellsOf f.type) = g f
  | [], o, h, _, _ => by
    simp only [offs, Option.some.injEq] at h
    subst h
    simp only [List.flatMap_nil, List.drop_length]
    exact ⟨LR.nil, fun f hf => by cases hf⟩
  | f :: fs, o, h, ho, hg => by
    unfold offs at h
    split at h
    · rename_i hf
      subst hf
      have hle : ∀ (fs : List Field) (o n : Nat), offs P o fs = some n → o ≤ n := by
        intro fs
        induction fs with
        | nil => intro o n h; simp only [offs, Option.some.injEq] at h; omega
        | cons f fs ih =>
          intro o n h
          unfold offs at h
          split at h
          · have := ih _ _ h; omega
          · cases h
      have h1 := hle fs _ _ h
      obtain ⟨k1, k2⟩ := fields_row fs _ h h1 (fun f hf => hg f (by simp [hf]))
      have g1 := hg f (by simp)
      have gl : (g f).length = P.cellsOf f.type := by rw [← g1.1]; simp; omega
      refine ⟨?_, fun f' hf' => ?_⟩
      · rw [List.flatMap_cons]
        have : cs.drop f.offset = (cs.drop f.offset).take (P.cellsOf f.type) ++ cs.drop (f.offset + P.cellsOf f.type) := by
          rw [← List.drop_drop]; exact (List.take_append_drop _ _).symm
        rw [this]
        exact g1.append k1
      · rw [List.flatMap_cons]
        have own : ((g f ++ fs.flatMap g).drop (f.offset - f.offset)).take (P.cellsOf f.type) = g f := by
          rw [Nat.sub_self, List.drop_zero, List.take_append_of_le_length (by omega), List.take_of_length_le (by omega)]
        rcases List.mem_cons.1 hf' with rfl | hf'
        · exact ⟨Nat.le_refl _, own⟩
        · obtain ⟨k3, k4⟩ := k2 f' hf'
          refine ⟨by omega, ?_⟩
          rw [show f'.offset - f.offset = (g f).length + (f'.offset - (f.offset + P.cellsOf f.type)) by omega, ← List.drop_drop, List.drop_left]
          exact k4
    · cases h

theorem open_ty {base : Nat} {spare : Nat → Bool} {held : Bool} : ∀ (n : Nat) (t : TypeId) (cs : List Value) (m : Nat) (x : DataW H × List MemPlace), supp P n t = true → DataW.trod enc P w base spare held m t cs = some x →
    ∃ avs, LR w.heap (fun _ => False) (fun _ => none) avs cs ∧ TyOk P n t avs ∧ (∀ v ∈ avs, okc v = true)
  | 0, _, _, _, _, h, _ => by cases h
  | n + 1, t, cs, m, x, hs, h => by
    cases m with
    | zero => cases h
    | succ m =>
      unfold supp at hs
      unfold DataW.trod at h
      cases hu : P.underlying t with
      | none => rw [hu] at hs; cases hs
      | some d =>
        rw [hu] at hs h
        cases d <;> simp only at hs <;> try (cases hs; done)
        case bool =>
          simp only at h
          split at h
          all_goals first
            | (rename_i heq _; cases heq; done)
            | (rename_i heq; cases heq; done)
            | (cases h; done)
            | skip
          rename_i b _
          exact ⟨[boolV b], LR.cons (.val _ _ rfl) LR.nil, by simp only [TyOk, hu]; exact ⟨b, rfl⟩, by intro v hv; simp at hv; subst hv; rfl⟩
        case int k =>
          simp only at h
          split at h
          all_goals first
            | (rename_i heq _; cases heq; done)
            | (rename_i heq; cases heq; done)
            | (cases h; done)
            | skip
          rename_i kp k' i heq
          have hkk : kp = k := by cases heq; rfl
          split at h
          · rename_i hw
            obtain ⟨hk, hw⟩ := hw
            rw [hkk] at hk hw
            rw [hk]
            have hwf : k.min ≤ i ∧ i ≤ k.max := by simpa [Lit.wf] using hw
            exact ⟨[intV k i], LR.cons (.val _ _ rfl) LR.nil, by simp only [TyOk, hu]; exact ⟨i, rfl, hwf⟩, by intro v hv; simp at hv; subst hv; rfl⟩
          · cases h
        case string =>
          simp only at h
          split at h
          all_goals first
            | (rename_i heq _; cases heq; done)
            | (rename_i heq; cases heq; done)
            | (cases h; done)
            | skip
          rename_i s heq
          split at h
          · rename_i hw
            exact ⟨[.val (.string s)], LR.cons (.val _ _ rfl) LR.nil, by simp only [TyOk, hu]; exact ⟨s, rfl, hw⟩, by intro v hv; simp at hv; subst hv; rfl⟩
          · cases h
        case slice e =>
          simp only at h
          split at h
          all_goals first
            | (rename_i heq _; cases heq; done)
            | (rename_i heq; cases heq; done)
            | (cases h; done)
            | skip
          · exact ⟨[.ro true []], LR.cons (lit_sound (.slice none 0 0)) LR.nil, by simp only [TyOk, hu]; exact ⟨true, [], rfl, fun _ => rfl, by simp [maxLen], fun r hr => by cases hr⟩, by intro v hv; simp at hv; subst hv; rfl⟩
          · rename_i e1 a len cap heq
            cases heq
            split at h
            · rename_i hb
              obtain ⟨hb1, hb2, hb3⟩ := hb
              replace h := Option.bind_eq_some_iff.mp h; obtain ⟨elems, hel, h⟩ := h
              obtain ⟨hl1, hl2⟩ := mapM_some hel
              simp only [List.length_range] at hl1
              have each : ∀ i, ∃ avs : List AV, i < len → (∃ cells, (∀ (j : Nat) v, cells[j]? = some v → w.cell? (a.add (i * P.cellsOf e + j)) = some v) ∧ cells.length = P.cellsOf e ∧ LR w.heap (fun _ => False) (fun _ => none) avs cells) ∧ TyOk P n e avs ∧ (∀ v ∈ avs, okc v = true) := by
                intro i
                by_cases hi : i < len
                · obtain ⟨y, hy, hf⟩ := hl2 i _ (List.getElem?_eq_getElem (by omega))
                  rw [List.getElem?_range hi] at hy
                  cases hy
                  replace hf := Option.bind_eq_some_iff.mp hf; obtain ⟨cells, hc, hf⟩ := hf
                  obtain ⟨c1, c2⟩ := cells?_get hc
                  obtain ⟨avs, k1, k2, k3⟩ := open_ty n e cells m _ hs hf
                  exact ⟨avs, fun _ => ⟨⟨cells, fun j v hj => by rw [← add_add]; exact c2 j v hj, c1, k1⟩, k2, k3⟩⟩
                · exact ⟨[], fun h => absurd h hi⟩
              obtain ⟨g, hg⟩ := Classical.skolem.mp each
              have at2g : ∀ {i j : Nat} {x : AV}, at2 ((List.range len).map g) i j = some x → i < len ∧ (g i)[j]? = some x := by
                intro i j x hx
                unfold at2 at hx
                rw [List.getElem?_map] at hx
                by_cases hi : i < len
                · rw [List.getElem?_range hi] at hx; exact ⟨hi, by simpa using hx⟩
                · rw [List.getElem?_eq_none (by simpa using hi)] at hx; simp at hx
              have lens : ∀ r ∈ (List.range len).map g, r.length = P.cellsOf e := by
                intro r hr
                obtain ⟨i, hi, rfl⟩ := List.mem_map.1 hr
                obtain ⟨⟨cells, _, c2, c3⟩, _, _⟩ := hg i (List.mem_range.1 hi)
                rw [← c3.1]; exact c2
              have key : ∀ i j x, at2 ((List.range len).map g) i j = some x → ∃ v, w.cell? (a.add (i * P.cellsOf e + j)) = some v ∧ v.oneCell' = true ∧ VR w.heap (fun _ => False) (fun _ => none) x v := by
                intro i j x hx
                obtain ⟨hi, hx⟩ := at2g hx
                obtain ⟨⟨cells, c1, c2, c3⟩, k2, k3⟩ := hg i hi
                obtain ⟨v, hv, hr⟩ := c3.2 j x hx
                exact ⟨v, c1 j v hv, hr.one (k3 x (List.mem_of_getElem? hx)), hr⟩
              refine ⟨[.ro false ((List.range len).map g)], LR.cons ?_ LR.nil, ?_, by intro v hv; simp at hv; subst hv; rfl⟩
              · have hlen : ((List.range len).map g).length = len := by simp
                have := VR.ro (H := w.heap) (F := fun _ => False) (fun _ => none) false ((List.range len).map g) (some a) cap (P.cellsOf e) (fun i j => (w.cell? (a.add (i * P.cellsOf e + j))).getD .nilFunc) (by omega) (by simp) (fun h => by cases h) lens
                  (fun i j x hx => by
                    obtain ⟨v, hv, h1, _⟩ := key i j x hx
                    exact ⟨a, rfl, fun h => h, by rw [← cell_eq, hv]; rfl, by rw [hv]; exact h1⟩)
                  (fun i j x hx => by
                    obtain ⟨v, hv, _, h2⟩ := key i j x hx
                    rw [hv]; exact h2)
                rw [hlen] at this
                exact this
              · simp only [TyOk, hu]
                refine ⟨false, _, rfl, fun h => (by cases h), by simp; omega, fun r hr => ⟨lens r hr, ?_⟩⟩
                obtain ⟨i, hi, rfl⟩ := List.mem_map.1 hr
                exact (hg i (List.mem_range.1 hi)).2.1
            · cases h
        case struct fs =>
          simp only [Bool.and_eq_true, List.all_eq_true, beq_iff_eq] at hs
          obtain ⟨hs1, hs2⟩ := hs
          simp only at h
          split at h
          · rename_i hcl
            obtain ⟨xs, hxs, h⟩ := Option.map_eq_some_iff.mp h
            obtain ⟨hl1, hl2⟩ := mapM_some hxs
            -- each field's cells
            have each : ∀ f : Field, ∃ avs : List AV, f ∈ fs.toList → LR w.heap (fun _ => False) (fun _ => none) avs ((cs.drop f.offset).take (P.cellsOf f.type)) ∧ TyOk P n f.type avs ∧ (∀ v ∈ avs, okc v = true) := by
              intro f
              by_cases hf : f ∈ fs.toList
              · obtain ⟨i, hi⟩ := List.getElem?_of_mem hf
                have hlt : i < xs.length := by have := (List.getElem?_eq_some_iff.1 hi).1; omega
                obtain ⟨f', hf', hr⟩ := hl2 i _ (List.getElem?_eq_getElem hlt)
                rw [hi] at hf'
                cases hf'
                obtain ⟨avs, k1, k2, k3⟩ := open_ty n f.type _ m _ (hs1 f hf) hr
                exact ⟨avs, fun _ => ⟨k1, k2, k3⟩⟩
              · exact ⟨[], fun h => absurd h hf⟩
            obtain ⟨g, hg⟩ := Classical.skolem.mp each
            obtain ⟨k1, k2⟩ := fields_row (P := P) (w := w) (cs := cs) (g := g) fs.toList 0 (by rw [hcl]; exact hs2) (Nat.zero_le _) (fun f hf => (hg f hf).1)
            rw [List.drop_zero] at k1
            refine ⟨_, k1, ?_, fun v hv => ?_⟩
            · simp only [TyOk, hu]
              refine ⟨by rw [← k1.1]; exact hcl, fun f hf => ?_⟩
              have := (k2 f hf).2
              rw [Nat.sub_zero] at this
              rw [this]
              exact (hg f hf).2.1
            · obtain ⟨f, hf, hv⟩ := List.mem_flatMap.1 hv
              exact (hg f hf).2.2 v hv
          · cases h

/-- The forms of an argument. -/
def TyArg (P : Program) (n : Nat) (t : TypeId) (x : AV) : Prop :=
  match P.underlying t with
  | some (.struct _) => ∃ avs, x = .agg avs ∧ TyOk P n t avs
  | _ => TyOk P n t [x]

theorem open_arg {base0 base : Nat} {r : Reach} {spare : Nat → Bool} {held : Bool} {n : Nat} {t : TypeId} {v : Value} {d : DataW H} {p : List MemPlace} (hs : supp P n t = true) (hv : Value.okWide P w r base0 t v) (h : DataW.Trod enc P w base spare held t v d p) :
    ∃ x, VR w.heap (fun _ => False) (fun _ => none) x v ∧ TyArg P n t x := by
  obtain ⟨fuel, h⟩ := h
  obtain ⟨avs, h1, h2, h3⟩ := open_ty n t _ fuel _ hs h
  unfold TyArg
  unfold Value.okWide at hv
  cases n with
  | zero => cases hs
  | succ n =>
    unfold supp at hs
    have single : (∀ cs, v ≠ .agg cs) → ∃ x, VR w.heap (fun _ => False) (fun _ => none) x v ∧ TyOk P (n + 1) t [x] := by
      intro hne
      have hc : v.cells.toList = [v] := by cases v <;> first | rfl | (exact absurd rfl (hne _))
      rw [hc] at h1
      cases avs with
      | nil => have := h1.1; simp at this
      | cons x r =>
        obtain ⟨v', r', e, hx, hr⟩ := h1.uncons
        cases e
        have : r = [] := by have := hr.1; simpa using this.symm
        subst this
        exact ⟨x, hx, h2⟩
    have notagg : (∀ fs, P.underlying t ≠ some (.struct fs)) → (∀ m e, P.underlying t ≠ some (.array m e)) → ∀ cs, v ≠ .agg cs := by
      intro g1 g2 cs e
      subst e
      cases hu : P.underlying t with
      | none => rw [hu] at hs; cases hs
      | some d =>
        rw [hu] at hv
        cases d <;> first
          | exact absurd hu (g1 _)
          | exact absurd hu (g2 _ _)
          | (simp only [Cell.okWide, hu, Cell.ok] at hv)
    cases hu : P.underlying t with
    | none => rw [hu] at hs; cases hs
    | some d =>
      rw [hu] at hs
      cases d <;> simp only at hs <;> try (cases hs; done)
      case struct fs =>
        rw [hu] at hv
        obtain ⟨cs, rfl, _⟩ := hv
        simp only
        have := h1.agg
        exact ⟨.agg avs, by simpa [Value.cells] using this, avs, rfl, h2⟩
      all_goals
        simp only
        exact single (notagg (by rw [hu]; intro fs e; cases e) (by rw [hu]; intro m e h; cases h))

end

/-- The functions of a table, and how they are called. -/
def mdT (tbl : List (Nat × CMode)) : Nat → Option CMode := fun f => tbl.lookup f

def fnChk (P : Program) (md : Nat → Option CMode) (f : Nat) : Bool :=
  match P.funcs[f]? with
  | some fn => (match fn.body with | some b => fn.name != "runtime.NumGoroutine" && okC md fn.ntmps b | none => false)
  | none => false

/-- The check of a table. -/
def tblChk (P : Program) (tbl : List (Nat × CMode)) : Bool := tbl.all fun p => match p.2 with
  | .rnd => true
  | .ext _ => true
  | .told _ => true
  | .idt => true
  | _ => fnChk P (mdT tbl) p.1

theorem lookup_mem2 {tbl : List (Nat × CMode)} {f : Nat} {m : CMode} (h : tbl.lookup f = some m) : (f, m) ∈ tbl := by
  induction tbl with
  | nil => cases h
  | cons p tbl ih =>
    obtain ⟨k, m'⟩ := p
    simp only [List.lookup] at h
    split at h
    · rename_i e
      cases h
      have := beq_iff_eq.1 e
      subst this
      simp
    · simp [ih h]

theorem fnsOk_of {P : Program} {tbl : List (Nat × CMode)} (h : tblChk P tbl = true) (hx : ∀ f g, mdT tbl f = some (.ext g) → ExtOk P f g) (hi : ∀ f, mdT tbl f = some .idt → ∀ (v : Value) (w : World), (callFunc f #[v]).run P w = .ok (.value v) w) (ht : ∀ f g, mdT tbl f = some (.told g) → ToldOk P f g) : FnsOk P (mdT tbl) := by
  intro f m hm
  have h0 := List.all_eq_true.1 h _ (lookup_mem2 hm)
  have key : fnChk P (mdT tbl) f = true → ∃ fn b, P.funcs[f]? = some fn ∧ fn.body = some b ∧ fn.name ≠ "runtime.NumGoroutine" ∧ okC (mdT tbl) fn.ntmps b = true := by
    intro this
    unfold fnChk at this
    split at this
    · rename_i fn hfn
      split at this
      · rename_i b hb
        simp only [Bool.and_eq_true, bne_iff_ne, ne_eq] at this
        exact ⟨fn, b, hfn, hb, this.1, this.2⟩
      · cases this
    · cases this
  cases m with
  | rnd => trivial
  | ext g => exact hx f g hm
  | told g => exact ht f g hm
  | idt => exact hi f hm
  | pure => exact key h0
  | own => exact key h0
  | heap => exact key h0

end Go.Proofs.YtgbdbenepnbajaaGreatDoor.AM
