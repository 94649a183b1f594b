/- What an operation looks at. -/
import Derived.Test.YtgbdbenepnbajaaGreatDoorAmSeq
namespace Go.Proofs.YtgbdbenepnbajaaGreatDoor.AM
open Go Go.RowKit
set_option linter.unusedVariables false
set_option linter.unusedSimpArgs false

section
variable {P : Program} {md : Nat → Option CMode} {orc : Orc}

theorem ev_congr {t t' : Nat → AV} {x : Operand} (h : ∀ r, x = .tmp r → t r = t' r) : evA t x = evA t' x := by
  cases x with
  | tmp r => exact h r rfl
  | _ => rfl

theorem opA_congr {t t' : Nat → AV} (h : Heap) (c : Nat) (o : Op) (H : ∀ x ∈ o.operands.toList, evA t x = evA t' x) : opA P md orc t h c o = opA P md orc t' h c o := by
  have maps : ∀ {l : List Operand}, (∀ x ∈ l, evA t x = evA t' x) → l.map (evA t) = l.map (evA t') := fun hl => List.map_congr_left hl
  have parts : ∀ {l : List (Nat × Operand)}, (∀ p ∈ l, evA t p.2 = evA t' p.2) → (l.map fun p => (p.1, evA t p.2)) = l.map fun p => (p.1, evA t' p.2) := fun hl => List.map_congr_left fun p hp => by rw [hl p hp]
  cases o <;> simp only [Op.operands, Call.operands] at H
  case build ty ps => unfold opA; simp only; rw [parts (fun p hp => H p.2 (by simp only [List.mem_map]; exact ⟨p, hp, rfl⟩))]
  case buildSlice ty n ps => unfold opA; simp only; rw [parts (fun p hp => H p.2 (by simp only [List.mem_map]; exact ⟨p, hp, rfl⟩))]
  case makeFunc fn first caps =>
    unfold opA
    cases fn with
    | func f =>
      simp only; rw [maps (fun x hx => H x (by simp only [Array.toList_append, List.mem_append]; exact .inr hx))]
      rcases hft : first.toList with _ | ⟨b, _ | ⟨b2, r⟩⟩
      · rfl
      · simp only; rw [H b (by simp only [Array.toList_append, List.mem_append]; exact .inl (by rw [hft]; simp))]
      · rfl
    | _ => rfl
  case slice ty x lo hi mx =>
    have h1 := H x (by simp)
    have h2 : lo.map (evA t) = lo.map (evA t') := by cases lo with | none => rfl | some y => simp [H y (by simp)]
    have h3 : hi.map (evA t) = hi.map (evA t') := by cases hi with | none => rfl | some y => simp [H y (by simp)]
    have h4 : mx.map (evA t) = mx.map (evA t') := by cases mx with | none => rfl | some y => simp [H y (by simp)]
    unfold opA; simp only; rw [h1, h2, h3, h4]
  case call cl =>
    obtain ⟨callee, args, argTypes⟩ := cl
    have ha : args.toList.map (evA t) = args.toList.map (evA t') := maps (fun x hx => H x (by simp only [Array.toList_append, List.mem_append]; exact .inr hx))
    cases callee with
    | builtin b => unfold opA; simp only; rw [ha]
    | value f => unfold opA; simp only; rw [ha, H f (by simp)]
    | invoke r m => rfl
  case move x => unfold opA; simp only; rw [H x (by simp)]
  case assign x => unfold opA; simp only; rw [H x (by simp)]
  case pick x y z => unfold opA; simp only; rw [H x (by simp), H y (by simp), H z (by simp)]
  case box e x => unfold opA; simp only; rw [H x (by simp)]
  case load e x => unfold opA; simp only; rw [H x (by simp)]
  case store e x y => unfold opA; simp only; rw [H x (by simp), H y (by simp)]
  case nilCheck x => unfold opA; simp only; rw [H x (by simp)]
  case binOp op xt x y yt => unfold opA; simp only; rw [H x (by simp), H y (by simp)]
  case unOp op xt x => unfold opA; simp only; rw [H x (by simp)]
  case fieldAddr s x f => unfold opA; simp only; rw [H x (by simp)]
  case field s x f => unfold opA; simp only; rw [H x (by simp)]
  case indexAddr s x i => unfold opA; simp only; rw [H x (by simp), H i (by simp)]
  case index s x i => unfold opA; simp only; rw [H x (by simp), H i (by simp)]
  case extract x i => unfold opA; simp only; rw [H x (by simp)]
  case makeSlice s x y => unfold opA; simp only; rw [H x (by simp), H y (by simp)]
  case convert src dst x => unfold opA; simp only; rw [H x (by simp)]
  case makeInterface s x => unfold opA; simp only; rw [H x (by simp)]
  case typeAssert x xt s ok => cases ok <;> first | rfl | (unfold opA; simp only; rw [H x (by simp)])
  case panic x => unfold opA; simp only; rw [H x (by simp)]
  case makeMap s r => cases r <;> (unfold opA; rfl)
  case mapUpdate s m k x => unfold opA; simp only; rw [H m (by simp), H k (by simp), H x (by simp)]
  case insert s m k x => unfold opA; simp only; rw [H m (by simp), H k (by simp), H x (by simp)]
  case lookup s m k cm => cases cm <;> (unfold opA; simp only; rw [H m (by simp), H k (by simp)])
  all_goals rfl

theorem looks_congr {ops : Array Oper} {o : Oper} {t t' : Nat → AV} (H : ∀ r ∈ o.looksAt ops, t r = t' r) : (∀ (h : Heap) (c : Nat), opA P md orc t h c o.op = opA P md orc t' h c o.op) ∧ wantA ops t o = wantA ops t' o := by
  refine ⟨fun h c => opA_congr h c o.op fun x hx => ev_congr fun r hr => H r ?_, ?_⟩
  · unfold Oper.looksAt
    refine List.mem_append.2 (.inl (List.mem_filterMap.2 ⟨x, hx, ?_⟩))
    rw [hr]
  · unfold wantA
    cases hg : o.guard with
    | none => rfl
    | some g =>
      obtain ⟨j, want⟩ := g
      simp only
      congr 1
      unfold yldA
      cases hd : (ops[j]?).bind (·.dst) with
      | none => rfl
      | some d =>
        simp only
        rw [H d (by unfold Oper.looksAt; rw [hg]; simp [hd])]

/-! ### more memory -/
def HLe (h h' : Heap) : Prop := ∀ l b, h l = some b → h' l = some b

theorem ld_mono {h h' : Heap} (hl : HLe h h') {n : Nat} {x : AV} {r : List AV} (e : ld h n x = some r) : ld h' n x = some r := by
  unfold ld at e ⊢
  cases x <;> simp only at e ⊢
  case ptr l i f =>
    replace e := Option.bind_eq_some_iff.mp e; obtain ⟨b, hb, e⟩ := e
    rw [hl l b hb]
    exact e
  all_goals exact e

theorem els_mono {h h' : Heap} (hl : HLe h h') {x : AV} {r : List (List AV)} (e : els h x = some r) : els h' x = some r := by
  unfold els at e ⊢
  cases x <;> simp only at e ⊢
  case sl l sz off len =>
    replace e := Option.bind_eq_some_iff.mp e; obtain ⟨b, hb, e⟩ := e
    rw [hl l b hb]
    exact e
  all_goals exact e

theorem mapM_imp {α β : Type} {f g : α → Option β} (h : ∀ x y, f x = some y → g x = some y) : ∀ {l : List α} {r : List β}, l.mapM f = some r → l.mapM g = some r
  | [], r, e => by simpa using e
  | x :: l, r, e => by
    simp only [List.mapM_cons, Option.bind_eq_bind, Option.pure_def] at e ⊢
    replace e := Option.bind_eq_some_iff.mp e; obtain ⟨y, h1, e⟩ := e
    replace e := Option.bind_eq_some_iff.mp e; obtain ⟨r', h2, e⟩ := e
    rw [h x y h1, mapM_imp h h2]
    exact e

theorem frz_mono {h h' : Heap} (hl : HLe h h') : ∀ (n : Nat) (x y : AV), frz h n x = some y → frz h' n x = some y
  | 0, _, _, e => by cases e
  | n + 1, x, y, e => by
    unfold frz at e ⊢
    cases x <;> (try simp only at e ⊢)
    case val => exact e
    case ifc => exact e
    case ro => exact e
    case emp => exact e
    case fn f cs => (cases cs with | nil => exact e | cons => exact e)
    case sl l sz off len =>
      replace e := Option.bind_eq_some_iff.mp e; obtain ⟨es, h1, e⟩ := e
      rw [els_mono hl h1]
      obtain ⟨r, h2, e⟩ := Option.map_eq_some_iff.mp e
      simp only [Option.bind_some]
      rw [mapM_imp (fun a b hab => mapM_imp (fun x y hxy => frz_mono hl n x y hxy) hab) h2]
      exact congrArg some e
    case agg cs =>
      obtain ⟨r, h2, e⟩ := Option.map_eq_some_iff.mp e
      rw [mapM_imp (fun x y hxy => frz_mono hl n x y hxy) h2]
      exact congrArg some e
    case tup cs =>
      obtain ⟨r, h2, e⟩ := Option.map_eq_some_iff.mp e
      rw [mapM_imp (fun x y hxy => frz_mono hl n x y hxy) h2]
      exact congrArg some e
    all_goals cases e

theorem conv_mono {P : Program} {src dst : TypeId} {h h' : Heap} (hl : HLe h h') {x v : AV} (h2 : convA P src dst h x = some v) : convA P src dst h' x = some v := by
  unfold convA at h2 ⊢
  split at h2
  · exact h2
  · split at h2
    · rename_i hf
      rw [if_pos hf]
      obtain ⟨b, hb, h2⟩ := Option.bind_eq_some_iff.mp h2
      rw [hl _ b hb]
      exact h2
    · cases h2
  · replace h2 := Option.bind_eq_some_iff.mp h2; obtain ⟨el, g1, h2⟩ := h2
    rw [g1, Option.bind_some]
    split at h2
    · rename_i g2
      split at h2
      · rename_i g3
        rw [if_pos g3]
        replace h2 := Option.bind_eq_some_iff.mp h2; obtain ⟨es, g4, h2⟩ := h2
        rw [els_mono hl g4, Option.bind_some]
        exact h2
      · cases h2
    · cases h2

theorem builtin0 {b : Builtin} (hb : b = .len ∨ b = .max ∨ b = .min ∨ b = .unsafeSliceData) {ts : List TypeId} {h h1 : Heap} {c c1 : Nat} {as : List AV} {v : AV} (e : builtinA P b ts h c as = some (v, h1, c1)) :
    h1 = h ∧ c1 = c ∧ ∀ h', builtinA P b ts h' c as = some (v, h', c) := by
  rcases hb with rfl | rfl | rfl | rfl
  · cases ts with
    | nil => cases e
    | cons t ts =>
      cases as with
      | nil => cases e
      | cons x xs =>
        simp only [builtinA] at e ⊢
        split at e
        · split at e
          · rename_i ht; cases e; exact ⟨rfl, rfl, fun _ => by rw [if_pos ht]⟩
          · cases e
        · rename_i x hx
          split at e
          · rename_i ht
            obtain ⟨n, hn, e⟩ := Option.map_eq_some_iff.mp e
            cases e
            refine ⟨rfl, rfl, fun _ => ?_⟩
            rw [if_pos ht, hn]; rfl
          · cases e
  · cases as with
    | nil => cases ts <;> cases e
    | cons x xs =>
      simp only [builtinA] at e ⊢
      obtain ⟨y, hy, e⟩ := Option.map_eq_some_iff.mp e
      cases e
      exact ⟨rfl, rfl, fun _ => by rw [hy]; rfl⟩
  · cases as with
    | nil => cases ts <;> cases e
    | cons x xs =>
      simp only [builtinA] at e ⊢
      obtain ⟨y, hy, e⟩ := Option.map_eq_some_iff.mp e
      cases e
      exact ⟨rfl, rfl, fun _ => by rw [hy]; rfl⟩

  · unfold builtinA at e ⊢
    cases as with
    | nil => simp at e
    | cons x xs =>
      cases xs with
      | cons => simp at e
      | nil =>
        cases x with
        | sl l sz off n =>
          simp only at e ⊢
          split at e
          · rename_i hn
            cases e
            exact ⟨rfl, rfl, fun _ => by rw [if_pos hn]⟩
          · cases e
        | ro b es =>
          cases b <;> cases es <;> first | (cases e; exact ⟨rfl, rfl, fun _ => rfl⟩) | cases e
        | _ => simp at e

/-- Kind 0: no memory is looked at. -/
theorem kind0 {ops : Array Oper} {t : Nat → AV} {h : Heap} {c : Nat} {o : Op} {v : AV} {h1 : Heap} {c1 : Nat} (hk : kindA md ops o = 0) (e : opA P md orc t h c o = some (v, h1, c1)) :
    h1 = h ∧ c1 = c ∧ ∀ h', opA P md orc t h' c o = some (v, h', c) := by
  have simple : ∀ {r : Option AV}, r.map (fun v => (v, h, c)) = some (v, h1, c1) → h1 = h ∧ c1 = c ∧ ∀ h' : Heap, r.map (fun v => (v, h', c)) = some (v, h', c) := by
    intro r hr
    obtain ⟨y, hy, hr⟩ := Option.map_eq_some_iff.mp hr
    cases hr
    exact ⟨rfl, rfl, fun h' => by rw [hy]; rfl⟩
  unfold opA at e ⊢
  cases o <;> simp only [kindA] at hk <;> simp only at e ⊢
  case move => cases e; exact ⟨rfl, rfl, fun _ => rfl⟩
  case assign => cases e; exact ⟨rfl, rfl, fun _ => rfl⟩
  case pick => exact simple e
  case build =>
    split at e
    · cases e
    · rename_i hb
      replace e := Option.bind_eq_some_iff.mp e; obtain ⟨z, hz, e⟩ := e
      obtain ⟨y, hy, e⟩ := Option.map_eq_some_iff.mp e
      cases e
      refine ⟨rfl, rfl, fun h' => ?_⟩
      rw [if_neg hb, hz]
      simp only [Option.bind_some]
      rw [hy]; rfl
  case nilCheck x =>
    split at e <;> first | (cases e; done) | (cases e; exact ⟨rfl, rfl, fun _ => by simp_all⟩)
  case binOp => exact simple e
  case unOp => exact simple e
  case fieldAddr => exact simple e
  case field => exact simple e
  case indexAddr => exact simple e
  case index => exact simple e
  case slice => exact simple e
  case extract x i =>
    split at e
    · exact simple e
    · cases e
  case makeFunc fn first caps =>
    cases fn with
    | func f =>
      simp only at e ⊢
      split at e
      · cases e; exact ⟨rfl, rfl, fun _ => rfl⟩
      · cases e; exact ⟨rfl, rfl, fun _ => rfl⟩
      · cases e
    | _ => cases e
  case call cl =>
    obtain ⟨callee, args, argTypes⟩ := cl
    cases callee with
    | builtin b =>
      simp only at hk e ⊢
      refine builtin0 ?_ e
      cases b <;> simp only at hk <;> first | (cases hk; done) | exact .inl rfl | exact .inr (.inl rfl) | exact .inr (.inr (.inl rfl)) | exact .inr (.inr (.inr rfl)) | skip
      split at hk
      · split at hk <;> cases hk
      · cases hk
    | value f => 
      cases f <;> simp only at hk <;> try (cases hk; done)
      rename_i g
      split at hk <;> cases hk
    | invoke r m => cases e
  case store => exfalso; revert hk; split <;> (try split) <;> simp
  all_goals first | (cases hk; done) | cases e

theorem lay_same (h1 h : Heap) (c : Nat) : h1.lay c c h = h := by
  funext l; unfold Heap.lay; rw [if_neg (by omega)]

theorem lay_put (h0 h : Heap) (c : Nat) (b : Option Blk) : (h0.put c b).lay c (c + 1) h = h.put c b := by
  funext l
  unfold Heap.lay Heap.put
  by_cases e : l = c
  · subst e; simp
  · rw [if_neg (by omega), if_neg e]

theorem lay_over (k h0 h : Heap) (c c1 : Nat) : ((k.cut c c1).over h0).lay c c1 h = (k.cut c c1).over h ∨ ∃ l, c ≤ l ∧ l < c1 ∧ k l = none := by
  by_cases hx : ∃ l, c ≤ l ∧ l < c1 ∧ k l = none
  · exact .inr hx
  · refine .inl ?_
    funext l
    unfold Heap.lay Heap.over Heap.cut
    by_cases e : c ≤ l ∧ l < c1
    · simp only [if_pos e]
      cases hk : k l with
      | none => exact absurd ⟨l, e.1, e.2, hk⟩ hx
      | some b => simp
    · simp [if_neg e]

theorem src_mono {h h' : Heap} (hl : HLe h h') {x : AV} {r : List (List AV)} (e : srcA h x = some r) : srcA h' x = some r := by
  unfold srcA at e ⊢
  split at e
  · exact e
  · exact els_mono hl e

theorem append12 {t : TypeId} {h h' h1 : Heap} {c c1 : Nat} {s x v : AV} (hs : s = .emp ∨ s = .ro true []) (hl : HLe h h') (e : appendA P t h c s x = some (v, h1, c1)) : appendA P t h' c s x = some (v, h1.lay c c1 h', c1) := by
  unfold appendA at e ⊢
  replace e := Option.bind_eq_some_iff.mp e; obtain ⟨el, h2, e⟩ := e
  replace e := Option.bind_eq_some_iff.mp e; obtain ⟨sz, h3, e⟩ := e
  replace e := Option.bind_eq_some_iff.mp e; obtain ⟨by_, h4, e⟩ := e
  replace e := Option.bind_eq_some_iff.mp e; obtain ⟨z, h5, e⟩ := e
  replace e := Option.bind_eq_some_iff.mp e; obtain ⟨xs, h6, e⟩ := e
  simp only [h2, h3, h4, h5, src_mono hl h6, Option.bind_some]
  split at e
  · rename_i h7
    rw [if_pos h7]
    split at e
    · rename_i h8
      rw [if_pos h8]
      rcases hs with rfl | rfl <;> (cases e; rw [lay_same])
    · rename_i h8
      rw [if_neg h8]
      rcases hs with rfl | rfl
      · simp only at e ⊢
        split at e
        · rename_i h9; cases e; rw [if_pos h9, lay_put]
        · cases e
      · simp only at e ⊢
        split at e
        · rename_i h9; cases e; rw [if_pos h9, lay_put]
        · cases e
  · cases e

/-- Kinds 1 and 2: more memory, the same answer. -/
theorem kind12 {ops : Array Oper} {t : Nat → AV} {h h' : Heap} {c : Nat} {o : Op} {v : AV} {h1 : Heap} {c1 : Nat} (hk : kindA md ops o = 1 ∨ kindA md ops o = 2) (hfr : freshA t o = true) (hl : HLe h h') (hn : ∀ l, c ≤ l → l < c1 → h l = none ∧ h' l = none)
    (e : opA P md orc t h c o = some (v, h1, c1)) : opA P md orc t h' c o = some (v, h1.lay c c1 h', c1) ∧ (kindA md ops o = 1 → c1 = c) := by
  unfold opA at e ⊢
  cases o <;> simp only [kindA] at hk ⊢ <;> simp only at e ⊢
  case load =>
    replace e := Option.bind_eq_some_iff.mp e; obtain ⟨n, h2, e⟩ := e
    replace e := Option.bind_eq_some_iff.mp e; obtain ⟨ag, h3, e⟩ := e
    split at e
    · cases e
    · rename_i h4
      obtain ⟨cs, h5, e⟩ := Option.map_eq_some_iff.mp e
      cases e
      simp only [h2, h3, Option.bind_some]
      rw [if_neg h4, ld_mono hl h5, lay_same]
      exact ⟨by first | rfl | trivial, fun _ => by first | rfl | trivial⟩
  case alloc ty =>
    unfold allocA at e ⊢
    split at e
    · rename_i n el har
      replace e := Option.bind_eq_some_iff.mp e; obtain ⟨sz, h2, e⟩ := e
      replace e := Option.bind_eq_some_iff.mp e; obtain ⟨z, h3, e⟩ := e
      split at e
      · rename_i h4
        cases e
        simp only [h2, h3, Option.bind_some, if_pos h4, lay_put]
        exact ⟨by first | rfl | trivial, fun h => by cases h⟩
      · cases e
    · replace e := Option.bind_eq_some_iff.mp e; obtain ⟨z, h3, e⟩ := e
      cases e
      simp only [h3, Option.bind_some, lay_put]
      exact ⟨by first | rfl | trivial, fun h => by cases h⟩
  case box ty x =>
    split at e
    · rename_i h2
      cases e
      rw [if_pos h2, lay_put]
      exact ⟨by first | rfl | trivial, fun h => by cases h⟩
    · cases e
  case buildSlice ty n ps =>
    replace e := Option.bind_eq_some_iff.mp e; obtain ⟨el, h2, e⟩ := e
    replace e := Option.bind_eq_some_iff.mp e; obtain ⟨sz, h3, e⟩ := e
    replace e := Option.bind_eq_some_iff.mp e; obtain ⟨z, h4, e⟩ := e
    simp only [h2, h3, h4, Option.bind_some]
    split at e
    · rename_i h5
      rw [if_pos h5]
      split at e
      · rename_i h6
        cases e
        rw [if_pos h6, lay_same]
        exact ⟨by first | rfl | trivial, fun h => by cases h⟩
      · cases e
    · rename_i h5
      rw [if_neg h5]
      split at e
      · rename_i h6
        obtain ⟨es, h7, e⟩ := Option.bind_eq_some_iff.mp e
        rw [if_pos h6, h7]
        simp only [Option.bind_some]
        cases hro : roSl ty
        · rw [hro] at e
          cases e
          simp only [cond_false]
          rw [lay_put]
          exact ⟨by first | rfl | trivial, fun h => by cases h⟩
        · rw [hro] at e
          simp only [cond_true] at e ⊢
          split at e
          · rename_i hfl
            cases e
            rw [if_pos hfl, lay_same]
            exact ⟨by first | rfl | trivial, fun h => by cases h⟩
          · cases e
      · cases e
  case makeSlice ty n m =>
    unfold makeA at e ⊢
    split at e
    · replace e := Option.bind_eq_some_iff.mp e; obtain ⟨el, h2, e⟩ := e
      replace e := Option.bind_eq_some_iff.mp e; obtain ⟨sz, h3, e⟩ := e
      replace e := Option.bind_eq_some_iff.mp e; obtain ⟨by_, h4, e⟩ := e
      replace e := Option.bind_eq_some_iff.mp e; obtain ⟨z, h5, e⟩ := e
      split at e
      · rename_i h6
        cases e
        simp only [h2, h3, h4, h5, Option.bind_some, if_pos h6, lay_put]
        exact ⟨by first | rfl | trivial, fun h => by cases h⟩
      · cases e
    · cases e
  case call cl =>
    obtain ⟨callee, args, argTypes⟩ := cl
    cases callee with
    | builtin b =>
      simp only at hk e ⊢
      cases b <;> simp only at hk <;> try (exfalso; rcases hk with hk | hk <;> cases hk; done)
      have hne : ∀ {n : Nat}, (match args.toList with | .tmp t :: _ => if empT ops t = true then 2 else 3 | _ => 3) = n → n ≠ 1 := by
        intro n h2
        split at h2
        · split at h2 <;> omega
        · omega
      refine ⟨?_, fun h => absurd rfl (hne h)⟩
      unfold freshA at hfr
      simp only at hfr
      match hts : argTypes.toList, hargs : args.toList with
      | [ty, ty'], [x, y] =>
        rw [hts, hargs] at e
        rw [hargs] at hfr
        simp only [List.map_cons, List.map_nil, builtinA] at hfr e ⊢
        split at e
        · rename_i h2
          rw [if_pos h2]
          refine append12 ?_ hl e
          split at hfr
          · rename_i h3; exact .inl h3
          · rename_i h3; exact .inr h3
          · cases hfr
        · cases e
      | [], _ => rw [hts] at e; simp [builtinA] at e
      | [_], _ => rw [hts] at e; simp [builtinA] at e
      | _ :: _ :: _ :: _, _ => rw [hts] at e; simp [builtinA] at e
      | [_, _], [] => rw [hts, hargs] at e; simp [builtinA] at e
      | [_, _], [_] => rw [hts, hargs] at e; simp [builtinA] at e
      | [_, _], _ :: _ :: _ :: _ => rw [hts, hargs] at e; simp [builtinA] at e
    | value f =>
      simp only at hk e ⊢
      cases f <;> simp only at hk <;> try (exfalso; rcases hk with hk | hk <;> cases hk; done)
      rename_i g
      simp only [evA, List.append_nil] at e ⊢
      unfold callA at e ⊢
      cases hm : md g with
      | none => rw [hm] at e; cases e
      | some m =>
        rw [hm] at e hk
        cases m with
        | heap => exfalso; rcases hk with hk | hk <;> cases hk
        | rnd => cases e
        | idt => exfalso; rcases hk with hk | hk <;> cases hk
        | told g => exfalso; rcases hk with hk | hk <;> cases hk
        | ext g =>
          simp only at e ⊢
          replace e := Option.bind_eq_some_iff.mp e; obtain ⟨as, h2, e⟩ := e
          replace e := Option.bind_eq_some_iff.mp e; obtain ⟨r1, h3, e⟩ := e
          split at e
          · rename_i h5
            cases e
            rw [mapM_imp (fun x y hxy => frz_mono hl depth x y hxy) h2]
            simp only [Option.bind_some, h3, if_pos h5, lay_same]
            exact ⟨by first | rfl | trivial, fun _ => by first | rfl | trivial⟩
          · cases e
        | own =>
          simp only at e ⊢
          refine ⟨?_, fun h => by cases h⟩
          obtain ⟨⟨r1, k, c2⟩, h2, e⟩ := Option.bind_eq_some_iff.mp e
          simp only at e
          have hp : r1.isPan = false := by
            cases hp : r1.isPan
            · rfl
            · rw [hp] at e; simp at e
          rw [hp] at e
          simp only [Bool.false_eq_true, if_false, Option.some.injEq] at e
          obtain ⟨rfl, rfl, rfl⟩ : r1 = v ∧ (k.cut c c2).over h = h1 ∧ c2 = c1 := by cases e; exact ⟨rfl, rfl, rfl⟩
          rw [h2]
          simp only [Option.bind_some, hp, Bool.false_eq_true, if_false]
          congr 3
          funext l
          unfold Heap.lay Heap.over Heap.cut
          by_cases hl' : c ≤ l ∧ l < c2
          · simp only [if_pos hl']
            rw [(hn l hl'.1 hl'.2).1, (hn l hl'.1 hl'.2).2]
          · simp [if_neg hl']
        | pure =>
          simp only at e ⊢
          replace e := Option.bind_eq_some_iff.mp e; obtain ⟨as, h2, e⟩ := e
          replace e := Option.bind_eq_some_iff.mp e; obtain ⟨⟨r1, k, c2⟩, h3, e⟩ := e
          simp only at e
          replace e := Option.bind_eq_some_iff.mp e; obtain ⟨r', h4, e⟩ := e
          split at e
          · rename_i h5
            cases e
            rw [mapM_imp (fun x y hxy => frz_mono hl depth x y hxy) h2]
            simp only [Option.bind_some, h3, h4, if_pos h5, lay_same]
            exact ⟨by first | rfl | trivial, fun _ => by first | rfl | trivial⟩
          · cases e
    | invoke r m => cases e
  case store => exfalso; revert hk; split <;> (try split) <;> simp
  case convert src dst x =>
    obtain ⟨y, h2, e⟩ := Option.map_eq_some_iff.mp e
    cases e
    have h3 : convA P src dst h' (evA t x) = some v := by
      exact conv_mono hl h2
    rw [h3]
    simp only [Option.map_some, lay_same]
    exact ⟨by first | rfl | trivial, fun _ => by first | rfl | trivial⟩
  case lookup s m k cm =>
    cases cm with
    | true =>
      simp only at e ⊢
      split at e
      · obtain ⟨el, h1, e⟩ := Option.bind_eq_some_iff.mp e
        obtain ⟨z, h2, e⟩ := Option.bind_eq_some_iff.mp e
        obtain ⟨es, h3, e⟩ := Option.bind_eq_some_iff.mp e
        obtain ⟨q, h4, e⟩ := Option.map_eq_some_iff.mp e
        cases e
        obtain ⟨zz, ty, h5⟩ := mpOf_some h3
        rw [hl _ _ h5, ← h5]
        simp only [h1, h2, h3, h4, Option.bind_some, Option.map_some, lay_same]
        exact ⟨by first | rfl | trivial, fun _ => by first | rfl | trivial⟩
      · cases e
    | false =>
      simp only at e ⊢
      split at e
      · obtain ⟨el, h1, e⟩ := Option.bind_eq_some_iff.mp e
        obtain ⟨z, h2, e⟩ := Option.bind_eq_some_iff.mp e
        obtain ⟨es, h3, e⟩ := Option.bind_eq_some_iff.mp e
        obtain ⟨q, h4, e⟩ := Option.map_eq_some_iff.mp e
        cases e
        obtain ⟨zz, ty, h5⟩ := mpOf_some h3
        rw [hl _ _ h5, ← h5]
        simp only [h1, h2, h3, h4, Option.bind_some, Option.map_some, lay_same]
        exact ⟨by first | rfl | trivial, fun _ => by first | rfl | trivial⟩
      · cases e
  all_goals first | (exfalso; rcases hk with hk | hk <;> cases hk; done) | cases e

end
end Go.Proofs.YtgbdbenepnbajaaGreatDoor.AM
