/- The interpreter without a bound on its rounds: 'run' and 'exL', and the equations that they meet. -/
import Derived.Test.YtgbdbenepnbajaaGreatDoorAmDefs
namespace Go.Proofs.YtgbdbenepnbajaaGreatDoor.AM
open Go
set_option linter.unusedVariables false

/-- What the first tells, the second tells. -/
def Le {α : Type} (a b : Option α) : Prop := ∀ r, a = some r → b = some r
theorem Le.refl {α : Type} (a : Option α) : Le a a := fun _ h => h
theorem Le.none {α : Type} (b : Option α) : Le none b := fun _ h => by cases h
theorem Le.bind {α β : Type} {a b : Option α} {f g : α → Option β} (h : Le a b) (hf : ∀ x, Le (f x) (g x)) : Le (a.bind f) (b.bind g) := by
  intro r hr
  obtain ⟨x, hx, hr⟩ := Option.bind_eq_some_iff.mp hr
  exact Option.bind_eq_some_iff.mpr ⟨x, h x hx, hf x r hr⟩
theorem Le.map {α β : Type} {a b : Option α} {f : α → β} (h : Le a b) : Le (a.map f) (b.map f) := by
  intro r hr
  obtain ⟨x, hx, hr⟩ := Option.map_eq_some_iff.mp hr
  exact Option.map_eq_some_iff.mpr ⟨x, h x hx, hr⟩

def OLe (o o' : Orc) : Prop := ∀ f args h c, Le (o f args h c) (o' f args h c)

variable {P : Program} {md : Nat → Option CMode} {o o' : Orc}

theorem callA_mono (ho : OLe o o') (f : Nat) (args : List AV) (h : Heap) (c : Nat) : Le (callA md o f args h c) (callA md o' f args h c) := by
  unfold callA
  split
  · exact Le.none _
  · exact ho _ _ _ _
  · exact Le.none _
  · exact Le.refl _
  · exact Le.refl _
  · exact Le.refl _
  · exact Le.bind (ho _ _ _ _) fun _ => Le.refl _
  · exact Le.bind (Le.refl _) fun as => Le.bind (ho _ _ _ _) fun _ => Le.refl _

theorem opA_mono (ho : OLe o o') (t : Nat → AV) (h : Heap) (c : Nat) (x : Op) : Le (opA P md o t h c x) (opA P md o' t h c x) := by
  unfold opA
  split <;> try exact Le.refl _
  split
  · exact callA_mono ho _ _ _ _
  · exact callA_mono ho _ _ _ _
  · split
    · exact Le.bind (ho _ _ _ _) fun _ => Le.refl _
    · exact Le.none _
  · exact Le.none _

theorem nxt_mono {f g : St → Option (Ex × St)} (h : ∀ s, Le (f s) (g s)) (p : Ex × St) : Le (nxt f p) (nxt g p) := by
  obtain ⟨e, s⟩ := p
  cases e
  · exact h s
  · exact Le.refl _
  · exact Le.refl _
  · exact Le.refl _

theorem stepA_mono (ho : OLe o o') (ops : Array Oper) (x : Oper) (s : St) : Le (stepA P md o ops x s) (stepA P md o' ops x s) := by
  unfold stepA
  refine Le.bind (Le.refl _) fun w => ?_
  cases w
  · exact Le.refl _
  · simp only [cond_true]
    cases mayP x.op
    · exact (opA_mono ho _ _ _ _).map
    · exact (opA_mono ho _ _ _ _).map

theorem regA_mono (ho : OLe o o') (ops : Array Oper) : ∀ (l : List Oper) (s : St), Le (regA P md o ops l s) (regA P md o' ops l s)
  | [], _ => Le.refl _
  | x :: r, s => Le.bind (stepA_mono ho ops x s) fun p => nxt_mono (fun s => regA_mono ho ops r s) p

theorem stepD_mono (ho : OLe o o') (ops : Array Oper) (h0 : Heap) (x : Oper) (s : St) : Le (stepD P md o ops h0 x s) (stepD P md o' ops h0 x s) := by
  unfold stepD
  refine Le.bind (Le.refl _) fun w => ?_
  cases w
  · exact Le.refl _
  · simp only [cond_true]
    split
    · split
      · exact Le.none _
      · exact Le.bind (opA_mono ho _ _ _ _) fun _ => Le.refl _
    · split
      · exact Le.none _
      · exact (opA_mono ho _ _ _ _).map

theorem regD_mono (ho : OLe o o') (ops : Array Oper) (h0 : Heap) : ∀ (l : List Oper) (s : St), Le (regD P md o ops h0 l s) (regD P md o' ops h0 l s)
  | [], _ => Le.refl _
  | x :: r, s => Le.bind (stepD_mono ho ops h0 x s) fun s => regD_mono ho ops h0 r s

theorem iter_mono {f g : St → Option (Ex × St)} (h : ∀ s, Le (f s) (g s)) : ∀ (n m : Nat) (s : St), n ≤ m → Le (iter f n s) (iter g m s)
  | 0, _, _, _ => Le.none _
  | n + 1, m, s, hm => by
    obtain ⟨m, rfl⟩ : ∃ k, m = k + 1 := ⟨m - 1, by omega⟩
    exact Le.bind (h s) fun p => nxt_mono (fun s => iter_mono h n m s (by omega)) p

theorem condA_mono (v : AV) {x x' y y' : Option (Ex × St)} (hx : Le x x') (hy : Le y y') : Le (condA v x y) (condA v x' y') := by
  unfold condA
  split
  · rename_i t; cases t
    · exact hy
    · exact hx
  · exact Le.none _

theorem rngA_mono (ho : OLe o o') (g : AV) (ps : List Nat) (a b : Code) (s : St) : Le (rngA md o g ps a b s) (rngA md o' g ps a b s) := by
  unfold rngA
  split
  · split
    · exact Le.bind (ho _ _ _ _) fun _ => Le.refl _
    · exact Le.none _
  · exact Le.none _

theorem begR_mono {K K' : Code → St → Option (Ex × St)} (l : Nat) (b : Code) (h : ∀ c s, Le (K c s) (K' c s)) (p : Ex × St) : Le (begR l b K p) (begR l b K' p) := by
  obtain ⟨e, s⟩ := p
  cases e
  · refine Le.bind (Le.refl _) fun p => ?_
    split
    · exact h _ _
    · exact Le.none _
  · exact Le.none _
  · exact Le.none _
  · exact Le.none _

theorem rndA_mono {K K' : Code → St → Option (Ex × St)} (hk : ∀ c s, Le (K c s) (K' c s)) (args : List AV) (h : Heap) (c : Nat) : Le (rndA md K args h c) (rndA md K' args h c) := by
  unfold rndA
  split
  · refine Le.bind (Le.refl _) fun p => ?_
    split
    · exact Le.bind (Le.bind (hk _ _) fun p => begR_mono _ _ hk p) fun _ => Le.refl _
    · exact Le.none _
  · exact Le.none _

theorem exA_mono (ho : OLe o o') {n m : Nat} (hn : n ≤ m) : ∀ (c : Code) (s : St), Le (exA P md o n c s) (exA P md o' m c s)
  | .skip, s => Le.refl _
  | .region _ ops false, s => regA_mono ho _ _ _
  | .region _ ops true, s => (regD_mono ho _ _ _ _).map
  | .seq a b, s => Le.bind (exA_mono ho hn a s) fun p => nxt_mono (fun s => exA_mono ho hn b s) p
  | .cond x a b, s => condA_mono _ (exA_mono ho hn a s) (exA_mono ho hn b s)
  | .block id b, s => Le.bind (exA_mono ho hn b s) fun _ => Le.refl _
  | .loop b, s => iter_mono (fun s => exA_mono ho hn b s) n m s hn
  | .exit id, s => Le.refl _
  | .ret, s => Le.refl _
  | .rangeFunc .., s => rngA_mono ho _ _ _ _ _
  | .scope b, s => exA_mono ho hn b s
  | .label _, s => Le.refl _
  | .goto _, s => Le.refl _
  | .refuse _, s => Le.refl _

theorem callN_step : ∀ n, OLe (callN P md n) (callN P md (n + 1))
  | 0 => fun _ _ _ _ => Le.none _
  | n + 1 => fun f args h c => Le.bind (Le.refl _) fun m => by
    have hb : Le ((P.funcs[f]?).bind fun fn => bodyA P md (callN P md n) n fn args h c) ((P.funcs[f]?).bind fun fn => bodyA P md (callN P md (n + 1)) (n + 1) fn args h c) :=
      Le.bind (Le.refl _) fun fn => Le.bind (Le.refl _) fun b => Le.bind (exA_mono (callN_step n) (by omega) b _) fun _ => Le.refl _
    cases m with
    | rnd => exact rndA_mono (fun c s => exA_mono (callN_step n) (by omega) c s) args h c
    | ext g => exact Le.none _
    | told g => exact Le.none _
    | idt => exact Le.none _
    | pure => exact hb
    | own => exact hb
    | heap => exact hb

theorem callN_mono {n m : Nat} (h : n ≤ m) : OLe (callN P md n) (callN P md m) := by
  induction h with
  | refl => exact fun _ _ _ _ => Le.refl _
  | step _ ih => exact fun f args h c r hr => callN_step _ f args h c r (ih f args h c r hr)

/-- The call, whatever number of rounds it takes. -/
noncomputable def run (P : Program) (md : Nat → Option CMode) : Orc := fun f args h c =>
  open Classical in if x : ∃ r, ∃ n, callN P md n f args h c = some r then some x.choose else none

theorem run_some {f : Nat} {args : List AV} {h : Heap} {c : Nat} {r : AV × Heap × Nat} : run P md f args h c = some r ↔ ∃ n, callN P md n f args h c = some r := by
  unfold run
  constructor
  · intro hr
    split at hr
    · rename_i x
      obtain ⟨n, hn⟩ := x.choose_spec
      exact ⟨n, by rw [hn]; exact hr⟩
    · cases hr
  · rintro ⟨n, hn⟩
    have x : ∃ r, ∃ n, callN P md n f args h c = some r := ⟨r, n, hn⟩
    rw [dif_pos x]
    obtain ⟨m, hm⟩ := x.choose_spec
    have h1 := callN_mono (P := P) (md := md) (Nat.le_max_left n m) f args h c _ hn
    have h2 := callN_mono (P := P) (md := md) (Nat.le_max_right n m) f args h c _ hm
    rw [h1] at h2
    exact h2.symm

theorem callN_le_run (n : Nat) : OLe (callN P md n) (run P md) := fun _ _ _ _ _ h => run_some.mpr ⟨n, h⟩

noncomputable def iterL (f : St → Option (Ex × St)) (s : St) : Option (Ex × St) :=
  open Classical in if x : ∃ r, ∃ n, iter f n s = some r then some x.choose else none

theorem iterL_some {f : St → Option (Ex × St)} {s : St} {r : Ex × St} : iterL f s = some r ↔ ∃ n, iter f n s = some r := by
  unfold iterL
  constructor
  · intro hr
    split at hr
    · rename_i x
      obtain ⟨n, hn⟩ := x.choose_spec
      exact ⟨n, by rw [hn]; exact hr⟩
    · cases hr
  · rintro ⟨n, hn⟩
    have x : ∃ r, ∃ n, iter f n s = some r := ⟨r, n, hn⟩
    rw [dif_pos x]
    obtain ⟨m, hm⟩ := x.choose_spec
    have h1 := iter_mono (fun s => Le.refl (f s)) _ _ s (Nat.le_max_left n m) _ hn
    have h2 := iter_mono (fun s => Le.refl (f s)) _ _ s (Nat.le_max_right n m) _ hm
    rw [h1] at h2
    exact h2.symm

noncomputable def exL (P : Program) (md : Nat → Option CMode) : Code → St → Option (Ex × St)
  | .skip, s => some (.normal, s)
  | .region _ ops false, s => regA P md (run P md) ops ops.toList s
  | .region _ ops true, s => (regD P md (run P md) ops s.h ops.toList s).map fun s => (.normal, s)
  | .seq a b, s => (exL P md a s).bind (nxt (exL P md b))
  | .cond x a b, s => condA (evA s.t x) (exL P md a s) (exL P md b s)
  | .block id b, s => (exL P md b s).bind (outOf id)
  | .loop b, s => iterL (exL P md b) s
  | .exit id, s => some (.exit id, s)
  | .ret, s => some (.ret, s)
  | .rangeFunc g ps a b, s => rngA md (run P md) (evA s.t g) ps.toList a b s
  | .scope b, s => exL P md b s
  | .label _, s => some (.normal, s)
  | _, _ => none

noncomputable def bodyL (P : Program) (md : Nat → Option CMode) (fn : Func) (args : List AV) (h : Heap) (c : Nat) : Res :=
  fn.body.bind fun b => (exL P md b ⟨init args, h, c⟩).bind (fin P fn)

/-! ### what 'run' tells, some number of rounds tells -/

theorem callA_fin {f : Nat} {args : List AV} {h : Heap} {c : Nat} {r : AV × Heap × Nat} (hr : callA md (run P md) f args h c = some r) : ∃ n, callA md (callN P md n) f args h c = some r := by
  unfold callA at hr ⊢
  cases hm : md f with
  | none => simp [hm] at hr
  | some m =>
    cases m with
    | heap => simp only [hm] at hr ⊢; exact run_some.mp hr
    | rnd => simp only [hm] at hr; cases hr
    | idt => simp only [hm] at hr ⊢; exact ⟨0, hr⟩
    | ext g => simp only [hm] at hr ⊢; exact ⟨0, hr⟩
    | told g => simp only [hm] at hr ⊢; exact ⟨0, hr⟩
    | own =>
      simp only [hm] at hr ⊢
      obtain ⟨x, hx, e⟩ := Option.bind_eq_some_iff.mp hr
      obtain ⟨n, hn⟩ := run_some.mp hx
      exact ⟨n, by rw [hn]; exact e⟩
    | pure =>
      simp only [hm] at hr ⊢
      obtain ⟨as, ha, hr⟩ := Option.bind_eq_some_iff.mp hr
      obtain ⟨x, hx, e⟩ := Option.bind_eq_some_iff.mp hr
      obtain ⟨n, hn⟩ := run_some.mp hx
      exact ⟨n, by rw [ha]; simp only [Option.bind_some]; rw [hn]; exact e⟩

theorem opA_fin {t : Nat → AV} {h : Heap} {c : Nat} {x : Op} {r : AV × Heap × Nat} (hr : opA P md (run P md) t h c x = some r) : ∃ n, opA P md (callN P md n) t h c x = some r := by
  unfold opA at hr ⊢
  split at hr
  all_goals (try exact ⟨0, hr⟩)
  split at hr
  · exact callA_fin hr
  · exact callA_fin hr
  · split at hr
    · obtain ⟨x, hx, e⟩ := Option.bind_eq_some_iff.mp hr
      obtain ⟨n, hn⟩ := run_some.mp hx
      exact ⟨n, by rw [hn]; exact e⟩
    · cases hr
  · cases hr

theorem nxt_fin {f : St → Option (Ex × St)} {g : Nat → St → Option (Ex × St)} (hf : ∀ s r, f s = some r → ∃ n, g n s = some r) {p r : Ex × St} (hr : nxt f p = some r) : ∃ n, nxt (g n) p = some r := by
  obtain ⟨e, s⟩ := p
  cases e
  · exact hf _ _ hr
  · exact ⟨0, hr⟩
  · exact ⟨0, hr⟩
  · exact ⟨0, hr⟩

theorem stepA_fin {ops : Array Oper} {x : Oper} {s : St} {r : Ex × St} (hr : stepA P md (run P md) ops x s = some r) : ∃ n, stepA P md (callN P md n) ops x s = some r := by
  unfold stepA at hr ⊢
  obtain ⟨w, hw, hr⟩ := Option.bind_eq_some_iff.mp hr
  rw [hw]; simp only [Option.bind_some]
  cases w
  · exact ⟨0, hr⟩
  · simp only [cond_true] at hr ⊢
    cases hmp : mayP x.op <;> rw [hmp] at hr
    · simp only [cond_false] at hr ⊢
      obtain ⟨y, hy, e⟩ := Option.map_eq_some_iff.mp hr
      obtain ⟨n, hn⟩ := opA_fin hy
      exact ⟨n, by rw [hn]; exact congrArg some e⟩
    · simp only [cond_true] at hr ⊢
      obtain ⟨y, hy, e⟩ := Option.map_eq_some_iff.mp hr
      obtain ⟨n, hn⟩ := opA_fin hy
      exact ⟨n, by rw [hn]; exact congrArg some e⟩

theorem regA_fin {ops : Array Oper} : ∀ {l : List Oper} {s : St} {r : Ex × St}, regA P md (run P md) ops l s = some r → ∃ n, regA P md (callN P md n) ops l s = some r
  | [], _, _, hr => ⟨0, hr⟩
  | x :: l, s, r, hr => by
    obtain ⟨s1, h1, hr⟩ := Option.bind_eq_some_iff.mp hr
    obtain ⟨n, hn⟩ := stepA_fin h1
    obtain ⟨m, hm⟩ := nxt_fin (g := fun n => regA P md (callN P md n) ops l) (fun s r h => regA_fin h) hr
    refine ⟨max n m, Option.bind_eq_some_iff.mpr ⟨s1, ?_, ?_⟩⟩
    · exact stepA_mono (callN_mono (Nat.le_max_left n m)) _ _ _ _ hn
    · exact nxt_mono (fun s => regA_mono (callN_mono (Nat.le_max_right n m)) _ _ s) _ _ hm

theorem stepD_fin {ops : Array Oper} {h0 : Heap} {x : Oper} {s r : St} (hr : stepD P md (run P md) ops h0 x s = some r) : ∃ n, stepD P md (callN P md n) ops h0 x s = some r := by
  unfold stepD at hr ⊢
  obtain ⟨w, hw, hr⟩ := Option.bind_eq_some_iff.mp hr
  rw [hw]; simp only [Option.bind_some]
  cases w
  · exact ⟨0, hr⟩
  · simp only [cond_true] at hr ⊢
    split at hr
    · rename_i hk
      split at hr
      · cases hr
      · rename_i hkl
        obtain ⟨y, hy, e⟩ := Option.bind_eq_some_iff.mp hr
        obtain ⟨n, hn⟩ := opA_fin hy
        exact ⟨n, by rw [if_pos hk, if_neg hkl, hn]; exact e⟩
    · rename_i hk
      split at hr
      · cases hr
      · rename_i hfr
        obtain ⟨y, hy, e⟩ := Option.map_eq_some_iff.mp hr
        obtain ⟨n, hn⟩ := opA_fin hy
        exact ⟨n, by rw [if_neg hk, if_neg hfr, hn]; exact congrArg some e⟩

theorem regD_fin {ops : Array Oper} {h0 : Heap} : ∀ {l : List Oper} {s r : St}, regD P md (run P md) ops h0 l s = some r → ∃ n, regD P md (callN P md n) ops h0 l s = some r
  | [], _, _, hr => ⟨0, hr⟩
  | x :: l, s, r, hr => by
    obtain ⟨s1, h1, hr⟩ := Option.bind_eq_some_iff.mp hr
    obtain ⟨n, hn⟩ := stepD_fin h1
    obtain ⟨m, hm⟩ := regD_fin hr
    refine ⟨max n m, Option.bind_eq_some_iff.mpr ⟨s1, ?_, ?_⟩⟩
    · exact stepD_mono (callN_mono (Nat.le_max_left n m)) _ _ _ _ _ hn
    · exact regD_mono (callN_mono (Nat.le_max_right n m)) _ _ _ _ _ hm

theorem exA_up {n m : Nat} (h : n ≤ m) (c : Code) (s : St) : Le (exA P md (callN P md n) n c s) (exA P md (callN P md m) m c s) := exA_mono (callN_mono h) h c s

theorem iter_fin {f : St → Option (Ex × St)} {g : Nat → St → Option (Ex × St)} (hf : ∀ s r, f s = some r → ∃ n, g n s = some r) (hg : ∀ n m s, n ≤ m → Le (g n s) (g m s)) :
    ∀ (k : Nat) {s : St} {r : Ex × St}, iter f k s = some r → ∃ n, iter (g n) k s = some r
  | 0, _, _, hr => by cases hr
  | k + 1, s, r, hr => by
    obtain ⟨p, hp, hr⟩ := Option.bind_eq_some_iff.mp hr
    obtain ⟨n, hn⟩ := hf _ _ hp
    obtain ⟨m, hm⟩ := nxt_fin (g := fun n => iter (g n) k) (fun s r => iter_fin hf hg k) hr
    refine ⟨max n m, Option.bind_eq_some_iff.mpr ⟨p, hg _ _ _ (Nat.le_max_left n m) _ hn, ?_⟩⟩
    exact nxt_mono (fun s => iter_mono (fun s => hg _ _ s (Nat.le_max_right n m)) k k s (Nat.le_refl _)) p _ hm

theorem rngA_fin {g : AV} {ps : List Nat} {a b : Code} {s : St} {r : Ex × St} (hr : rngA md (run P md) g ps a b s = some r) : ∃ n, rngA md (callN P md n) g ps a b s = some r := by
  unfold rngA at hr ⊢
  cases g with
  | fn f caps =>
    cases hm : md f with
    | none => simp [hm] at hr
    | some m =>
      cases m with
      | heap =>
        simp only [hm] at hr ⊢
        obtain ⟨y, hy, e⟩ := Option.bind_eq_some_iff.mp hr
        obtain ⟨n, hn⟩ := run_some.mp hy
        exact ⟨n, by rw [hn]; exact e⟩
      | _ => simp [hm] at hr
  | _ => cases hr

theorem exL_fin : ∀ {c : Code} {s : St} {r : Ex × St}, exL P md c s = some r → ∃ n, exA P md (callN P md n) n c s = some r
  | .skip, s, r, hr => ⟨0, hr⟩
  | .region _ ops false, s, r, hr => by
    obtain ⟨n, hn⟩ := regA_fin hr
    exact ⟨n, hn⟩
  | .region _ ops true, s, r, hr => by
    obtain ⟨y, hy, e⟩ := Option.map_eq_some_iff.mp hr
    obtain ⟨n, hn⟩ := regD_fin hy
    exact ⟨n, Option.map_eq_some_iff.mpr ⟨y, hn, e⟩⟩
  | .seq a b, s, r, hr => by
    obtain ⟨p, hp, hr⟩ := Option.bind_eq_some_iff.mp hr
    obtain ⟨n, hn⟩ := exL_fin hp
    obtain ⟨m, hm⟩ := nxt_fin (g := fun n => exA P md (callN P md n) n b) (fun s r => exL_fin) hr
    refine ⟨max n m, Option.bind_eq_some_iff.mpr ⟨p, exA_up (Nat.le_max_left n m) _ _ _ hn, ?_⟩⟩
    exact nxt_mono (fun s => exA_up (Nat.le_max_right n m) b s) p _ hm
  | .cond x a b, s, r, hr => by
    unfold exL condA at hr
    unfold exA condA
    cases hx : evA s.t x with
    | val v =>
      cases v with
      | bool t =>
        simp only [hx] at hr ⊢
        cases t
        · exact exL_fin hr
        · exact exL_fin hr
      | _ => simp only [hx] at hr; cases hr
    | _ => simp only [hx] at hr; cases hr
  | .block id b, s, r, hr => by
    obtain ⟨p, hp, hr⟩ := Option.bind_eq_some_iff.mp hr
    obtain ⟨n, hn⟩ := exL_fin hp
    exact ⟨n, Option.bind_eq_some_iff.mpr ⟨p, hn, hr⟩⟩
  | .loop b, s, r, hr => by
    obtain ⟨k, hk⟩ := iterL_some.mp hr
    obtain ⟨n, hn⟩ := iter_fin (g := fun n => exA P md (callN P md n) n b) (fun s r => exL_fin) (fun n m s h => exA_up h b s) k hk
    exact ⟨max k n, iter_mono (fun s => exA_up (Nat.le_max_right k n) b s) _ _ s (Nat.le_max_left k n) _ hn⟩
  | .exit id, s, r, hr => ⟨0, hr⟩
  | .ret, s, r, hr => ⟨0, hr⟩
  | .rangeFunc .., s, r, hr => rngA_fin hr
  | .scope b, s, r, hr => exL_fin (c := b) hr
  | .label _, s, r, hr => ⟨0, hr⟩
  | .goto _, s, r, hr => by cases hr
  | .refuse _, s, r, hr => by cases hr

theorem exA_le_exL (n : Nat) : ∀ (c : Code) (s : St), Le (exA P md (callN P md n) n c s) (exL P md c s)
  | .skip, s => Le.refl _
  | .region _ ops false, s => regA_mono (callN_le_run n) _ _ _
  | .region _ ops true, s => (regD_mono (callN_le_run n) _ _ _ _).map
  | .seq a b, s => Le.bind (exA_le_exL n a s) fun p => nxt_mono (fun s => exA_le_exL n b s) p
  | .cond x a b, s => condA_mono _ (exA_le_exL n a s) (exA_le_exL n b s)
  | .block id b, s => Le.bind (exA_le_exL n b s) fun _ => Le.refl _
  | .loop b, s => fun r hr => iterL_some.mpr ⟨n, iter_mono (fun s => exA_le_exL n b s) n n s (Nat.le_refl _) r hr⟩
  | .exit id, s => Le.refl _
  | .ret, s => Le.refl _
  | .rangeFunc .., s => rngA_mono (callN_le_run n) _ _ _ _ _
  | .scope b, s => exA_le_exL n b s
  | .label _, s => Le.refl _
  | .goto _, s => Le.none _
  | .refuse _, s => Le.none _

/-- THE EQUATION OF A CALL. -/
theorem run_all (f : Nat) (args : List AV) (h : Heap) (c : Nat) : run P md f args h c = (md f).bind fun m => match m with
    | .rnd => rndA md (exL P md) args h c
    | .ext _ => none
    | .told _ => none
    | .idt => none
    | _ => (P.funcs[f]?).bind fun fn => bodyL P md fn args h c := by
  apply Option.ext
  intro r
  rw [run_some]
  constructor
  · rintro ⟨n, hn⟩
    cases n with
    | zero => cases hn
    | succ n =>
      obtain ⟨m, hm, hn⟩ := Option.bind_eq_some_iff.mp hn
      refine Option.bind_eq_some_iff.mpr ⟨m, hm, ?_⟩
      have hb : (P.funcs[f]?).bind (fun fn => bodyA P md (callN P md n) n fn args h c) = some r → (P.funcs[f]?).bind (fun fn => bodyL P md fn args h c) = some r := by
        intro hn
        obtain ⟨fn, hf, hn⟩ := Option.bind_eq_some_iff.mp hn
        obtain ⟨b, hb, hn⟩ := Option.bind_eq_some_iff.mp hn
        obtain ⟨p, hp, hn⟩ := Option.bind_eq_some_iff.mp hn
        exact Option.bind_eq_some_iff.mpr ⟨fn, hf, Option.bind_eq_some_iff.mpr ⟨b, hb, Option.bind_eq_some_iff.mpr ⟨p, exA_le_exL n b _ _ hp, hn⟩⟩⟩
      cases m with
      | rnd => exact rndA_mono (fun c s => exA_le_exL n c s) args h c r hn
      | ext g => cases hn
      | told g => cases hn
      | idt => cases hn
      | pure => exact hb hn
      | own => exact hb hn
      | heap => exact hb hn
  · intro hr
    obtain ⟨m, hm, hr⟩ := Option.bind_eq_some_iff.mp hr
    have hb : (P.funcs[f]?).bind (fun fn => bodyL P md fn args h c) = some r → ∃ n, (P.funcs[f]?).bind (fun fn => bodyA P md (callN P md n) n fn args h c) = some r := by
      intro hr
      obtain ⟨fn, hf, hr⟩ := Option.bind_eq_some_iff.mp hr
      obtain ⟨b, hb, hr⟩ := Option.bind_eq_some_iff.mp hr
      obtain ⟨p, hp, hr⟩ := Option.bind_eq_some_iff.mp hr
      obtain ⟨n, hn⟩ := exL_fin hp
      exact ⟨n, Option.bind_eq_some_iff.mpr ⟨fn, hf, Option.bind_eq_some_iff.mpr ⟨b, hb, Option.bind_eq_some_iff.mpr ⟨p, hn, hr⟩⟩⟩⟩
    have up : (∃ n, (P.funcs[f]?).bind (fun fn => bodyA P md (callN P md n) n fn args h c) = some r) → (match m with | .rnd => False | .ext _ => False | .told _ => False | .idt => False | _ => True) → ∃ n, callN P md n f args h c = some r := by
      rintro ⟨n, hn⟩ hmm
      refine ⟨n + 1, Option.bind_eq_some_iff.mpr ⟨m, hm, ?_⟩⟩
      cases m <;> first | exact hmm.elim | exact hn
    cases m with
    | rnd =>
      have hx : ∃ n, rndA md (exA P md (callN P md n) n) args h c = some r := by
        simp only at hr
        unfold rndA at hr ⊢
        cases args with
        | nil => cases hr
        | cons x vs =>
          cases x with
          | yld l =>
            simp only at hr ⊢
            obtain ⟨p0, hp0, hr⟩ := Option.bind_eq_some_iff.mp hr
            split at hr
            · rename_i hc
              obtain ⟨p, hp, hr⟩ := Option.bind_eq_some_iff.mp hr
              obtain ⟨q, hq, hp⟩ := Option.bind_eq_some_iff.mp hp
              obtain ⟨n1, hn1⟩ := exL_fin hq
              have h2 : ∃ n, begR l p0.b (exA P md (callN P md n) n) q = some p := by
                obtain ⟨e, s2⟩ := q
                cases e with
                | normal =>
                  obtain ⟨p1, hp1, hp⟩ := Option.bind_eq_some_iff.mp hp
                  split at hp
                  · rename_i h3
                    obtain ⟨n2, hn2⟩ := exL_fin hp
                    exact ⟨n2, Option.bind_eq_some_iff.mpr ⟨p1, hp1, by rw [if_pos h3]; exact hn2⟩⟩
                  · cases hp
                | exit i => cases hp
                | ret => cases hp
                | pan t k n => cases hp
              obtain ⟨n2, hn2⟩ := h2
              refine ⟨max n1 n2, Option.bind_eq_some_iff.mpr ⟨p0, hp0, ?_⟩⟩
              rw [if_pos hc]
              refine Option.bind_eq_some_iff.mpr ⟨p, Option.bind_eq_some_iff.mpr ⟨q, exA_up (Nat.le_max_left n1 n2) _ _ _ hn1, ?_⟩, hr⟩
              exact begR_mono _ _ (fun c s => exA_up (Nat.le_max_right n1 n2) c s) _ _ hn2
            · cases hr
          | _ => cases hr
      obtain ⟨n, hn⟩ := hx
      exact ⟨n + 1, Option.bind_eq_some_iff.mpr ⟨.rnd, hm, hn⟩⟩
    | ext g => cases hr
    | told g => cases hr
    | idt => cases hr
    | pure => exact up (hb hr) trivial
    | own => exact up (hb hr) trivial
    | heap => exact up (hb hr) trivial

def CMode.fn : CMode → Bool
  | .rnd => false
  | .ext _ => false
  | .told _ => false
  | .idt => false
  | _ => true

/-- The equation of a function's call. -/
theorem run_eq {f : Nat} {m : CMode} (hm : md f = some m) (hf : m.fn = true) (args : List AV) (h : Heap) (c : Nat) : run P md f args h c = (P.funcs[f]?).bind fun fn => bodyL P md fn args h c := by
  rw [run_all, hm, Option.bind_some]
  cases m <;> first | rfl | cases hf

/-- The equation of a round. -/
theorem run_rnd (hm : md rndF = some .rnd) (args : List AV) (h : Heap) (c : Nat) : run P md rndF args h c = rndA md (exL P md) args h c := by
  rw [run_all, hm, Option.bind_some]

theorem iterL_eq (f : St → Option (Ex × St)) (s : St) : iterL f s = (f s).bind (nxt (iterL f)) := by
  apply Option.ext
  intro r
  rw [iterL_some]
  constructor
  · rintro ⟨n, hn⟩
    cases n with
    | zero => cases hn
    | succ n => exact Le.bind (Le.refl _) (fun p => nxt_mono (fun s r h => iterL_some.mpr ⟨n, h⟩) p) r hn
  · intro hr
    obtain ⟨p, hp, hr⟩ := Option.bind_eq_some_iff.mp hr
    obtain ⟨n, hn⟩ := nxt_fin (g := fun n => iter f n) (fun s r h => iterL_some.mp h) hr
    exact ⟨n + 1, Option.bind_eq_some_iff.mpr ⟨p, hp, hn⟩⟩

/-- THE RULE OF A LOOP: a measure k, an invariant; each round leaves, or goes on with a smaller k. -/
theorem iterL_rule {α : Type} {f : St → Option (Ex × St)} (I : Nat → St → Prop) (K : Ex × St → Option α) (R : Option α → Prop)
    (step : ∀ k s, I k s → ∃ e s', f s = some (e, s') ∧ (match e with | .normal => ∃ k', k' < k ∧ I k' s' | e => R (K (e, s')))) :
    ∀ (k : Nat) (s : St), I k s → R ((iterL f s).bind K) := by
  intro k
  induction k using Nat.strongRecOn with
  | _ k ih =>
    intro s hI
    obtain ⟨e, s', hf, he⟩ := step k s hI
    rw [iterL_eq, hf]
    cases e with
    | normal =>
      obtain ⟨k', hk, hI'⟩ := he
      exact ih k' hk s' hI'
    | exit i => exact he
    | ret => exact he
    | pan t k n => exact he

end Go.Proofs.YtgbdbenepnbajaaGreatDoor.AM
