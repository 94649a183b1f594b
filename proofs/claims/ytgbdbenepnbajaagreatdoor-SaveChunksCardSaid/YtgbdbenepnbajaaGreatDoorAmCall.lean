/- Calls. -/
import Derived.Test.YtgbdbenepnbajaaGreatDoorAmOpsM
namespace Go.Proofs.YtgbdbenepnbajaaGreatDoor.AM
open Go Go.RowKit
set_option linter.unusedVariables false
set_option linter.unusedSimpArgs false

theorem mapM_some {α β : Type} {f : α → Option β} : ∀ {l : List α} {l' : List β}, l.mapM f = some l' → l'.length = l.length ∧ (∀ (i : Nat) y, l'[i]? = some y → ∃ x, l[i]? = some x ∧ f x = some y)
  | [], l', e => by simp at e; subst e; exact ⟨rfl, fun i y h => by simp at h⟩
  | x :: l, l', e => by
    simp only [List.mapM_cons, Option.bind_eq_bind, Option.pure_def] at e
    replace e := Option.bind_eq_some_iff.mp e; obtain ⟨y, h1, e⟩ := e
    replace e := Option.bind_eq_some_iff.mp e; obtain ⟨r, h2, e⟩ := e
    cases e
    obtain ⟨h3, h4⟩ := mapM_some h2
    refine ⟨by simp [h3], fun i z hz => ?_⟩
    cases i with
    | zero => simp at hz; subst hz; exact ⟨x, rfl, h1⟩
    | succ i => simpa using h4 i z (by simpa using hz)

section
variable {P : Program} {ρ : Pls} {F : Nat → Prop} {base : Nat} {h : Heap} {w : World} {c : Nat} {H : Array Obj}

theorem emp_ro {ρ ρ' : Pls} {u : Value} (h : VR H F ρ .emp u) (H' : Array Obj) (F' : Nat → Prop) : VR H' F' ρ' (.ro false []) u := by
  cases h with
  | emp _ a => exact .ro _ false [] (some a) 0 0 (fun _ _ => undef) (by simp) (by simp) (fun h => by cases h) (fun e he => by cases he) (fun i j x hx => by simp [at2] at hx) (fun i j x hx => by simp [at2] at hx)

theorem lfs_of {cs : List AV} (h : ∀ x ∈ cs, lf x = true) : lf.lfs cs = true := by
  induction cs with
  | nil => rfl
  | cons x cs ih =>
    show (lf x && lf.lfs cs) = true
    rw [h x List.mem_cons_self, ih fun y hy => h y (List.mem_cons_of_mem _ hy)]
    rfl

theorem frz_lf : ∀ (n : Nat) (v v' : AV) (u : Value), lf v = true → frz h n v = some v' → VR H F ρ v u → VR H F ρ v' u ∧ lf v' = true
  | 0, v, v', u, _, e, _ => by cases e
  | n + 1, v, v', u, hl, e, hv => by
    have lists : ∀ {cs cs' : List AV} {vs : List Value}, lf.lfs cs = true → cs.mapM (frz h n) = some cs' → LR H F ρ cs vs → LR H F ρ cs' vs ∧ lf.lfs cs' = true := by
      intro cs cs' vs hc hm hl
      obtain ⟨h1, h2⟩ := mapM_some hm
      have each : ∀ (i : Nat) (y : AV), cs'[i]? = some y → ∃ v : Value, vs[i]? = some v ∧ VR H F ρ y v ∧ lf y = true := by
        intro i y hy
        obtain ⟨x, hx, hf⟩ := h2 i y hy
        obtain ⟨v, hv, hr⟩ := hl.2 i x hx
        exact ⟨v, hv, frz_lf n x y v (lfs_mem hc hx) hf hr⟩
      refine ⟨⟨by rw [hl.1, h1], fun i y hy => ?_⟩, lfs_of fun y hy => ?_⟩
      · obtain ⟨v, hv, hr, _⟩ := each i y hy
        exact ⟨v, hv, hr⟩
      · obtain ⟨i, hi⟩ := List.getElem?_of_mem hy
        obtain ⟨v, _, _, hr⟩ := each i y hi
        exact hr
    unfold frz at e
    cases v <;> (try simp only at e)
    case val => cases e; exact ⟨hv, rfl⟩
    case ifc => cases e; exact ⟨hv, rfl⟩
    case ro => cases e; exact ⟨hv, rfl⟩
    case emp => cases e; exact ⟨emp_ro hv _ _, rfl⟩
    case agg cs =>
      obtain ⟨cs', h1, e⟩ := Option.map_eq_some_iff.mp e
      subst e
      cases hv with
      | agg _ _ vs g hn hA hV =>
        obtain ⟨k1, k2⟩ := lists hl h1 (LR.of_agg (VR.agg ρ cs vs g hn hA hV))
        exact ⟨by simpa using k1.agg, k2⟩
    case tup cs =>
      obtain ⟨cs', h1, e⟩ := Option.map_eq_some_iff.mp e
      subst e
      cases hv with
      | tup _ _ vs g hn hA hV =>
        obtain ⟨k1, k2⟩ := lists hl h1 (LR.of_agg (VR.agg ρ cs vs g hn hA hV))
        exact ⟨by simpa using k1.tup, k2⟩
    case sl => cases hl
    case fn => cases hl
    all_goals cases e

theorem frz_sound (R : Rel ρ F base h H) (hF : ∀ k, F k → k < base) : ∀ (n : Nat) (v v' : AV) (u : Value), VR H (FF F h ρ) ρ v u → frz h n v = some v' → VR H F (fun _ => none) v' u
  | 0, _, _, _, _, e => by cases e
  | n + 1, v, v', u, hv, e => by
    have less : Mv H (FF F h ρ) H F := Mv.less H (fun k hk => .inl hk)
    have lists : ∀ {cs cs' : List AV} {vs : List Value}, LR H (FF F h ρ) ρ cs vs → cs.mapM (frz h n) = some cs' → LR H F (fun _ => none) cs' vs := by
      intro cs cs' vs hl hm
      obtain ⟨h1, h2⟩ := mapM_some hm
      refine ⟨by rw [hl.1, h1], fun i y hy => ?_⟩
      obtain ⟨x, hx, hf⟩ := h2 i y hy
      obtain ⟨v, hv, hr⟩ := hl.2 i x hx
      exact ⟨v, hv, frz_sound R hF n x y v hr hf⟩
    unfold frz at e
    cases v <;> (try simp only at e)
    case val => cases e; exact (hv.free rfl _).mono less (Sub.refl _)
    case ifc => cases e; exact (hv.free rfl _).mono less (Sub.refl _)
    case ro => cases e; exact (hv.free rfl _).mono less (Sub.refl _)
    case emp => cases e; exact emp_ro hv _ _
    case fn f cs =>
      cases cs with
      | nil =>
        cases e
        cases hv with
        | fn _ _ _ vs g hn hA hV => exact .fn _ f [] vs g hn (fun i x hx => by simp at hx) (fun i x hx => by simp at hx)
      | cons => cases e
    case agg cs =>
      obtain ⟨cs', h1, e⟩ := Option.map_eq_some_iff.mp e
      subst e
      cases hv with
      | agg _ _ vs g hn hA hV =>
        have := (lists (LR.of_agg (VR.agg ρ cs vs g hn hA hV)) h1).agg
        simpa using this
    case tup cs =>
      obtain ⟨cs', h1, e⟩ := Option.map_eq_some_iff.mp e
      subst e
      cases hv with
      | tup _ _ vs g hn hA hV =>
        have := (lists (LR.of_agg (VR.agg ρ cs vs g hn hA hV)) h1).tup
        simpa using this
    case sl l sz off len =>
      replace e := Option.bind_eq_some_iff.mp e; obtain ⟨es, h1, e⟩ := e
      obtain ⟨es', h2, e⟩ := Option.map_eq_some_iff.mp e
      subst e
      obtain ⟨h3, h4⟩ := mapM_some h2
      unfold els at h1
      replace h1 := Option.bind_eq_some_iff.mp h1; obtain ⟨b, hb, h1⟩ := h1
      split at h1
      · rename_i hle
        cases h1
        cases hv with
        | sl _ _ _ _ _ k o cap hρ hc hk =>
          obtain ⟨k', o', cs', T, _, g1, g2, g3, g4, g5⟩ := R.ownC hb hρ (have1 hk)
          rw [hρ] at g1
          obtain ⟨rfl, rfl, rfl⟩ : k = k' ∧ o = o' ∧ sz = b.sz := by cases g1; exact ⟨rfl, rfl, rfl⟩
          have hlen : es'.length = len := by rw [h3]; simp; omega
          have rows : ∀ (i : Nat) r', es'[i]? = some r' → ∃ r, b.es[off + i]? = some r ∧ r.mapM (frz h n) = some r' := by
            intro i r' hr'
            obtain ⟨r, hr, hm⟩ := h4 i r' hr'
            rw [List.getElem?_take] at hr
            split at hr
            · rw [List.getElem?_drop] at hr
              exact ⟨r, hr, hm⟩
            · cases hr
          have key : ∀ i j y, at2 es' i j = some y → ∃ v, cs'[o + (off + i) * b.sz + j]? = some v ∧ v.oneCell' = true ∧ VR H F (fun _ => none) y v := by
            intro i j y hy
            obtain ⟨r', hr', hy⟩ := Option.bind_eq_some_iff.mp hy
            obtain ⟨r, hr, hm⟩ := rows i r' hr'
            obtain ⟨x, hx, hf⟩ := (mapM_some hm).2 j y hy
            obtain ⟨v, hv, h5, h6⟩ := g5 (off + i) j x (by unfold at2; rw [hr]; exact hx)
            exact ⟨v, hv, h5, frz_sound R hF n x y v h6 hf⟩
          rw [← hlen]
          refine .ro _ false es' _ cap b.sz (fun i j => cs'.getD (o + (off + i) * b.sz + j) .nilFunc) (by omega) (by simp) (fun h => by cases h) (fun r' hr' => ?_) (fun i j y hy => ?_) (fun i j y hy => ?_)
          · obtain ⟨i, hi⟩ := List.getElem?_of_mem hr'
            obtain ⟨r, hr, hm⟩ := rows i r' hi
            rw [(mapM_some hm).1]
            exact g4 r (List.mem_of_getElem? hr)
          · obtain ⟨v, hv, h5, h6⟩ := key i j y hy
            refine ⟨_, rfl, fun hk => ?_, ?_, ?_⟩
            · have := hF _ hk
              simp only at this
              omega
            · rw [add_plain, cellH_plain g3, show o + off * b.sz + (i * b.sz + j) = o + (off + i) * b.sz + j by rw [Nat.add_mul]; omega]
              simp [Array.getD_eq_getD_getElem?, hv]
            · simpa [Array.getD_eq_getD_getElem?, hv] using h5
          · obtain ⟨v, hv, h5, h6⟩ := key i j y hy
            simpa [Array.getD_eq_getD_getElem?, hv] using h6
      · cases h1
    all_goals cases e

theorem frz_own (R : Rel ρ F base h H) (G : Nat → Prop) (hG : ∀ k, G k → k < base) : ∀ (n : Nat) (v v' : AV) (u : Value), VR H (FF F h ρ) ρ v u → frz h n v = some v' → okO h n v = true → VR H G (fun _ => none) v' u
  | 0, _, _, _, _, e, _ => by cases e
  | n + 1, v, v', u, hv, e, ho => by
    have lists : ∀ {cs cs' : List AV} {vs : List Value}, LR H (FF F h ρ) ρ cs vs → cs.mapM (frz h n) = some cs' → cs.all (okO h n) = true → LR H G (fun _ => none) cs' vs := by
      intro cs cs' vs hl hm ho
      obtain ⟨h1, h2⟩ := mapM_some hm
      refine ⟨by rw [hl.1, h1], fun i y hy => ?_⟩
      obtain ⟨x, hx, hf⟩ := h2 i y hy
      obtain ⟨v, hv, hr⟩ := hl.2 i x hx
      exact ⟨v, hv, frz_own R G hG n x y v hr hf (List.all_eq_true.1 ho x (List.mem_of_getElem? hx))⟩
    unfold frz at e
    unfold okO at ho
    cases v <;> (try simp only at e ho)
    case val => cases e; exact hv.flat rfl _ _ _
    case ifc => cases e; exact hv.flat rfl _ _ _
    case ro b es =>
      cases e
      have : es = [] := by simpa using ho
      subst this
      cases hv with
      | ro _ _ _ A cap sz f hc hn hz hs hA hV => exact .ro _ b [] A cap sz f hc hn hz hs (fun i j x hx => by simp [at2] at hx) (fun i j x hx => by simp [at2] at hx)
    case emp => cases e; exact emp_ro hv _ _
    case fn => cases ho
    case agg cs =>
      obtain ⟨cs', h1, e⟩ := Option.map_eq_some_iff.mp e
      subst e
      cases hv with
      | agg _ _ vs g hn hA hV =>
        have := (lists (LR.of_agg (VR.agg ρ cs vs g hn hA hV)) h1 ho).agg
        simpa using this
    case tup cs =>
      obtain ⟨cs', h1, e⟩ := Option.map_eq_some_iff.mp e
      subst e
      cases hv with
      | tup _ _ vs g hn hA hV =>
        have := (lists (LR.of_agg (VR.agg ρ cs vs g hn hA hV)) h1 ho).tup
        simpa using this
    case sl l sz off len =>
      replace e := Option.bind_eq_some_iff.mp e; obtain ⟨es, h1, e⟩ := e
      obtain ⟨es', h2, e⟩ := Option.map_eq_some_iff.mp e
      subst e
      rw [h1] at ho
      simp only at ho
      obtain ⟨h3, h4⟩ := mapM_some h2
      unfold els at h1
      replace h1 := Option.bind_eq_some_iff.mp h1; obtain ⟨b, hb, h1⟩ := h1
      split at h1
      · rename_i hle
        cases h1
        cases hv with
        | sl _ _ _ _ _ k o cap hρ hc hk =>
          obtain ⟨k', o', cs', T, _, g1, g2, g3, g4, g5⟩ := R.ownC hb hρ (have1 hk)
          rw [hρ] at g1
          obtain ⟨rfl, rfl, rfl⟩ : k = k' ∧ o = o' ∧ sz = b.sz := by cases g1; exact ⟨rfl, rfl, rfl⟩
          have hlen : es'.length = len := by rw [h3]; simp; omega
          have rows : ∀ (i : Nat) r', es'[i]? = some r' → ∃ r, b.es[off + i]? = some r ∧ r.mapM (frz h n) = some r' ∧ r.all (okO h n) = true := by
            intro i r' hr'
            obtain ⟨r, hr, hm⟩ := h4 i r' hr'
            have hall := List.all_eq_true.1 ho r (List.mem_of_getElem? hr)
            rw [List.getElem?_take] at hr
            split at hr
            · rw [List.getElem?_drop] at hr
              exact ⟨r, hr, hm, hall⟩
            · cases hr
          have key : ∀ i j y, at2 es' i j = some y → ∃ v, cs'[o + (off + i) * b.sz + j]? = some v ∧ v.oneCell' = true ∧ VR H G (fun _ => none) y v := by
            intro i j y hy
            obtain ⟨r', hr', hy⟩ := Option.bind_eq_some_iff.mp hy
            obtain ⟨r, hr, hm, hall⟩ := rows i r' hr'
            obtain ⟨x, hx, hf⟩ := (mapM_some hm).2 j y hy
            obtain ⟨v, hv, h5, h6⟩ := g5 (off + i) j x (by unfold at2; rw [hr]; exact hx)
            exact ⟨v, hv, h5, frz_own R G hG n x y v h6 hf (List.all_eq_true.1 hall x (List.mem_of_getElem? hx))⟩
          rw [← hlen]
          refine .ro _ false es' _ cap b.sz (fun i j => cs'.getD (o + (off + i) * b.sz + j) .nilFunc) (by omega) (by simp) (fun h => by cases h) (fun r' hr' => ?_) (fun i j y hy => ?_) (fun i j y hy => ?_)
          · obtain ⟨i, hi⟩ := List.getElem?_of_mem hr'
            obtain ⟨r, hr, hm, _⟩ := rows i r' hi
            rw [(mapM_some hm).1]
            exact g4 r (List.mem_of_getElem? hr)
          · obtain ⟨v, hv, h5, h6⟩ := key i j y hy
            refine ⟨_, rfl, fun hk => ?_, ?_, ?_⟩
            · have := hG _ hk
              simp only at this
              omega
            · rw [add_plain, cellH_plain g3, show o + off * b.sz + (i * b.sz + j) = o + (off + i) * b.sz + j by rw [Nat.add_mul]; omega]
              simp [Array.getD_eq_getD_getElem?, hv]
            · simpa [Array.getD_eq_getD_getElem?, hv] using h5
          · obtain ⟨v, hv, h5, h6⟩ := key i j y hy
            simpa [Array.getD_eq_getD_getElem?, hv] using h6
      · cases h1
    all_goals cases e

/-- A call of the function that a loop hands to the one that it ranges over. -/
def Rounds (P : Program) (vs : List Value) (w : World) (R : Ending → World → Prop) : Prop :=
  ∃ (k : Nat) (us : List Value) (fn : FuncId) (tmps : Array Value) (a b : Code), vs = .func (.yield k) #[] #[] :: us ∧ (Instr.yield k us.toArray).run P w = .ok (.round k fn tmps a b) w ∧ RoundIn Fence.wide 0 P k fn tmps a b w R

def Meets (P : Program) (md : Nat → Option CMode) (f : Nat) (vs : List Value) (w : World) (R : Ending → World → Prop) : Prop :=
  match md f with
  | some .rnd => Rounds P vs w R
  | _ => Calls P f vs.toArray w R

theorem Meets.calls {md : Nat → Option CMode} {f : Nat} {m : CMode} {vs : List Value} {R : Ending → World → Prop} (h : Meets P md f vs w R) (hm : md f = some m) (hf : m.fn = true) : Calls P f vs.toArray w R := by
  unfold Meets at h
  rw [hm] at h
  cases m <;> first | exact h | cases hf

/-- What is asked of an oracle. -/
def OrcOk (P : Program) (md : Nat → Option CMode) (orc : Orc) : Prop := ∀ f args h c r h' c', orc f args h c = some (r, h', c') → c ≤ c' ∧
  ∀ (ρ : Pls) (F : Nat → Prop) (base : Nat) (w : World) (vs : List Value), Rel ρ F base h w.heap → base ≤ w.heap.size → (∀ k, F k → k < base) → Fr ρ c c' → LR w.heap (FF F h ρ) ρ args vs →
    Meets P md f vs w fun e w' => Ends ρ F base h w c r h' c' e w'

/-- A function that is told of. -/
def ExtOk (P : Program) (f : Nat) (g : List AV → Option AV) : Prop := ∀ as r, g as = some r → ∀ (w : World) (vs : List Value), glN ≤ w.heap.size → glOk w.heap → LR w.heap (fun _ => False) (fun _ => none) as vs →
  Hits P (callFunc f vs.toArray) w fun u w' => (∀ H F ρ, VR H F ρ r u) ∧ Below w.heap.size w w'

/-- A function that is told of with its memory. -/
def ToldOk (P : Program) (f : Nat) (g : List AV → Heap → Nat → Option (AV × Heap × Nat)) : Prop := (∃ fn, P.funcs[f]? = some fn ∧ fn.body.isSome = true ∧ fn.name ≠ "runtime.NumGoroutine") ∧
  ∀ args h c r h' c', g args h c = some (r, h', c') → c ≤ c' ∧
  ∀ (ρ : Pls) (F : Nat → Prop) (base : Nat) (w : World) (vs : List Value), Rel ρ F base h w.heap → base ≤ w.heap.size → (∀ k, F k → k < base) → Fr ρ c c' → LR w.heap (FF F h ρ) ρ args vs →
    Calls P f vs.toArray w fun e w' => Ends ρ F base h w c r h' c' e w'

/-- The functions that may be called have bodies, and are none that the model reckons itself; or they are told of. -/
def MdOk (P : Program) (md : Nat → Option CMode) : Prop := ∀ f m, md f = some m → match m with
  | .rnd => True
  | .ext g => ExtOk P f g
  | .told g => ToldOk P f g
  | .idt => ∀ (v : Value) (w : World), (callFunc f #[v]).run P w = .ok (.value v) w
  | _ => ∃ fn, P.funcs[f]? = some fn ∧ fn.body.isSome = true ∧ fn.name ≠ "runtime.NumGoroutine"

theorem callFunc_run {md : Nat → Option CMode} (hm : MdOk P md) {f : Nat} {m : CMode} (h : md f = some m) (hf : m.fn = true) (args : Array Value) (w : World) : (callFunc f args).run P w = .ok (.enter f args) w := by
  have h0 := hm f m h
  have : ∃ fn, P.funcs[f]? = some fn ∧ fn.body.isSome = true ∧ fn.name ≠ "runtime.NumGoroutine" := by cases m <;> first | exact h0 | cases hf
  obtain ⟨fn, h1, h2, h3⟩ := this
  unfold callFunc
  obtain ⟨b, hb⟩ := Option.isSome_iff_exists.1 h2
  simp [h1, h3, hb]

theorem hits_enter {md : Nat → Option CMode} (hm : MdOk P md) {f : Nat} {m : CMode} (h : md f = some m) (hf : m.fn = true) {vs : List Value} {Φ : Value → World → Prop} (k : Calls P f vs.toArray w fun e w'' => ∃ u, e = .returned u ∧ Φ u w'') : Hits P (callFunc f vs.toArray) w Φ := by
  unfold Hits
  rw [callFunc_run hm h hf]
  exact k

theorem hits_told {f : Nat} {vs : List Value} {Φ : Value → World → Prop} (hfn : ∃ fn, P.funcs[f]? = some fn ∧ fn.body.isSome = true ∧ fn.name ≠ "runtime.NumGoroutine") (k : Calls P f vs.toArray w fun e w'' => ∃ u, e = .returned u ∧ Φ u w'') : Hits P (callFunc f vs.toArray) w Φ := by
  obtain ⟨fn, h1, h2, h3⟩ := hfn
  obtain ⟨b, hb⟩ := Option.isSome_iff_exists.1 h2
  unfold Hits callFunc
  simp [h1, h3, hb]
  exact k

theorem callA_sound {md : Nat → Option CMode} {orc : Orc} (hm : MdOk P md) (ho : OrcOk P md orc) {f : Nat} {args : List AV} {r : AV} {h' : Heap} {c' : Nat} (e : callA md orc f args h c = some (r, h', c')) (hnp : r.isPan = false) :
    c ≤ c' ∧ ∀ (vs : List Value), Rel ρ F base h w.heap → base ≤ w.heap.size → (∀ k, F k → k < base) → Fr ρ c c' → LR w.heap (FF F h ρ) ρ args vs →
      Hits P (callFunc f vs.toArray) w fun u w' => ∃ ρ', Good ρ F base h w c r h' c' u w' ρ' := by
  unfold callA at e
  split at e
  · cases e
  · -- heap
    rename_i hmd
    obtain ⟨h1, h2⟩ := ho _ _ _ _ _ _ _ e
    exact ⟨h1, fun vs R hb hF fr hl => hits_enter hm hmd rfl (((h2 ρ F base w vs R hb hF fr hl).calls hmd rfl).mono fun e w' x => x.ret hnp)⟩
  · cases e
  · -- the identity
    rename_i hmd
    split at e
    · cases e
      refine ⟨Nat.le_refl _, fun vs R hb hF fr hl => ?_⟩
      obtain ⟨v, vs, rfl, hv, hr⟩ := hl.uncons
      obtain rfl : vs = [] := by have := hr.1; simpa using this
      unfold Hits
      rw [hm f _ hmd v w]
      exact ⟨ρ, good_same R hv⟩
    · cases e
  · -- told, with its memory
    rename_i g hmd
    obtain ⟨hfn, h1⟩ := hm f _ hmd
    obtain ⟨h1, h2⟩ := h1 _ _ _ _ _ _ e
    exact ⟨h1, fun vs R hb hF fr hl => hits_told hfn ((h2 ρ F base w vs R hb hF fr hl).mono fun e w' x => x.ret hnp)⟩
  · -- told
    rename_i g hmd
    replace e := Option.bind_eq_some_iff.mp e; obtain ⟨as, h1, e⟩ := e
    replace e := Option.bind_eq_some_iff.mp e; obtain ⟨r1, h2, e⟩ := e
    split at e
    · cases e
      refine ⟨Nat.le_refl _, fun vs R hb hF fr hl => ?_⟩
      obtain ⟨h4, h5⟩ := mapM_some h1
      have hargs : LR w.heap (fun _ => False) (fun _ => none) as vs := by
        refine ⟨by rw [hl.1, h4], fun i y hy => ?_⟩
        obtain ⟨x, hx, hf⟩ := h5 i y hy
        obtain ⟨v, hv, hr⟩ := hl.2 i x hx
        exact ⟨v, hv, (frz_sound R hF _ x y v hr hf).mono (Mv.less _ (fun _ h => h.elim)) (Sub.refl _)⟩
      refine Hits.mono (hm f _ hmd as r h2 w vs (Nat.le_trans R.gb hb) R.gl hargs) fun u w' ⟨hu, bel⟩ => ?_
      obtain ⟨rk, mk⟩ := R.keep (fun k hk => bel.block k hk) bel.size
      exact ⟨ρ, rk, hu _ _ _, fun _ _ => rfl, mk, bel.mono hb⟩
    · cases e
  · -- own
    rename_i hmd
    obtain ⟨⟨r1, h1, c1⟩, hx, e⟩ := Option.bind_eq_some_iff.mp e
    simp only at e
    have hnp1 : r1.isPan = false := by
      cases hp : r1.isPan
      · rfl
      · rw [hp] at e; simp at e
    rw [hnp1] at e
    simp only [Bool.false_eq_true, if_false, Option.some.injEq] at e
    cases e
    obtain ⟨g1, g2⟩ := ho _ _ _ _ _ _ _ hx
    refine ⟨g1, fun vs R hb hF fr hl => hits_enter hm hmd rfl ?_⟩
    have hF2 : ∀ k, FF F h ρ k → k < w.heap.size := by
      rintro k (hk | ⟨l, b, p, hl, hp, rfl⟩)
      · have := hF k hk; omega
      · exact R.bd l p hp
    refine ((g2 ρ (FF F h ρ) w.heap.size w vs (Rel.empty _ _ R.bd (Nat.le_trans R.gb hb) R.gl) (Nat.le_refl _) hF2 fr (by rw [FF_empty]; exact hl)).calls hmd rfl).mono ?_
    intro e w' hends
    obtain ⟨u, rfl, ρ', g⟩ := hends.ret hnp
    refine ⟨u, rfl, ρ', ?_⟩
    have sub := g.sub fr
    have new : ∀ {l : Nat} {b : Blk}, h1 l = some b → c ≤ l ∧ l < c' := by
      intro l b hlb
      obtain ⟨p, hp, _, hp2, _⟩ := g.rel.lt hlb
      by_cases hin : c ≤ l ∧ l < c'
      · exact hin
      · rw [g.out l hin] at hp
        have := R.bd l p hp
        omega
    have old : ∀ {l : Nat} {b : Blk}, h l = some b → ¬ (c ≤ l ∧ l < c') ∧ h1 l = none := by
      intro l b hlb
      have hn : ¬ (c ≤ l ∧ l < c') := by
        rintro ⟨h3, h4⟩
        obtain ⟨p, hp, _⟩ := R.lt hlb
        rw [fr l h3 h4] at hp
        cases hp
      refine ⟨hn, ?_⟩
      cases h5 : h1 l with
      | none => rfl
      | some b' => exact absurd (new h5) hn
    have hcut : h1.cut c c' = h1 := by
      funext l
      unfold Heap.cut
      by_cases hin : c ≤ l ∧ l < c'
      · rw [if_pos hin]
      · rw [if_neg hin]
        cases h5 : h1 l with
        | none => rfl
        | some b => exact absurd (new h5) hin
    rw [hcut]
    have hFF : FF (FF F h ρ) h1 ρ' = FF F (h1.over h) ρ' := by
      funext k
      apply propext
      constructor
      · rintro ((hk | ⟨l, b, p, hl, hp, rfl⟩) | ⟨l, b, p, hl, hp, rfl⟩)
        · exact .inl hk
        · exact .inr ⟨l, b, p, by simp [Heap.over, (old hl).2, hl], sub _ _ hp, rfl⟩
        · exact .inr ⟨l, b, p, by simp [Heap.over, hl], hp, rfl⟩
      · rintro (hk | ⟨l, b, p, hl, hp, rfl⟩)
        · exact .inl (.inl hk)
        · unfold Heap.over at hl
          cases h5 : h1 l with
          | some b' => exact .inr ⟨l, b', p, h5, hp, rfl⟩
          | none =>
            rw [h5] at hl
            simp at hl
            rw [g.out l (old hl).1] at hp
            exact .inl (.inr ⟨l, b, p, hl, hp, rfl⟩)
    have mv := g.mv
    rw [FF_empty, hFF] at mv
    refine ⟨⟨fun l b hlb => ?_, fun l l' b b' p p' h3 h4 hne hp hp' => ?_, g.rel.bd, R.gb, g.rel.gl⟩, by rw [← hFF]; exact g.val, g.out, mv, g.bel.mono hb⟩
    · unfold Heap.over at hlb
      cases h5 : h1 l with
      | some b' =>
        rw [h5] at hlb
        simp at hlb
        subst hlb
        obtain ⟨k, o, a1, a2, a3⟩ := g.rel.own l b' h5
        exact ⟨k, o, a1, Nat.le_trans hb a2, by rw [← hFF]; exact a3⟩
      | none =>
        rw [h5] at hlb
        simp at hlb
        obtain ⟨k, o, a1, a2, a3⟩ := R.own l b hlb
        exact ⟨k, o, sub _ _ a1, a2, a3.mono (g.bel.block k a3.lt) mv.toC sub⟩
    · unfold Heap.over at h3 h4
      cases h5 : h1 l with
      | some b1 =>
        cases h6 : h1 l' with
        | some b2 => exact g.rel.inj l l' b1 b2 p p' h5 h6 hne hp hp'
        | none =>
          rw [h6] at h4
          simp at h4
          rw [g.out l' (old h4).1] at hp'
          have := R.bd l' p' hp'
          obtain ⟨q, hq, _, hq2, _⟩ := g.rel.lt h5
          rw [hp] at hq
          cases hq
          omega
      | none =>
        rw [h5] at h3
        simp at h3
        rw [g.out l (old h3).1] at hp
        cases h6 : h1 l' with
        | some b2 =>
          have := R.bd l p hp
          obtain ⟨q, hq, _, hq2, _⟩ := g.rel.lt h6
          rw [hp'] at hq
          cases hq
          omega
        | none =>
          rw [h6] at h4
          simp at h4
          rw [g.out l' (old h4).1] at hp'
          exact R.inj l l' b b' p p' h3 h4 hne hp hp'
  · -- pure
    rename_i hmd
    replace e := Option.bind_eq_some_iff.mp e; obtain ⟨as, h1, e⟩ := e
    replace e := Option.bind_eq_some_iff.mp e; obtain ⟨⟨r1, h2, c1⟩, hx, e⟩ := e
    simp only at e
    replace e := Option.bind_eq_some_iff.mp e; obtain ⟨r', h3, e⟩ := e
    split at e
    · rename_i hcond
      cases e
      obtain ⟨g1, g2⟩ := ho _ _ _ _ _ _ _ hx
      refine ⟨Nat.le_refl _, fun vs R hb hF fr hl => hits_enter hm hmd rfl ?_⟩
      have hF1 : ∀ k, FF F h ρ k → k < w.heap.size := by
        rintro k (hk | ⟨l, b, p, hl, hp, rfl⟩)
        · have := hF k hk; omega
        · exact R.bd l p hp
      -- what may not be taken for unturned by the callee
      obtain ⟨F2, hF2, hargs, hres⟩ : ∃ F2 : Nat → Prop, (∀ k, F2 k → k < w.heap.size) ∧ LR w.heap F2 (fun _ => none) as vs ∧ (F2 = FF F h ρ ∨ flat r = true ∨ okO h2 depth r1 = true) := by
        by_cases hlf : lf.lfs args = true
        · refine ⟨FF F h ρ, hF1, ?_, .inl rfl⟩
          obtain ⟨h4, h5⟩ := mapM_some h1
          refine ⟨by rw [hl.1, h4], fun i y hy => ?_⟩
          obtain ⟨x, hx, hf⟩ := h5 i y hy
          obtain ⟨v, hv, hr⟩ := hl.2 i x hx
          obtain ⟨k1, k2⟩ := frz_lf _ x y v (lfs_mem hlf hx) hf hr
          exact ⟨v, hv, k1.free k2 _⟩
        · refine ⟨fun _ => False, fun _ h => h.elim, ?_, .inr (by simpa [hlf] using hcond)⟩
          obtain ⟨h4, h5⟩ := mapM_some h1
          refine ⟨by rw [hl.1, h4], fun i y hy => ?_⟩
          obtain ⟨x, hx, hf⟩ := h5 i y hy
          obtain ⟨v, hv, hr⟩ := hl.2 i x hx
          exact ⟨v, hv, (frz_sound R hF _ x y v hr hf).mono (Mv.less _ (fun _ h => h.elim)) (Sub.refl _)⟩
      refine ((g2 (fun _ => none) F2 w.heap.size w vs (Rel.empty _ _ (fun l p h => by cases h) (Nat.le_trans R.gb hb) R.gl) (Nat.le_refl _) hF2 (fun _ _ _ => rfl) (by rw [FF_empty]; exact hargs)).calls hmd rfl).mono ?_
      intro e w' hends
      have hr1 : r1.isPan = false := by
        cases r1 <;> first | rfl | cases h3
      obtain ⟨u, rfl, ρ1, g⟩ := hends.ret hr1
      refine ⟨u, rfl, ρ, ?_⟩
      obtain ⟨rk, mk⟩ := R.keep (fun k hk => g.bel.block k hk) g.bel.size
      have hv := frz_sound g.rel hF2 _ _ _ _ g.val h3
      refine ⟨rk, ?_, fun _ _ => rfl, mk, g.bel.mono hb⟩
      rcases hres with rfl | hfl | hok
      · exact hv.mono (Mv.refl _ _) (Sub.none _)
      · exact hv.flat hfl _ _ _
      · exact (frz_own g.rel (FF F h ρ) hF1 _ _ _ _ g.val h3 hok).mono (Mv.refl _ _) (Sub.none _)
    · cases e

theorem frz_nopan {h : Heap} : ∀ (n : Nat) (v v' : AV), frz h n v = some v' → v'.isPan = false
  | 0, _, _, e => by cases e
  | n + 1, v, v', e => by
    unfold frz at e
    cases v <;> (try simp only at e)
    case val => cases e; rfl
    case ifc => cases e; rfl
    case ro => cases e; rfl
    case emp => cases e; rfl
    case fn f cs => cases cs <;> first | (cases e; rfl) | cases e
    case agg cs => obtain ⟨_, _, e⟩ := Option.map_eq_some_iff.mp e; cases e; rfl
    case tup cs => obtain ⟨_, _, e⟩ := Option.map_eq_some_iff.mp e; cases e; rfl
    case sl l sz off len =>
      obtain ⟨es, _, e⟩ := Option.bind_eq_some_iff.mp e
      obtain ⟨_, _, e⟩ := Option.map_eq_some_iff.mp e
      cases e
      rfl
    all_goals cases e

theorem hitsP_told {f : Nat} {vs : List Value} {ch : List PanicEntry} {Ψ : World → Prop} (hfn : ∃ fn, P.funcs[f]? = some fn ∧ fn.body.isSome = true ∧ fn.name ≠ "runtime.NumGoroutine") (k : Calls P f vs.toArray w fun e w'' => e = .panicked ch ∧ Ψ w'') : HitsP P (callFunc f vs.toArray) w ch Ψ := by
  obtain ⟨fn, h1, h2, h3⟩ := hfn
  obtain ⟨b, hb⟩ := Option.isSome_iff_exists.1 h2
  unfold HitsP callFunc
  simp [h1, h3, hb]
  exact k

/-- A call that panics. -/
theorem callA_pan {md : Nat → Option CMode} {orc : Orc} (hm : MdOk P md) (ho : OrcOk P md orc) {f : Nat} {args : List AV} {t : Nat} {k : IntKind} {n : Int} {h' : Heap} {c' : Nat} (e : callA md orc f args h c = some (.pan t k n, h', c')) :
    c ≤ c' ∧ ∀ (vs : List Value), Rel ρ F base h w.heap → base ≤ w.heap.size → (∀ k, F k → k < base) → Fr ρ c c' → LR w.heap (FF F h ρ) ρ args vs →
      HitsP P (callFunc f vs.toArray) w (panChain t k n) fun w' => ∃ ρ', GoodP ρ F base h w c h' c' w' ρ' := by
  unfold callA at e
  split at e
  · cases e
  · -- heap
    rename_i hmd
    obtain ⟨h1, h2⟩ := ho _ _ _ _ _ _ _ e
    refine ⟨h1, fun vs R hb hF fr hl => ?_⟩
    have hfn : ∃ fn, P.funcs[f]? = some fn ∧ fn.body.isSome = true ∧ fn.name ≠ "runtime.NumGoroutine" := hm f _ hmd
    exact hitsP_told hfn (((h2 ρ F base w vs R hb hF fr hl).calls hmd rfl).mono fun e w' x => x.pan)
  · cases e
  · split at e
    · cases e
      refine ⟨Nat.le_refl _, fun vs R hb hF fr hl => ?_⟩
      obtain ⟨v, vs, rfl, hv, hr⟩ := hl.uncons
      cases hv
    · cases e
  · -- told, with its memory
    rename_i g hmd
    obtain ⟨hfn, h1⟩ := hm f _ hmd
    obtain ⟨h1, h2⟩ := h1 _ _ _ _ _ _ e
    exact ⟨h1, fun vs R hb hF fr hl => hitsP_told hfn ((h2 ρ F base w vs R hb hF fr hl).mono fun e w' x => x.pan)⟩
  · obtain ⟨as, h1, e⟩ := Option.bind_eq_some_iff.mp e
    obtain ⟨r1, h2, e⟩ := Option.bind_eq_some_iff.mp e
    split at e
    · rename_i hfl
      cases e
      cases hfl
    · cases e
  · obtain ⟨⟨r1, h1, c1⟩, hx, e⟩ := Option.bind_eq_some_iff.mp e
    simp only at e
    cases hp : r1.isPan
    · rw [hp] at e
      simp only [Bool.false_eq_true, if_false, Option.some.injEq] at e
      cases e
      cases hp
    · rw [hp] at e; simp at e
  · obtain ⟨as, h1, e⟩ := Option.bind_eq_some_iff.mp e
    obtain ⟨⟨r1, h2, c1⟩, hx, e⟩ := Option.bind_eq_some_iff.mp e
    simp only at e
    obtain ⟨r', h3, e⟩ := Option.bind_eq_some_iff.mp e
    split at e
    · cases e
      have := frz_nopan _ _ _ h3
      cases this
    · cases e

end
end Go.Proofs.YtgbdbenepnbajaaGreatDoor.AM
