/- THE SOUNDNESS of the interpreter. -/
import Derived.Test.YtdckleaemkcapaaAmDraw
import Derived.LoopN
namespace Go.Proofs.Ytdckleaemkcapaa.AM
open Go Go.RowKit
set_option linter.unusedVariables false
set_option linter.unusedSimpArgs false

def okC (md : Nat → Option CMode) (nt : Nat) : Code → Bool
  | .skip => true
  | .region _ ops false => dstOk nt ops
  | .region _ ops true => drawOk md nt ops
  | .seq a b => okC md nt a && okC md nt b
  | .cond _ a b => okC md nt a && okC md nt b
  | .block _ b => okC md nt b
  | .loop b => okC md nt b
  | .exit _ => true
  | .ret => true
  | _ => false

def Ex.out : Ex → Exit
  | .normal => .normal
  | .exit i => .exit i
  | .ret => .ret

/-- What a piece of code is shown to do. -/
def CodeOk (P : Program) (nt : Nat) (c : Code) (s : St) (e : Ex) (s' : St) : Prop := s.c ≤ s'.c ∧
  ∀ (ρ : Pls) (F : Nat → Prop) (base : Nat) (a : Act) (w : World), SR nt ρ F base s a w → base ≤ w.heap.size → (∀ k, F k → k < base) → Fr ρ s.c s'.c → ∀ (Q : Exit → Act → World → Prop),
    (∀ ρ' a' w', SR nt ρ' F base s' a' w' → Way F base ρ s.h w s.c ρ' s'.h w' s'.c → Q e.out a' w') → c.wp P Q a w

section
variable {P : Program} {md : Nat → Option CMode} {orc : Orc} {nt : Nat}

theorem iter_sound {b : Code} {f : St → Option (Ex × St)} (hf : ∀ s e s', f s = some (e, s') → CodeOk P nt b s e s') : ∀ (k : Nat) (s : St) (e : Ex) (s' : St), iter f k s = some (e, s') → s.c ≤ s'.c ∧ e ≠ .normal ∧
    ∀ (ρ : Pls) (F : Nat → Prop) (base : Nat) (a : Act) (w : World), SR nt ρ F base s a w → base ≤ w.heap.size → (∀ k, F k → k < base) → Fr ρ s.c s'.c → ∀ (Q : Exit → Act → World → Prop),
      (∀ ρ' a' w', SR nt ρ' F base s' a' w' → Way F base ρ s.h w s.c ρ' s'.h w' s'.c → Q e.out a' w') → Code.rounds P b Q k a w
  | 0, _, _, _, h => by cases h
  | k + 1, s, e, s', h => by
    replace h := Option.bind_eq_some_iff.mp h; obtain ⟨⟨e1, s1⟩, h1, h⟩ := h
    obtain ⟨c1, k1⟩ := hf s e1 s1 h1
    cases e1 with
    | normal =>
      obtain ⟨c2, hne, k2⟩ := iter_sound hf k s1 e s' h
      refine ⟨Nat.le_trans c1 c2, hne, fun ρ F base a w S hb hF fr Q hQ => ?_⟩
      rw [rounds_succ]
      refine k1 ρ F base a w S hb hF (fun l h3 h4 => fr l h3 (by omega)) _ ?_
      intro ρ1 a1 w1 S1 W1
      refine k2 ρ1 F base a1 w1 S1 (Nat.le_trans hb W1.bel.size) hF (W1.fr fr c1) Q ?_
      intro ρ2 a2 w2 S2 W2
      exact hQ ρ2 a2 w2 S2 (W1.trans W2 c1 c2)
    | exit i =>
      cases h
      refine ⟨c1, by simp, fun ρ F base a w S hb hF fr Q hQ => ?_⟩
      rw [rounds_succ]
      exact k1 ρ F base a w S hb hF fr _ hQ
    | ret =>
      cases h
      refine ⟨c1, by simp, fun ρ F base a w S hb hF fr Q hQ => ?_⟩
      rw [rounds_succ]
      exact k1 ρ F base a w S hb hF fr _ hQ

theorem ex_sound (hx : P.follows .mixedOrders = true) (hm : MdOk P md) (ho : OrcOk P orc) (n : Nat) : ∀ (c : Code) (s : St) (e : Ex) (s' : St), okC md nt c = true → exA P md orc n c s = some (e, s') → CodeOk P nt c s e s'
  | .skip, s, e, s', hok, h => by
    cases h
    exact ⟨Nat.le_refl _, fun ρ F base a w S hb hF fr Q hQ => wp_skip (hQ ρ a w S (Way.refl _ _ _ _ _ _))⟩
  | .region id ops false, s, e, s', hok, h => by
    obtain ⟨s1, h1, h⟩ := Option.map_eq_some_iff.mp h
    cases h
    obtain ⟨c1, k1⟩ := reg_sound (nt := nt) hm ho ops.toList (List.range ops.size) s s' (range_get ops) (dstOk_spec hok) h1
    exact ⟨c1, fun ρ F base a w S hb hF fr Q hQ => wp_region (k1 ρ F base a w S hb hF fr Q hQ)⟩
  | .region id ops true, s, e, s', hok, h => by
    obtain ⟨s1, h1, h⟩ := Option.map_eq_some_iff.mp h
    cases h
    obtain ⟨c1, k1⟩ := draw_sound (nt := nt) hx hm ho hok h1
    exact ⟨c1, fun ρ F base a w S hb hF fr Q hQ => k1 ρ F base a w S hb hF fr id Q hQ⟩
  | .seq x y, s, e, s', hok, h => by
    simp only [okC, Bool.and_eq_true] at hok
    replace h := Option.bind_eq_some_iff.mp h; obtain ⟨⟨e1, s1⟩, h1, h⟩ := h
    obtain ⟨c1, k1⟩ := ex_sound hx hm ho n x s e1 s1 hok.1 h1
    cases e1 with
    | normal =>
      obtain ⟨c2, k2⟩ := ex_sound hx hm ho n y s1 e s' hok.2 h
      refine ⟨Nat.le_trans c1 c2, fun ρ F base a w S hb hF fr Q hQ => wp_seq (k1 ρ F base a w S hb hF (fun l h3 h4 => fr l h3 (by omega)) _ ?_)⟩
      intro ρ1 a1 w1 S1 W1
      refine k2 ρ1 F base a1 w1 S1 (Nat.le_trans hb W1.bel.size) hF (W1.fr fr c1) Q ?_
      intro ρ2 a2 w2 S2 W2
      exact hQ ρ2 a2 w2 S2 (W1.trans W2 c1 c2)
    | exit i => cases h; exact ⟨c1, fun ρ F base a w S hb hF fr Q hQ => wp_seq (k1 ρ F base a w S hb hF fr _ hQ)⟩
    | ret => cases h; exact ⟨c1, fun ρ F base a w S hb hF fr Q hQ => wp_seq (k1 ρ F base a w S hb hF fr _ hQ)⟩
  | .cond x y z, s, e, s', hok, h => by
    simp only [okC, Bool.and_eq_true] at hok
    unfold exA condA at h
    split at h
    · rename_i b hb'
      have hc : ∀ {ρ : Pls} {F : Nat → Prop} {base : Nat} {a : Act} {w : World}, SR nt ρ F base s a w → a.eval x = .bool b := by
        intro ρ F base a w S
        have hv := ev_sound S.tmp x
        rw [hb'] at hv
        revert hv
        generalize a.eval x = q
        intro hv
        cases hv
        rfl
      cases b
      · obtain ⟨c1, k1⟩ := ex_sound hx hm ho n z s e s' hok.2 h
        exact ⟨c1, fun ρ F base a w S hb hF fr Q hQ => wp_cond_false (hc S) (k1 ρ F base a w S hb hF fr Q hQ)⟩
      · obtain ⟨c1, k1⟩ := ex_sound hx hm ho n y s e s' hok.1 h
        exact ⟨c1, fun ρ F base a w S hb hF fr Q hQ => wp_cond_true (hc S) (k1 ρ F base a w S hb hF fr Q hQ)⟩
    · cases h
  | .block id b, s, e, s', hok, h => by
    replace h := Option.bind_eq_some_iff.mp h; obtain ⟨⟨e1, s1⟩, h1, h⟩ := h
    obtain ⟨c1, k1⟩ := ex_sound hx hm ho n b s e1 s1 hok h1
    cases e1 with
    | normal => cases h; exact ⟨c1, fun ρ F base a w S hb hF fr Q hQ => wp_block (k1 ρ F base a w S hb hF fr _ hQ)⟩
    | ret => cases h; exact ⟨c1, fun ρ F base a w S hb hF fr Q hQ => wp_block (k1 ρ F base a w S hb hF fr _ hQ)⟩
    | exit i =>
      cases h
      refine ⟨c1, fun ρ F base a w S hb hF fr Q hQ => wp_block (k1 ρ F base a w S hb hF fr _ fun ρ' a' w' S' W' => ?_)⟩
      have := hQ ρ' a' w' S' W'
      unfold Ex.out Exit.inBlock
      by_cases hi : i = id
      · simp only [hi, if_true] at this ⊢; exact this
      · simp only [hi, if_false] at this ⊢; exact this
  | .loop b, s, e, s', hok, h => by
    obtain ⟨c1, _, k1⟩ := iter_sound (fun s e s' h => ex_sound hx hm ho n b s e s' hok h) n s e s' h
    exact ⟨c1, fun ρ F base a w S hb hF fr Q hQ => wp_loop_rounds n (k1 ρ F base a w S hb hF fr Q hQ)⟩
  | .exit id, s, e, s', hok, h => by
    cases h
    exact ⟨Nat.le_refl _, fun ρ F base a w S hb hF fr Q hQ => wp_exit (hQ ρ a w S (Way.refl _ _ _ _ _ _))⟩
  | .ret, s, e, s', hok, h => by
    cases h
    exact ⟨Nat.le_refl _, fun ρ F base a w S hb hF fr Q hQ => wp_ret (hQ ρ a w S (Way.refl _ _ _ _ _ _))⟩
  | .rangeFunc .., _, _, _, hok, _ => by cases hok
  | .scope _, _, _, _, hok, _ => by cases hok
  | .label _, _, _, _, hok, _ => by cases hok
  | .goto _, _, _, _, hok, _ => by cases hok
  | .refuse _, _, _, _, hok, _ => by cases hok

/-- A result's value. -/
def rvS (a : Act) : ResultVar → Sem Value
  | .tmp t => pure (a.tmps.getD t undef)
  | .cell p t => do loadVar t (← asAddr (a.tmps.getD p undef))

/-- The results. -/
theorem res_run {s : St} {ρ : Pls} {F : Nat → Prop} {base : Nat} {a : Act} {w : World} (S : SR nt ρ F base s a w) : ∀ (rs : List ResultVar) (vs : List AV), resA P s rs = some vs →
    ∃ us : List Value, LR w.heap (FF F s.h ρ) ρ vs us ∧ (rs.mapM (rvS a)).run P w = .ok us w
  | [], vs, e => by cases e; exact ⟨[], LR.nil, by simp⟩
  | .tmp t :: rs, vs, e => by
    obtain ⟨r, h1, e⟩ := Option.map_eq_some_iff.mp e
    subst e
    obtain ⟨us, h2, h3⟩ := res_run S rs r h1
    exact ⟨_ :: us, LR.cons (S.tmp t) h2, by simp only [List.mapM_cons, Sem.run_bind, h3, rvS, Sem.run_pure, Result.andThen_ok]⟩
  | .cell p t :: rs, vs, e => by
    replace e := Option.bind_eq_some_iff.mp e; obtain ⟨n, h1, e⟩ := e
    replace e := Option.bind_eq_some_iff.mp e; obtain ⟨ag, h2, e⟩ := e
    split at e
    · cases e
    · rename_i h1'
      replace e := Option.bind_eq_some_iff.mp e; obtain ⟨cs, h3, e⟩ := e
      obtain ⟨r, h4, e⟩ := Option.map_eq_some_iff.mp e
      subst e
      obtain ⟨us, h5, h6⟩ := res_run S rs r h4
      obtain ⟨ad, ws, h7, h8, h9, h10, h11⟩ := ld_sound S.rel (S.tmp p) h3
      refine ⟨_ :: us, LR.cons (mk_sound (ag := ag) h8) h5, ?_⟩
      have hrun := load_run (P := P) (w := w) (a := ad) h1 h2 (fun h => by
        by_cases hn : n = 1
        · exact hn
        · exact absurd ⟨h, hn⟩ h1') (by rw [h8.1, h9]) h11
      simp only [List.mapM_cons, Sem.run_bind, rvS, h7, asAddr, hrun, h6, Sem.run_pure, Result.andThen_ok]

theorem results_run {fn : Func} {s : St} {ρ : Pls} {F : Nat → Prop} {base : Nat} {a : Act} {w : World} (S : SR nt ρ F base s a w) {vs : List AV} (e : resA P s fn.results.toList = some vs) :
    ∃ u, VR w.heap (FF F s.h ρ) ρ (one vs) u ∧ (results fn a.tmps).run P w = .ok u w := by
  obtain ⟨us, h1, h2⟩ := res_run S _ _ e
  have h3 : (results fn a.tmps).run P w = .ok (if h : us.toArray.size = 1 then us.toArray[0] else .tuple us.toArray) w := by
    unfold results
    rw [Sem.run_bind]
    have he : (fun | .tmp t => pure (a.tmps.getD t undef) | .cell p t => do loadVar t (← asAddr (a.tmps.getD p undef)) : ResultVar → Sem Value) = rvS a := by
      funext x; cases x <;> rfl
    have : (fn.results.mapM (rvS a)).run P w = .ok us.toArray w := by
      rw [Array.mapM_eq_mapM_toList, Sem.run_map, h2]
      rfl
    erw [he, this]
    rfl
  refine ⟨_, ?_, h3⟩
  cases vs with
  | nil =>
    have : us = [] := by have := h1.1; simpa using this
    subst this
    exact h1.tup
  | cons v r =>
    cases r with
    | nil =>
      obtain ⟨u, r, rfl, hu, hr⟩ := h1.uncons
      have : r = [] := by have := hr.1; simpa using this
      subst this
      exact hu
    | cons v2 r =>
      have hl : us.toArray.size ≠ 1 := by have := h1.1; simp at this ⊢; omega
      rw [dif_neg hl]
      exact h1.tup

/-- What the functions that may be called must be. -/
def FnsOk (P : Program) (md : Nat → Option CMode) : Prop := ∀ f m, md f = some m → ∃ fn b, P.funcs[f]? = some fn ∧ fn.body = some b ∧ fn.name ≠ "runtime.NumGoroutine" ∧ okC md fn.ntmps b = true

theorem FnsOk.mdOk (h : FnsOk P md) : MdOk P md := fun f m hm => by
  obtain ⟨fn, b, h1, h2, h3, _⟩ := h f m hm
  exact ⟨fn, h1, by rw [h2]; rfl, h3⟩

/-- THE SOUNDNESS. -/
theorem callN_sound (hx : P.follows .mixedOrders = true) (hf : FnsOk P md) : ∀ n, OrcOk P (callN P md n)
  | 0 => fun f args h c r h' c' e => by cases e
  | n + 1 => fun f args h c r h' c' e => by
    replace e := Option.bind_eq_some_iff.mp e; obtain ⟨m, hm, e⟩ := e
    replace e := Option.bind_eq_some_iff.mp e; obtain ⟨fn, hfn, e⟩ := e
    replace e := Option.bind_eq_some_iff.mp e; obtain ⟨b, hb, e⟩ := e
    replace e := Option.bind_eq_some_iff.mp e; obtain ⟨⟨ex, s'⟩, hex, e⟩ := e
    obtain ⟨fn', b', h1, h2, h3, h4⟩ := hf f m hm
    rw [hfn] at h1
    cases h1
    rw [hb] at h2
    cases h2
    obtain ⟨c1, k1⟩ := ex_sound (nt := fn.ntmps) hx hf.mdOk (callN_sound hx hf n) n b _ _ _ h4 hex
    have hres : ∃ vs, resA P s' fn.results.toList = some vs ∧ r = one vs ∧ h' = s'.h ∧ c' = s'.c ∧ (ex = .normal ∨ ex = .ret) := by
      unfold fin at e
      cases ex with
      | exit i => cases e
      | normal =>
        obtain ⟨vs, hvs, e⟩ := Option.map_eq_some_iff.mp e
        cases e
        exact ⟨vs, hvs, rfl, rfl, rfl, .inl rfl⟩
      | ret =>
        obtain ⟨vs, hvs, e⟩ := Option.map_eq_some_iff.mp e
        cases e
        exact ⟨vs, hvs, rfl, rfl, rfl, .inr rfl⟩
    obtain ⟨vs, hvs, rfl, rfl, rfl, hexn⟩ := hres
    refine ⟨c1, fun ρ F base w us R hbase hF fr hl => calls_of_wp hfn hb ?_⟩
    refine k1 ρ F base _ w ⟨R, fun i => ?_, rfl, ?_⟩ hbase hF fr _ ?_
    · simp only [init]
      rcases Nat.lt_or_ge i args.length with hi | hi
      · obtain ⟨v, hv, hr⟩ := hl.2 i _ (List.getElem?_eq_getElem hi)
        have h5 : args.getD i .bad = args[i] := by simp [List.getD, hi]
        have h6 : (us.toArray ++ Array.replicate (fn.ntmps - us.toArray.size) undef).getD i undef = v := by
          have hlt : i < us.length := by rw [hl.1]; exact hi
          rw [Array.getD_eq_getD_getElem?, Array.getElem?_append_left (by simpa using hlt)]
          simp [hv]
        rw [h5, h6]
        exact hr
      · have h5 : args.getD i .bad = .bad := by simp [List.getD, hi]
        rw [h5]
        exact .bad _ _
    · simp
      omega
    · intro ρ' a' w' S' W'
      obtain ⟨u, hu, hrun⟩ := results_run S' hvs
      have hgood : (∃ v, (results fn a'.tmps).run P w' = .ok v w' ∧ ∃ u, Ending.returned v = .returned u ∧ ∃ ρ', Good ρ F base h w c (one vs) s'.h s'.c u w' ρ') :=
        ⟨u, hrun, u, rfl, ρ', S'.rel, hu, W'.out, W'.mv, W'.bel⟩
      rcases hexn with rfl | rfl
      · exact ⟨S'.dfr, hgood⟩
      · exact ⟨S'.dfr, hgood⟩

/-- What 'run' tells of a pure call, the machine does. -/
theorem run_sound (hx : P.follows .mixedOrders = true) (hf : FnsOk P md) {f : Nat} {args : List AV} {r : AV} {h' : Heap} {c' : Nat} (e : run P md f args Heap.none 0 = some (r, h', c')) {w : World} {vs : List Value}
    (hl : LR w.heap (fun _ => False) (fun _ => none) args vs) : Calls P f vs.toArray w fun e w' => (∃ u, e = .returned u ∧ ∃ ρ' , VR w'.heap (FF (fun _ => False) h' ρ') ρ' r u) ∧ Below w.heap.size w w' := by
  obtain ⟨n, hn⟩ := run_some.mp e
  obtain ⟨_, k⟩ := callN_sound hx hf n _ _ _ _ _ _ _ hn
  refine (k (fun _ => none) (fun _ => False) w.heap.size w vs (Rel.empty _ _ (fun l p h => by cases h)) (Nat.le_refl _) (fun _ h => h.elim) (fun _ _ _ => rfl) (by rw [FF_empty]; exact hl)).mono ?_
  rintro e w' ⟨u, rfl, ρ', g⟩
  exact ⟨⟨u, rfl, ρ', g.val⟩, g.bel⟩

end
end Go.Proofs.Ytdckleaemkcapaa.AM
