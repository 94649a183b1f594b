/- THE SOUNDNESS of the interpreter. -/
import Derived.Test.YtgbdbenepnbajaaGreatDoorAmDraw
import Derived.Scope
import Derived.LoopNIn
namespace Go.Proofs.YtgbdbenepnbajaaGreatDoor.AM
open Go Go.RowKit
set_option linter.unusedVariables false
set_option linter.unusedSimpArgs false

theorem stepR_scope {P : Program} {b : Frame} {a : Act} {k : List Item} {cs : List Frame} {w : World} {c : Code} : step P (lone (b.atR a (.code (.scope c) :: k)) cs w) = .next (lone (b.atR a (.code c :: .inScope c :: k)) cs w) :=
  step_lone_go (by simp [stepG, stepG.exec, Frame.atR])
theorem stepR_inScope {P : Program} {b : Frame} {a : Act} {k : List Item} {cs : List Frame} {w : World} {c : Code} : step P (lone (b.atR a (.inScope c :: k)) cs w) = .next (lone (b.atR a k) cs w) :=
  step_lone_go (by simp [stepG, stepG.exec, Frame.atR])
/-- A scope that no jump leads into. -/
theorem wpIn_scope {F : Fence} {n : Nat} {P : Program} {Q : Exit → Act → World → Prop} {a : Act} {w : World} {c : Code} (h : c.wpIn F n P (Exit.noGoto Q) a w) : (Code.scope c).wpIn F n P Q a w := by
  intro b k cs hro hb hr
  have h0 : (lone (b.atR a (.code (.scope c) :: k)) cs w).fenced P F := fenced_calm hb hr rfl
  obtain ⟨e, a₁, w₁, hq, harr⟩ := h b (.inScope c :: k) cs hro hb hr
  cases e with
  | normal => exact ⟨.normal, a₁, w₁, hq, .head h0 stepR_scope (StepsIn.trans harr (.one (fenced_calm hb hr rfl) stepR_inScope))⟩
  | exit id =>
    have hp : ArrivesIn (Machine.fenced P F) P (lone (b.atR a (.code c :: .inScope c :: k)) cs w) b k cs (.exit id) a₁ w₁ :=
      ⟨fun k' hk => harr.1 k' (by simpa [exitTo] using hk), fun hr hk => harr.2 hr (by simpa [exitTo] using hk)⟩
    exact ⟨.exit id, a₁, w₁, hq, .of_steps (.one h0 stepR_scope) hp⟩
  | goto l => exact hq.elim
  | ret => exact ⟨_, a₁, w₁, hq, .of_steps (.one h0 stepR_scope) harr⟩
  | panic ch => exact ⟨_, a₁, w₁, hq, .of_steps (.one h0 stepR_scope) harr⟩
  | outgrown => exact ⟨_, a₁, w₁, hq, .of_steps (.one h0 stepR_scope) harr⟩
/-- Code without a loop over a function and without a drawn order. -/
def plainC : Code → Bool
  | .region _ _ d => !d
  | .seq a b => plainC a && plainC b
  | .cond _ a b => plainC a && plainC b
  | .block _ b => plainC b
  | .loop b => plainC b
  | .scope b => plainC b
  | .rangeFunc .. => false
  | _ => true
/-- What a piece of code is shown to do. -/
def CodeOk (D0 : List Deferred) (P : Program) (rd : Option Nat) (nt n0 : Nat) (c : Code) (s : St) (e : Ex) (s' : St) : Prop := s.c ≤ s'.c ∧
  ∀ (ρ : Pls) (F : Nat → Prop) (base : Nat) (a : Act) (w : World), SR D0 nt n0 ρ F base s a w → base ≤ w.heap.size → (∀ k, F k → k < base) → Fr ρ s.c s'.c → ∀ (Q : Exit → Act → World → Prop),
    (∀ ρ' a' w', SR D0 nt n0 ρ' F base s' a' w' → Way F base ρ s.h w s.c ρ' s'.h w' s'.c → (plainC c = true → a'.defers = a.defers) → Q e.out a' w') → c.wpIn (FR rd) 0 P Q a w

section
variable {P : Program} {md : Nat → Option CMode} {orc : Orc} {D0 : List Deferred} {nt n0 : Nat} {rd : Option Nat}

theorem iter_sound {b : Code} {f : St → Option (Ex × St)} (hf : ∀ s e s', f s = some (e, s') → CodeOk D0 P rd nt n0 b s e s') : ∀ (k : Nat) (s : St) (e : Ex) (s' : St), iter f k s = some (e, s') → s.c ≤ s'.c ∧ e ≠ .normal ∧
    ∀ (ρ : Pls) (F : Nat → Prop) (base : Nat) (a : Act) (w : World), SR D0 nt n0 ρ F base s a w → base ≤ w.heap.size → (∀ k, F k → k < base) → Fr ρ s.c s'.c → ∀ (Q : Exit → Act → World → Prop),
      (∀ ρ' a' w', SR D0 nt n0 ρ' F base s' a' w' → Way F base ρ s.h w s.c ρ' s'.h w' s'.c → (plainC b = true → a'.defers = a.defers) → Q e.out a' w') → Code.roundsIn (FR rd) 0 P b Q k a w
  | 0, _, _, _, h => by cases h
  | k + 1, s, e, s', h => by
    replace h := Option.bind_eq_some_iff.mp h; obtain ⟨⟨e1, s1⟩, h1, h⟩ := h
    obtain ⟨c1, k1⟩ := hf s e1 s1 h1
    cases e1 with
    | normal =>
      obtain ⟨c2, hne, k2⟩ := iter_sound hf k s1 e s' h
      refine ⟨Nat.le_trans c1 c2, hne, fun ρ F base a w S hb hF fr Q hQ => ?_⟩
      rw [roundsIn_succ]
      refine k1 ρ F base a w S hb hF (fun l h3 h4 => fr l h3 (by omega)) _ ?_
      intro ρ1 a1 w1 S1 W1 D1
      refine k2 ρ1 F base a1 w1 S1 (Nat.le_trans hb W1.bel.size) hF (W1.fr fr c1) Q ?_
      intro ρ2 a2 w2 S2 W2 D2
      exact hQ ρ2 a2 w2 S2 (W1.trans W2 c1 c2) (fun h => (D2 h).trans (D1 h))
    | exit i =>
      cases h
      refine ⟨c1, by simp, fun ρ F base a w S hb hF fr Q hQ => ?_⟩
      rw [roundsIn_succ]
      exact k1 ρ F base a w S hb hF fr _ hQ
    | ret =>
      cases h
      refine ⟨c1, by simp, fun ρ F base a w S hb hF fr Q hQ => ?_⟩
      rw [roundsIn_succ]
      exact k1 ρ F base a w S hb hF fr _ hQ
    | pan t k n =>
      cases h
      refine ⟨c1, by simp, fun ρ F base a w S hb hF fr Q hQ => ?_⟩
      rw [roundsIn_succ]
      exact k1 ρ F base a w S hb hF fr _ hQ

theorem lpOf_some {b : Option Blk} {p : LP} (h : lpOf b = some p) : ∃ z ty, b = some ⟨z, [[.lp p.st p.j p.m p.t p.ps p.a p.b]], ty⟩ := by
  unfold lpOf at h
  split at h
  · cases h; exact ⟨_, _, rfl⟩
  · cases h

theorem lp_no {H : Array Obj} {F : Nat → Prop} {ρ : Pls} {st : Nat} {j : Ex} {m : Nat} {t : Nat → AV} {ps : List Nat} {a b : Code} {v : Value} (h : VR H F ρ (.lp st j m t ps a b) v) : False := by cases h

/-- The record that a name leads to. -/
theorem own_lp {ρ : Pls} {F : Nat → Prop} {base : Nat} {h : Heap} {H : Array Obj} {l : Nat} {p : LP} (R : Rel ρ F base h H) (hp : lpOf (h l) = some p) :
    ∃ (k : Nat) (r : Loop) (b : Blk), h l = some b ∧ b.sz = 0 ∧ ρ l = some (k, 0, 0) ∧ base ≤ k ∧ H[k]? = some (.loop r) ∧ r.state = stOf p.st ∧ r.pending = jmp p.j ∧ r.params = p.ps.toArray ∧ r.assign = p.a ∧ r.body = p.b ∧
      p.m ≤ r.tmps.size ∧ ∀ i, VR H (FF F h ρ) ρ (p.t i) (r.tmps.getD i undef) := by
  obtain ⟨z, ty, hb⟩ := lpOf_some hp
  obtain ⟨k, o, h1, h2, h3⟩ := R.own l _ hb
  cases h3 with
  | cells cs T hk hT hd hs hv =>
    obtain ⟨v, _, _, hr⟩ := hv 0 0 _ rfl
    exact (lp_no hr).elim
  | loop st j m t ps a' b' r ho hb' hk hst hj hps ha hbd hm ht =>
    subst ho
    have hz : z = 0 := by cases hb'; rfl
    subst hz
    injection hb' with _ hb' _
    simp only [List.cons.injEq, AV.lp.injEq, and_true] at hb'
    obtain ⟨e1, e2, e3, e4, e5, e6, e7⟩ := hb'
    exact ⟨k, r, _, hb, rfl, h1, h2, hk, by rw [e1]; exact hst, by rw [e2]; exact hj, by rw [e5]; exact hps, by rw [e6]; exact ha, by rw [e7]; exact hbd, by rw [e3]; exact hm, fun i => by rw [e4]; exact ht i⟩
  | map es ents cl ho hb' hk hr hv =>
    unfold mpBlk at hb'
    injection hb' with _ hb' _
    simp at hb'

theorem putObj_size' {w : World} {r : Nat} {o : Obj} : (w.putObj r o).heap.size = w.heap.size := World.putObj_size

/-- A record turns. -/
theorem turn_lp {ρ : Pls} {F : Nat → Prop} {base : Nat} {h : Heap} {w : World} {l k : Nat} {b : Blk} {r r' : Loop} {p : LP} (R : Rel ρ F base h w.heap) (hl : h l = some b) (hz : b.sz = 0) (hρ : ρ l = some (k, 0, 0)) (hk : w.heap[k]? = some (.loop r))
    (hst : r'.state = stOf p.st) (hj : r'.pending = jmp p.j) (hps : r'.params = p.ps.toArray) (ha : r'.assign = p.a) (hbd : r'.body = p.b) (hm : p.m ≤ r'.tmps.size) (ht : ∀ i, VR w.heap (FF F h ρ) ρ (p.t i) (r'.tmps.getD i undef)) :
    Rel ρ F base (h.put l (some p.blk)) (w.putObj k (.loop r')).heap ∧ Mv w.heap (FF F h ρ) (w.putObj k (.loop r')).heap (FF F (h.put l (some p.blk)) ρ) := by
  have hlt := getElem_lt hk
  have h9 := R.writeB (l := l) (c := l) (k := k) (o := 0) (o' := 0) (b := b) (b' := p.blk) (H' := (w.putObj k (.loop r')).heap) hl (by rw [hz]; exact hρ) hlt (fun j hj => World.putObj_heap_other hj)
    (fun cs T fz hc => by rw [hk] at hc; cases hc) World.putObj_size (.inl ⟨rfl, rfl, hz.symm⟩)
    (fun F' ρ' m s => .loop p.st p.j p.m p.t p.ps p.a p.b r' rfl rfl (World.putObj_heap_same hlt) hst hj hps ha hbd hm fun i => (ht i).mono m s)
  have e1 : (fun m => if m = l then some (k, 0, p.blk.sz) else ρ m) = ρ := by
    funext m
    by_cases e : m = l
    · subst e; rw [if_pos rfl, hρ]; rfl
    · rw [if_neg e]
  have e2 : (h.put l none).put l (some p.blk) = h.put l (some p.blk) := by
    funext m
    simp only [Heap.put]
    by_cases e : m = l
    · rw [if_pos e, if_pos e]
    · rw [if_neg e, if_neg e, if_neg e]
  rw [e1, e2] at h9
  exact ⟨h9.1, h9.2.1⟩

theorem Below.putObj {B : Nat} {w : World} {k : Nat} {o : Obj} (h : B ≤ k) : Below B w (w.putObj k o) :=
  ⟨rfl, rfl, rfl, by rw [World.putObj_size]; exact Nat.le_refl _, fun j hj => World.putObj_heap_other (by omega)⟩

theorem MarksL.lt {G : Nat → Prop} {n0 : Nat} {H : Array Obj} : ∀ {ds : List Deferred}, MarksL G n0 H ds → ∀ d ∈ ds, ∀ r, d.target = .collected r → r < H.size
  | d :: ds, ⟨⟨r, h1, h2, h3, h4, h5⟩, h⟩, d', hd, r', e => by
    rcases List.mem_cons.1 hd with rfl | hd
    · rw [h1] at e; cases e; exact getElem_lt h4
    · exact h.lt d' hd r' e

/-- A LOOP OVER A FUNCTION. -/
theorem rng_sound (hm : MdOk P md) (ho : OrcOk P md orc) {g : Operand} {ps : Array Tmp} {a b : Code} {s s' : St} {e : Ex} (hn : rngNt ps.toList a b ≤ nt) (h : rngA md orc (evA s.t g) ps.toList a b s = some (e, s')) :
    CodeOk D0 P none nt n0 (.rangeFunc g ps a b) s e s' := by
  unfold rngA at h
  cases hg : evA s.t g with
  | fn f caps =>
    rw [hg] at h
    simp only at h
    split at h
    · rename_i hmd
      replace h := Option.bind_eq_some_iff.mp h; obtain ⟨⟨r, h2, c2⟩, h1, h⟩ := h
      simp only at h
      have hrp : r.isPan = false := by
        cases hr : r.isPan
        · rfl
        · rw [hr] at h; simp at h
      rw [hrp] at h
      simp only [Bool.false_eq_true, if_false] at h
      replace h := Option.bind_eq_some_iff.mp h; obtain ⟨p, hp, h⟩ := h
      split at h
      · cases h
      · rename_i hst0
        have hst : ¬ p.st = 1 := fun e => hst0 (.inl e)
        have hjp : p.j.isPan = false := by
          cases hj : p.j.isPan
          · rfl
          · exact absurd (.inr hj) hst0
        cases h
        obtain ⟨hc, hk⟩ := ho _ _ _ _ _ _ _ h1
        refine ⟨by simp only; omega, fun ρ F base act w S hb hF fr Q hQ => ?_⟩
        simp only at fr hQ
        have hv := ev_sound S.tmp g
        rw [hg] at hv
        generalize hy : act.eval g = y at hv
        cases hv with
        | fn _ _ _ vs gg hvn hA hV =>
          refine wpIn_rangeFunc fun fn _ => ?_
          let rec0 : Loop := { state := .ready, pending := none, fn, tmps := act.tmps, params := ps, assign := a, body := b, defers := w.heap.size }
          let W0 : World := w.alloc (.deferred (some []))
          let W1 : World := W0.alloc (.loop rec0)
          have hW0 : W0.heap = w.heap.push (.deferred (some [])) := rfl
          have hs0 : W0.heap.size = w.heap.size + 1 := by rw [hW0]; simp
          have hW1 : W1.heap = W0.heap.push (.loop rec0) := rfl
          have hs1 : W1.heap.size = w.heap.size + 2 := by rw [hW1]; simp [hs0]
          obtain ⟨R0, mv0⟩ := S.rel.keep (H' := W0.heap) (fun k hk => by rw [hW0, Array.getElem?_push, if_neg (by omega)]) (by omega)
          have hcn : ρ s.c = none := fr s.c (Nat.le_refl _) (by omega)
          obtain ⟨R1, mv1⟩ := R0.newB (c := s.c) hcn (by omega) (LP.blk ⟨0, .normal, rngNt ps.toList a b, s.t, ps.toList, a, b⟩) (.loop rec0)
            (fun F' ρ' m sub hk => .loop 0 .normal (rngNt ps.toList a b) s.t ps.toList a b rec0 rfl rfl hk rfl rfl (by simp [rec0]) rfl rfl (Nat.le_trans hn S.siz) (fun i => (S.tmp i).mono (mv0.trans m) sub))
          rw [← hW1] at R1 mv1
          rw [hs0] at R1 mv1
          have hblk : (LP.blk ⟨0, .normal, rngNt ps.toList a b, s.t, ps.toList, a, b⟩).sz = 0 := rfl
          rw [hblk] at R1 mv1
          have sub1 : Sub ρ (fun l => if l = s.c then some (w.heap.size + 1, 0, 0) else ρ l) := sub_put hcn
          have fr1 : Fr (fun l => if l = s.c then some (w.heap.size + 1, 0, 0) else ρ l) (s.c + 1) c2 := by
            intro l h3 h4
            simp only
            rw [if_neg (by omega)]
            exact fr l (by omega) h4
          have hargs : LR W1.heap (FF F (s.h.put s.c (some (LP.blk ⟨0, .normal, rngNt ps.toList a b, s.t, ps.toList, a, b⟩))) (fun l => if l = s.c then some (w.heap.size + 1, 0, 0) else ρ l)) (fun l => if l = s.c then some (w.heap.size + 1, 0, 0) else ρ l)
              (.yld s.c :: caps) (.func (.yield (w.heap.size + 1)) #[] #[] :: vs.toList) :=
            LR.cons (.yld _ s.c (w.heap.size + 1) (if_pos rfl)) ⟨by simpa using hvn, fun i x hx => ⟨gg i, by simpa using hA i x hx, (hV i x hx).mono (mv0.trans mv1) sub1⟩⟩
          have hcall := (hk _ F base W1 _ R1 (by omega) hF fr1 hargs).calls hmd rfl
          refine ⟨w.heap.size + 1, [{ target := .collected w.heap.size, args := #[] }], W1, { target := .fn (.func f) vs, args := #[.func (.yield (w.heap.size + 1)) #[] #[]] }, W1, f,
            #[.func (.yield (w.heap.size + 1)) #[] #[]] ++ vs, W1, run_enterLoop_outer fn act.tmps ps a b, ?_, fun _ _ => trivial, ?_, fun hh => (by cases hh), ?_⟩
          · simp [resolve, rangeCall, hy, Deferred.ofValue]
            rfl
          · simp only [invoke]
            simpa using callFunc_run hm hmd rfl _ W1
          · have hl2 : ((.func (.yield (w.heap.size + 1)) #[] #[] : Value) :: vs.toList).toArray = #[.func (.yield (w.heap.size + 1)) #[] #[]] ++ vs := by
              apply Array.ext'; simp
            rw [hl2] at hcall
            refine callsFR (hcall.mono ?_)
            intro e' w3 hends
            obtain ⟨u, rfl, ρ2, G⟩ := hends.ret hrp
            obtain ⟨k, r2, b2, g1, g2, g3, g4, g5, g6, g7, _⟩ := own_lp G.rel hp
            have hplace : ρ2 s.c = some (w.heap.size + 1, 0, 0) := by
              rw [G.out s.c (by omega)]
              exact if_pos rfl
            rw [hplace] at g3
            obtain rfl : w.heap.size + 1 = k := by cases g3; rfl
            have hbusy : r2.state ≠ .busy := by
              rw [g6]
              intro hh
              have : p.st = 1 := by
                revert hh
                generalize p.st = q
                intro hh
                match q, hh with
                | 1, _ => rfl
              exact hst this
            refine ⟨r2.pending, w3.putObj (w.heap.size + 1) (.loop { r2 with state := .exhausted }), run_endLoop g5 hbusy, ?_⟩
            -- the state behind the loop
            obtain ⟨Rk, mvk⟩ := G.rel.kill s.c
            have hnot : ¬ FF F (h2.put s.c none) ρ2 (w.heap.size + 1) := by
              rintro (hf | ⟨m, bm, q, hm', hq, e⟩)
              · have := hF _ hf; omega
              · unfold Heap.put at hm'
                split at hm'
                · cases hm'
                · rename_i hne
                  exact G.rel.inj m s.c bm b2 q _ hm' g1 hne hq hplace e
            obtain ⟨Rt, mvt⟩ := Rk.touch (H' := (w3.putObj (w.heap.size + 1) (.loop { r2 with state := .exhausted })).heap) hnot (fun j hj => World.putObj_heap_other hj) World.putObj_size (fun cs T fz hc => by rw [g5] at hc; cases hc)
            have sub2 : Sub ρ ρ2 := sub1.trans (G.sub fr1)
            have M1 : Mv w.heap (FF F s.h ρ) w3.heap (FF F (h2.put s.c none) ρ2) := (mv0.trans mv1).trans (G.mv.trans mvk)
            have M2 : Mv w.heap (FF F s.h ρ) (w3.putObj (w.heap.size + 1) (.loop { r2 with state := .exhausted })).heap (FF F (h2.put s.c none) ρ2) := by
              refine ⟨fun k hk hf => ?_, fun k cs T fz hk => ?_, ?_⟩
              · obtain ⟨a1, a2⟩ := M1.st k hk hf
                exact ⟨a1, (World.putObj_heap_other (by omega)).trans a2⟩
              · obtain ⟨cs', T', fz', a1, a2⟩ := M1.sz k cs T fz hk
                have := getElem_lt hk
                exact ⟨cs', T', fz', by rw [World.putObj_heap_other (by omega)]; exact a1, a2⟩
              · rw [World.putObj_size]; exact M1.le
            have hmark : ¬ FF F (h2.put s.c none) ρ2 w.heap.size ∧ (w3.putObj (w.heap.size + 1) (.loop { r2 with state := .exhausted })).heap[w.heap.size]? = some (.deferred (some [])) := by
              have hnf : ¬ FF F (s.h.put s.c (some (LP.blk ⟨0, .normal, rngNt ps.toList a b, s.t, ps.toList, a, b⟩))) (fun l => if l = s.c then some (w.heap.size + 1, 0, 0) else ρ l) w.heap.size := by
                rintro (hf | ⟨m, bm, q, hm', hq, e⟩)
                · have := hF _ hf; omega
                · by_cases e1 : m = s.c
                  · simp only [if_pos e1] at hq
                    cases hq
                    simp at e
                  · simp only [if_neg e1] at hq
                    have := S.rel.bd m q hq
                    omega
              obtain ⟨a1, a2⟩ := (G.mv.trans mvk).st w.heap.size (by omega) hnf
              refine ⟨a1, ?_⟩
              rw [World.putObj_heap_other (by omega), a2, hW1, Array.getElem?_push, if_neg (by omega), hW0]
              simp
            have SF : SR D0 nt n0 ρ2 F base ⟨s.t, h2.put s.c none, c2⟩ { act with defers := [{ target := .collected w.heap.size, args := #[] }] ++ act.defers } (w3.putObj (w.heap.size + 1) (.loop { r2 with state := .exhausted })) := by
              obtain ⟨ms, hms, hml⟩ := S.dfr
              refine ⟨Rt, fun i => (S.tmp i).mono M2 sub2, ⟨{ target := .collected w.heap.size, args := #[] } :: ms, by simp only [hms, List.cons_append, List.nil_append], ⟨w.heap.size, rfl, S.n0le, hmark.1, hmark.2, fun d' hd' e => ?_⟩, ?_⟩, Nat.le_trans S.n0le M2.le, S.siz⟩
              · have := hml.lt d' hd' _ e
                omega
              · exact hml.mono fun r h4 h3 _ => M2.st r (getElem_lt h4) h3
            have WF : Way F base ρ s.h w s.c ρ2 (h2.put s.c none) (w3.putObj (w.heap.size + 1) (.loop { r2 with state := .exhausted })) c2 := by
              refine ⟨fun l hl => ?_, M2, ?_⟩
              · rw [G.out l (by omega)]
                exact if_neg (by omega)
              · exact ((((Below.refl base w).alloc hb _).alloc (by show base ≤ W0.heap.size; omega) _).trans G.bel).trans (Below.putObj (by omega))
            have hq := hQ ρ2 _ _ SF WF (fun h => by cases h)
            generalize w3.putObj (w.heap.size + 1) (.loop { r2 with state := .exhausted }) = w4 at hq ⊢
            rw [g7]
            cases hj : p.j with
            | normal => rw [hj] at hq; exact hq
            | exit i => rw [hj] at hq; exact wpIn_exit hq
            | ret => rw [hj] at hq; exact wpIn_ret hq
            | pan t k n => rw [hj] at hjp; cases hjp
    · cases h
  | _ => rw [hg] at h; cases h

theorem ex_sound (hx : P.follows .mixedOrders = true) (hm : MdOk P md) (ho : OrcOk P md orc) (n : Nat) {top : Bool} (htop : top = true → rd = none) : ∀ (c : Code) (s : St) (e : Ex) (s' : St), okG top md nt c = true → exA P md orc n c s = some (e, s') → CodeOk D0 P rd nt n0 c s e s'
  | .skip, s, e, s', hok, h => by
    cases h
    exact ⟨Nat.le_refl _, fun ρ F base a w S hb hF fr Q hQ => wpIn_skip (hQ ρ a w S (Way.refl _ _ _ _ _ _) fun _ => rfl)⟩
  | .region id ops false, s, e, s', hok, h => by
    obtain ⟨c1, k1⟩ := reg_sound (nt := nt) (n0 := n0) (rd := rd) hm ho ops.toList (List.range ops.size) s s' e (range_get ops) (dstOk_spec hok) h
    exact ⟨c1, fun ρ F base a w S hb hF fr Q hQ => wpIn_region (k1 ρ F base a w S hb hF fr Q fun ρ' a' w' S' W' D' => hQ ρ' a' w' S' W' fun _ => D')⟩
  | .region id ops true, s, e, s', hok, h => by
    obtain ⟨s1, h1, h⟩ := Option.map_eq_some_iff.mp h
    cases h
    obtain ⟨c1, k1⟩ := draw_sound (nt := nt) (n0 := n0) (rd := rd) hx hm ho hok h1
    exact ⟨c1, fun ρ F base a w S hb hF fr Q hQ => k1 ρ F base a w S hb hF fr id Q fun ρ' a' w' S' W' => hQ ρ' a' w' S' W' fun h => by cases h⟩
  | .seq x y, s, e, s', hok, h => by
    simp only [okG, Bool.and_eq_true] at hok
    replace h := Option.bind_eq_some_iff.mp h; obtain ⟨⟨e1, s1⟩, h1, h⟩ := h
    obtain ⟨c1, k1⟩ := ex_sound hx hm ho n htop x s e1 s1 hok.1 h1
    cases e1 with
    | normal =>
      obtain ⟨c2, k2⟩ := ex_sound hx hm ho n htop y s1 e s' hok.2 h
      refine ⟨Nat.le_trans c1 c2, fun ρ F base a w S hb hF fr Q hQ => wpIn_seq (k1 ρ F base a w S hb hF (fun l h3 h4 => fr l h3 (by omega)) _ ?_)⟩
      intro ρ1 a1 w1 S1 W1 D1
      refine k2 ρ1 F base a1 w1 S1 (Nat.le_trans hb W1.bel.size) hF (W1.fr fr c1) Q ?_
      intro ρ2 a2 w2 S2 W2 D2
      exact hQ ρ2 a2 w2 S2 (W1.trans W2 c1 c2) (fun h => by simp only [plainC, Bool.and_eq_true] at h; exact (D2 h.2).trans (D1 h.1))
    | exit i => cases h; exact ⟨c1, fun ρ F base a w S hb hF fr Q hQ => wpIn_seq (k1 ρ F base a w S hb hF fr _ fun ρ' a' w' S' W' D' => hQ ρ' a' w' S' W' fun h => by simp only [plainC, Bool.and_eq_true] at h; exact D' h.1)⟩
    | ret => cases h; exact ⟨c1, fun ρ F base a w S hb hF fr Q hQ => wpIn_seq (k1 ρ F base a w S hb hF fr _ fun ρ' a' w' S' W' D' => hQ ρ' a' w' S' W' fun h => by simp only [plainC, Bool.and_eq_true] at h; exact D' h.1)⟩
    | pan t k n => cases h; exact ⟨c1, fun ρ F base a w S hb hF fr Q hQ => wpIn_seq (k1 ρ F base a w S hb hF fr _ fun ρ' a' w' S' W' D' => hQ ρ' a' w' S' W' fun h => by simp only [plainC, Bool.and_eq_true] at h; exact D' h.1)⟩
  | .cond x y z, s, e, s', hok, h => by
    simp only [okG, Bool.and_eq_true] at hok
    unfold exA condA at h
    split at h
    · rename_i b hb'
      have hc : ∀ {ρ : Pls} {F : Nat → Prop} {base : Nat} {a : Act} {w : World}, SR D0 nt n0 ρ F base s a w → a.eval x = .bool b := by
        intro ρ F base a w S
        have hv := ev_sound S.tmp x
        rw [hb'] at hv
        revert hv
        generalize a.eval x = q
        intro hv
        cases hv
        rfl
      cases b
      · obtain ⟨c1, k1⟩ := ex_sound hx hm ho n htop z s e s' hok.2 h
        exact ⟨c1, fun ρ F base a w S hb hF fr Q hQ => wpIn_cond_false (hc S) (k1 ρ F base a w S hb hF fr Q fun ρ' a' w' S' W' D' => hQ ρ' a' w' S' W' fun h => by simp only [plainC, Bool.and_eq_true] at h; exact D' h.2)⟩
      · obtain ⟨c1, k1⟩ := ex_sound hx hm ho n htop y s e s' hok.1 h
        exact ⟨c1, fun ρ F base a w S hb hF fr Q hQ => wpIn_cond_true (hc S) (k1 ρ F base a w S hb hF fr Q fun ρ' a' w' S' W' D' => hQ ρ' a' w' S' W' fun h => by simp only [plainC, Bool.and_eq_true] at h; exact D' h.1)⟩
    · cases h
  | .block id b, s, e, s', hok, h => by
    replace h := Option.bind_eq_some_iff.mp h; obtain ⟨⟨e1, s1⟩, h1, h⟩ := h
    obtain ⟨c1, k1⟩ := ex_sound hx hm ho n htop b s e1 s1 hok h1
    cases e1 with
    | normal => cases h; exact ⟨c1, fun ρ F base a w S hb hF fr Q hQ => wpIn_block (k1 ρ F base a w S hb hF fr _ hQ)⟩
    | ret => cases h; exact ⟨c1, fun ρ F base a w S hb hF fr Q hQ => wpIn_block (k1 ρ F base a w S hb hF fr _ hQ)⟩
    | pan t k n => cases h; exact ⟨c1, fun ρ F base a w S hb hF fr Q hQ => wpIn_block (k1 ρ F base a w S hb hF fr _ hQ)⟩
    | exit i =>
      cases h
      refine ⟨c1, fun ρ F base a w S hb hF fr Q hQ => wpIn_block (k1 ρ F base a w S hb hF fr _ fun ρ' a' w' S' W' => ?_)⟩
      have := hQ ρ' a' w' S' W'
      unfold Ex.out Exit.inBlock
      by_cases hi : i = id
      · simp only [hi, if_true] at this ⊢; exact this
      · simp only [hi, if_false] at this ⊢; exact this
  | .loop b, s, e, s', hok, h => by
    obtain ⟨c1, _, k1⟩ := iter_sound (fun s e s' h => ex_sound hx hm ho n htop b s e s' hok h) n s e s' h
    exact ⟨c1, fun ρ F base a w S hb hF fr Q hQ => wpIn_loop_rounds n (k1 ρ F base a w S hb hF fr Q hQ)⟩
  | .exit id, s, e, s', hok, h => by
    cases h
    exact ⟨Nat.le_refl _, fun ρ F base a w S hb hF fr Q hQ => wpIn_exit (hQ ρ a w S (Way.refl _ _ _ _ _ _) fun _ => rfl)⟩
  | .ret, s, e, s', hok, h => by
    cases h
    exact ⟨Nat.le_refl _, fun ρ F base a w S hb hF fr Q hQ => wpIn_ret (hQ ρ a w S (Way.refl _ _ _ _ _ _) fun _ => rfl)⟩
  | .rangeFunc g ps a b, s, e, s', hok, h => by
    simp only [okG, Bool.and_eq_true, decide_eq_true_eq] at hok
    obtain rfl := htop hok.1
    exact rng_sound hm ho hok.2 h
  | .scope b, s, e, s', hok, h => by
    obtain ⟨c1, k1⟩ := ex_sound hx hm ho n htop b s e s' hok h
    refine ⟨c1, fun ρ F base a w S hb hF fr Q hQ => wpIn_scope (k1 ρ F base a w S hb hF fr _ fun ρ' a' w' S' W' D' => ?_)⟩
    have := hQ ρ' a' w' S' W' D'
    cases e <;> exact this
  | .label l, s, e, s', hok, h => by
    cases h
    exact ⟨Nat.le_refl _, fun ρ F base a w S hb hF fr Q hQ => wpIn_label (hQ ρ a w S (Way.refl _ _ _ _ _ _) fun _ => rfl)⟩
  | .goto _, _, _, _, hok, _ => by cases hok
  | .refuse _, _, _, _, _, h => by cases h

/-- A result's value. -/
def rvS (a : Act) : ResultVar → Sem Value
  | .tmp t => pure (a.tmps.getD t undef)
  | .cell p t => do loadVar t (← asAddr (a.tmps.getD p undef))

/-- The results. -/
theorem res_run {s : St} {ρ : Pls} {F : Nat → Prop} {base : Nat} {a : Act} {w : World} (S : SR D0 nt n0 ρ F base s a w) : ∀ (rs : List ResultVar) (vs : List AV), resA P s rs = some vs →
    ∃ us : List Value, LR w.heap (FF F s.h ρ) ρ vs us ∧ (rs.mapM (rvS a)).run P w = .ok us w
  | [], vs, e => by cases e; exact ⟨[], LR.nil, by simp⟩
  | .tmp t :: rs, vs, e => by
    obtain ⟨r, h1, e⟩ := Option.map_eq_some_iff.mp e
    subst e
    obtain ⟨us, h2, h3⟩ := res_run S rs r h1
    exact ⟨_ :: us, LR.cons (S.tmp t) h2, by simp only [List.mapM_cons, Sem.run_bind, h3, rvS, Sem.run_pure, Result.andThen_ok]⟩
  | .cell p t :: rs, vs, e => by
    replace e := Option.bind_eq_some_iff.mp e; obtain ⟨n, h1, e⟩ := e
    replace e := Option.bind_eq_some_iff.mp e; obtain ⟨ag, h2, e⟩ := e
    split at e
    · cases e
    · rename_i h1'
      replace e := Option.bind_eq_some_iff.mp e; obtain ⟨cs, h3, e⟩ := e
      obtain ⟨r, h4, e⟩ := Option.map_eq_some_iff.mp e
      subst e
      obtain ⟨us, h5, h6⟩ := res_run S rs r h4
      obtain ⟨ad, ws, h7, h8, h9, h10, h11⟩ := ld_sound S.rel (S.tmp p) h3
      refine ⟨_ :: us, LR.cons (mk_sound (ag := ag) h8) h5, ?_⟩
      have hrun := load_run (P := P) (w := w) (a := ad) h1 h2 (fun h => by
        by_cases hn : n = 1
        · exact hn
        · exact absurd ⟨h, hn⟩ h1') (by rw [h8.1, h9]) h11
      simp only [List.mapM_cons, Sem.run_bind, rvS, h7, asAddr, hrun, h6, Sem.run_pure, Result.andThen_ok]

theorem results_run {fn : Func} {s : St} {ρ : Pls} {F : Nat → Prop} {base : Nat} {a : Act} {w : World} (S : SR D0 nt n0 ρ F base s a w) {vs : List AV} (e : resA P s fn.results.toList = some vs) :
    ∃ u, VR w.heap (FF F s.h ρ) ρ (one vs) u ∧ (results fn a.tmps).run P w = .ok u w := by
  obtain ⟨us, h1, h2⟩ := res_run S _ _ e
  have h3 : (results fn a.tmps).run P w = .ok (if h : us.toArray.size = 1 then us.toArray[0] else .tuple us.toArray) w := by
    unfold results
    rw [Sem.run_bind]
    have he : (fun | .tmp t => pure (a.tmps.getD t undef) | .cell p t => do loadVar t (← asAddr (a.tmps.getD p undef)) : ResultVar → Sem Value) = rvS a := by
      funext x; cases x <;> rfl
    have : (fn.results.mapM (rvS a)).run P w = .ok us.toArray w := by
      rw [Array.mapM_eq_mapM_toList, Sem.run_map, h2]
      rfl
    erw [he, this]
    rfl
  refine ⟨_, ?_, h3⟩
  cases vs with
  | nil =>
    have : us = [] := by have := h1.1; simpa using this
    subst this
    exact h1.tup
  | cons v r =>
    cases r with
    | nil =>
      obtain ⟨u, r, rfl, hu, hr⟩ := h1.uncons
      have : r = [] := by have := hr.1; simpa using this
      subst this
      exact hu
    | cons v2 r =>
      have hl : us.toArray.size ≠ 1 := by have := h1.1; simp at this ⊢; omega
      rw [dif_neg hl]
      exact h1.tup

theorem setP_fold {H : Array Obj} {F : Nat → Prop} {ρ : Pls} : ∀ (ps : List Nat) (avs : List AV) (us : List Value) (t : Nat → AV) (T : Array Value), LR H F ρ avs us → ps.length = avs.length → (∀ p ∈ ps, p < T.size) → (∀ i, VR H F ρ (t i) (T.getD i undef)) →
    (∀ i, VR H F ρ (setP t ps avs i) (((ps.zip us).foldl (fun T (p : Nat × Value) => T.setIfInBounds p.1 p.2) T).getD i undef)) ∧ ((ps.zip us).foldl (fun T (p : Nat × Value) => T.setIfInBounds p.1 p.2) T).size = T.size
  | [], avs, us, t, T, hl, hn, hp, ht => ⟨ht, rfl⟩
  | p :: ps, [], us, t, T, hl, hn, hp, ht => by simp at hn
  | p :: ps, v :: avs, us, t, T, hl, hn, hp, ht => by
    obtain ⟨u, us, rfl, hv, hr⟩ := hl.uncons
    simp only [List.zip_cons_cons, List.foldl_cons, setP]
    have hps : p < T.size := hp p (by simp)
    obtain ⟨h1, h2⟩ := setP_fold ps avs us (upd t (some p) v) (T.setIfInBounds p u) hr (by simpa using hn) (fun q hq => by simpa using hp q (by simp [hq])) (fun i => by
      simp only [upd, Array.getD_eq_getD_getElem?, Array.getElem?_setIfInBounds]
      by_cases e : i = p
      · subst e; simp [hps]; exact hv
      · simp only [if_neg e, if_neg (Ne.symm e)]
        have := ht i
        rwa [Array.getD_eq_getD_getElem?] at this)
    exact ⟨h1, by rw [h2]; simp⟩

theorem jmp_none (e : Ex) : (jmp e).isNone = (e == Ex.normal) := by cases e <;> rfl

/-- A ROUND OF A LOOP OVER A FUNCTION. -/
theorem rnd_sound (hx : P.follows .mixedOrders = true) (hm : MdOk P md) (ho : OrcOk P md orc) (n : Nat) {args : List AV} {h : Heap} {c : Nat} {r : AV} {h' : Heap} {c' : Nat} (e : rndA md (exA P md orc n) args h c = some (r, h', c')) : c ≤ c' ∧
    ∀ (ρ : Pls) (F : Nat → Prop) (base : Nat) (w : World) (vs : List Value), Rel ρ F base h w.heap → base ≤ w.heap.size → (∀ k, F k → k < base) → Fr ρ c c' → LR w.heap (FF F h ρ) ρ args vs →
      Rounds P vs w fun e w' => Ends ρ F base h w c r h' c' e w' := by
  unfold rndA at e
  split at e
  · rename_i l avs
    replace e := Option.bind_eq_some_iff.mp e; obtain ⟨p0, hp0, e⟩ := e
    split at e
    · rename_i hcond
      obtain ⟨hlen, hok⟩ := hcond
      unfold rndOk at hok
      simp only [Bool.and_eq_true, List.all_eq_true, decide_eq_true_eq] at hok
      obtain ⟨⟨hoka, hokb⟩, hokp⟩ := hok
      replace e := Option.bind_eq_some_iff.mp e; obtain ⟨⟨e2, s2⟩, hbeg, hend⟩ := e
      replace hbeg := Option.bind_eq_some_iff.mp hbeg; obtain ⟨⟨e1, s1⟩, hasg, hbeg⟩ := hbeg
      cases e1 with
      | exit i => cases hbeg
      | ret => cases hbeg
      | pan t k n => cases hbeg
      | normal =>
        replace hbeg := Option.bind_eq_some_iff.mp hbeg; obtain ⟨p1, hp1, hbody⟩ := hbeg
        split at hbody
        · rename_i hst1
          have hne2 : ∀ t k n, e2 ≠ .pan t k n := by
            intro t k n he2
            subst he2
            cases hend
          have hend2 : (lpOf (s2.h l)).map (fun p => ((AV.val (.bool (e2 == Ex.normal)), s2.h.put l (some { p with st := if e2 == Ex.normal then 0 else 2, j := e2 }.blk), s2.c) : AV × Heap × Nat)) = some (r, h', c') := by
            cases e2 with
            | pan t k n => exact absurd rfl (hne2 t k n)
            | _ => exact hend
          obtain ⟨p2, hp2, hend⟩ := Option.map_eq_some_iff.mp hend2
          cases hend
          have A : ∀ k, CodeOk [] P (some k) p0.m 0 p0.a _ _ _ := fun k => ex_sound (rd := some k) (nt := p0.m) (n0 := 0) hx hm ho n (top := false) (fun h => by cases h) p0.a _ _ _ hoka hasg
          have B : ∀ k, CodeOk [] P (some k) p0.m 0 p0.b _ _ _ := fun k => ex_sound (rd := some k) (nt := p0.m) (n0 := 0) hx hm ho n (top := false) (fun h => by cases h) p0.b _ _ _ hokb hbody
          have cA := (A 0).1
          have cB := (B 0).1
          simp only at cA cB
          refine ⟨by omega, fun ρ F base w vs R hb hF fr hl => ?_⟩
          obtain ⟨v0, us, rfl, hv0, hus⟩ := hl.uncons
          obtain ⟨k, r0, b0, g1, g2, g3, g4, g5, g6, g7, g8, g9, g10, g11, g12⟩ := own_lp R hp0
          have hk0 : v0 = .func (.yield k) #[] #[] := by
            cases hv0 with
            | yld _ _ k' hρ => rw [g3] at hρ; cases hρ; rfl
          subst hk0
          have hul : us.length = avs.length := hus.1
          refine ⟨k, us, r0.fn, _, r0.assign, r0.body, rfl, run_yield g5 (by rw [g8, List.size_toArray, List.size_toArray]; omega), ?_⟩
          have hrl : ρ l = some (k, 0, 0) := g3
          have hout : ¬ (c ≤ l ∧ l < s2.c) := fun hh => by have := fr l hh.1 hh.2; rw [hrl] at this; cases this
          -- the loop's variables
          have hpsb : ∀ q ∈ p0.ps, q < r0.tmps.size := fun q hq => Nat.lt_of_lt_of_le (hokp q hq) g11
          obtain ⟨f1, f2⟩ := setP_fold p0.ps avs us p0.t r0.tmps hus hlen hpsb g12
          have hzip : (r0.params.zip us.toArray).foldl (fun tmps (p : Tmp × Value) => tmps.setIfInBounds p.1 p.2) r0.tmps = (p0.ps.zip us).foldl (fun T (p : Nat × Value) => T.setIfInBounds p.1 p.2) r0.tmps := by
            rw [g8]
            simp
          refine roundIn_of_wpIn (F := Fence.wide) trivial ?_
          rw [← FR_round, g9, g10]
          have S0 : SR [] p0.m 0 ρ F base ⟨setP p0.t p0.ps avs, h, c⟩ { tmps := (r0.params.zip us.toArray).foldl (fun tmps (p : Tmp × Value) => tmps.setIfInBounds p.1 p.2) r0.tmps, defers := [] } w := by
            rw [hzip]
            exact ⟨R, f1, Marks.nil [], Nat.zero_le _, by rw [f2]; exact g11⟩
          refine (A k).2 ρ F base _ w S0 hb hF (fun l h3 h4 => fr l h3 (Nat.lt_of_lt_of_le h4 cB)) _ ?_
          intro ρ1 a1 w1 S1 W1 D1
          obtain ⟨k1, r1, b1, j1, j2, j3, j4, j5, j6, j7, j8, j9, j10, j11, j12⟩ := own_lp S1.rel hp1
          have hp1l : ρ1 l = some (k, 0, 0) := (W1.out l (by simp only; omega)).trans hrl
          rw [hp1l] at j3
          obtain rfl : k = k1 := by cases j3; rfl
          refine ⟨_, run_beginRound j5 (by rw [j6, hst1]; rfl), ?_⟩
          obtain ⟨R2, mv2⟩ := turn_lp (p := { p1 with st := 1 }) (r' := { r1 with state := .busy }) S1.rel j1 j2 hp1l j5 rfl j7 j8 j9 j10 j11 j12
          have S2 : SR [] p0.m 0 ρ1 F base ⟨s1.t, s1.h.put l (some { p1 with st := 1 }.blk), s1.c⟩ a1 (w1.putObj k (.loop { r1 with state := .busy })) :=
            ⟨R2, fun i => (S1.tmp i).mono mv2 (Sub.refl _), S1.dfr.mono fun r h4 h3 => mv2.st r (getElem_lt h4) h3, Nat.zero_le _, S1.siz⟩
          have hb1 : base ≤ w1.heap.size := Nat.le_trans hb W1.bel.size
          refine (B k).2 ρ1 F base a1 _ S2 (by rw [World.putObj_size]; exact hb1) hF (fun l h3 h4 => ?_) _ ?_
          · simp only at h3 h4
            rw [W1.out l (by simp only; omega)]
            exact fr l (by omega) (by omega)
          intro ρ2 a2 w3 S3 W3 _
          simp only at W3
          obtain ⟨k2, r2, b2, i1, i2, i3, i4, i5, i6, i7, i8, i9, i10, i11, i12⟩ := own_lp S3.rel hp2
          have hp2l : ρ2 l = some (k, 0, 0) := (W3.out l (by omega)).trans hp1l
          rw [hp2l] at i3
          obtain rfl : k = k2 := by cases i3; rfl
          obtain ⟨R4, mv4⟩ := turn_lp (p := { p2 with st := if e2 == Ex.normal then 0 else 2, j := e2 }) (r' := { r2 with state := if (jmp e2).isNone then .ready else .done, pending := jmp e2 }) S3.rel i1 i2 hp2l i5
            (by simp only [jmp_none]; cases e2 <;> rfl) rfl i8 i9 i10 i11 i12
          have hrun := run_endRound (P := P) (jmp e2) i5
          refine ?_
          have hgood : ∃ u, Ending.returned (.bool (jmp e2).isNone) = .returned u ∧ ∃ ρ', Good ρ F base h w c (.val (.bool (e2 == Ex.normal))) (s2.h.put l (some { p2 with st := if e2 == Ex.normal then 0 else 2, j := e2 }.blk)) s2.c u
              (w3.putObj k (.loop { r2 with state := if (jmp e2).isNone then .ready else .done, pending := jmp e2 })) ρ' := by
            refine ⟨_, rfl, ρ2, R4, by rw [jmp_none]; exact .val _ _ rfl, fun l' hl' => ?_, (W1.mv.trans mv2).trans (W3.mv.trans mv4), ((W1.bel.trans (Below.putObj j4)).trans W3.bel).trans (Below.putObj i4)⟩
            rw [W3.out l' (by omega), W1.out l' (by simp only; omega)]
          cases e2 with
          | normal => exact ⟨_, _, hrun, .inl hgood⟩
          | exit i => exact ⟨_, _, hrun, .inl hgood⟩
          | ret => exact ⟨_, _, hrun, .inl hgood⟩
          | pan t k n => exact absurd rfl (hne2 t k n)
        · cases hbody
    · cases e
  · cases e

/-- The marks are taken, one by one. -/
theorem leave_marksL {fn : Func} {s : St} {ρ : Pls} {F : Nat → Prop} {base : Nat} {R : Ending → World → Prop} {tmps : Array Value} {u : FrameMode} (hu : u ≠ .run) : ∀ (ms : List Deferred) (w : World), MarksL (FF F s.h ρ) n0 w.heap ms → SR D0 nt n0 ρ F base s ⟨tmps, D0⟩ w → base ≤ n0 →
    (∀ w', SR D0 nt n0 ρ F base s ⟨tmps, D0⟩ w' → Below n0 w w' → w'.heap.size = w.heap.size → LeavesInM Fence.wide 0 P fn tmps R D0 u w') → LeavesInM Fence.wide 0 P fn tmps R (ms ++ D0) u w
  | [], w, _, S, hb, h => h w S (Below.refl _ _) rfl
  | d :: ms, w, ⟨⟨r, h1, h2, h3, h4, h5⟩, h6⟩, S, hb, h => by
    refine ⟨hu, .inl ⟨r, _, h1, run_takeDeferred h4, ?_⟩⟩
    obtain ⟨Rt, mvt⟩ := S.rel.touch (H' := (w.putObj r (.deferred none)).heap) h3 (fun j hj => World.putObj_heap_other hj) World.putObj_size (fun cs T fz hc => by rw [h4] at hc; cases hc)
    refine leave_marksL hu ms _ ?_ ⟨Rt, fun i => (S.tmp i).monoC mvt (Sub.refl _), Marks.nil D0, by rw [World.putObj_size]; exact S.n0le, S.siz⟩ hb ?_
    · refine h6.mono fun r' g1 g2 ⟨d', hd, e⟩ => ⟨g2, World.putObj_heap_other fun e' => ?_⟩
      subst e'
      exact h5 d' hd e
    · intro w' S' hbel hsz
      exact h w' S' ((Below.putObj h2).trans hbel) (hsz.trans World.putObj_size)
theorem leave_marks {fn : Func} {s : St} {ρ : Pls} {F : Nat → Prop} {base : Nat} {R : Ending → World → Prop} {tmps : Array Value} {u : FrameMode} (hu : u ≠ .run) (ds : List Deferred) (w : World) (S : SR D0 nt n0 ρ F base s ⟨tmps, ds⟩ w) (hb : base ≤ n0)
    (h : ∀ w', SR D0 nt n0 ρ F base s ⟨tmps, D0⟩ w' → Below n0 w w' → w'.heap.size = w.heap.size → LeavesInM Fence.wide 0 P fn tmps R D0 u w') : LeavesInM Fence.wide 0 P fn tmps R ds u w := by
  obtain ⟨ms, e, hm⟩ := S.dfr
  simp only at e
  subst e
  exact leave_marksL hu ms w hm ⟨S.rel, S.tmp, Marks.nil D0, S.n0le, S.siz⟩ hb h

/-- What the functions that may be called must be. -/
def FnsOk (P : Program) (md : Nat → Option CMode) : Prop := ∀ f m, md f = some m → match m with
  | .rnd => True
  | .ext g => ExtOk P f g
  | .told g => ToldOk P f g
  | .idt => ∀ (v : Value) (w : World), (callFunc f #[v]).run P w = .ok (.value v) w
  | _ => ∃ fn b, P.funcs[f]? = some fn ∧ fn.body = some b ∧ fn.name ≠ "runtime.NumGoroutine" ∧ okC md fn.ntmps b = true

theorem FnsOk.fn (h : FnsOk P md) {f : Nat} {m : CMode} (hm : md f = some m) (hf : m.fn = true) : ∃ fn b, P.funcs[f]? = some fn ∧ fn.body = some b ∧ fn.name ≠ "runtime.NumGoroutine" ∧ okC md fn.ntmps b = true := by
  have := h f m hm
  cases m <;> first | exact this | cases hf

theorem FnsOk.mdOk (h : FnsOk P md) : MdOk P md := fun f m hm => by
  have h0 := h f m hm
  have fns : m.fn = true → ∃ fn, P.funcs[f]? = some fn ∧ fn.body.isSome = true ∧ fn.name ≠ "runtime.NumGoroutine" := fun hf => by
    obtain ⟨fn, b, h1, h2, h3, _⟩ := h.fn hm hf
    exact ⟨fn, h1, by rw [h2]; rfl, h3⟩
  cases m with
  | rnd => trivial
  | ext g => exact h0
  | told g => exact h0
  | idt => exact h0
  | pure => exact fns rfl
  | own => exact fns rfl
  | heap => exact fns rfl

theorem body_sound (hx : P.follows .mixedOrders = true) (hf : FnsOk P md) {n f : Nat} {m : CMode} (hmd : md f = some m) (hmf : m.fn = true) (ho : OrcOk P md (callN P md n)) {args : List AV} {h : Heap} {c : Nat} {r : AV} {h' : Heap} {c' : Nat}
    (e : (P.funcs[f]?).bind (fun fn => bodyA P md (callN P md n) n fn args h c) = some (r, h', c')) : c ≤ c' ∧
    ∀ (ρ : Pls) (F : Nat → Prop) (base : Nat) (w : World) (vs : List Value), Rel ρ F base h w.heap → base ≤ w.heap.size → (∀ k, F k → k < base) → Fr ρ c c' → LR w.heap (FF F h ρ) ρ args vs →
      Calls P f vs.toArray w fun e w' => Ends ρ F base h w c r h' c' e w' := by
  replace e := Option.bind_eq_some_iff.mp e; obtain ⟨fn, hfn, e⟩ := e
  replace e := Option.bind_eq_some_iff.mp e; obtain ⟨b, hb, e⟩ := e
  replace e := Option.bind_eq_some_iff.mp e; obtain ⟨⟨ex, s'⟩, hex, e⟩ := e
  obtain ⟨fn', b', h1, h2, h3, h4⟩ := hf.fn hmd hmf
  rw [hfn] at h1
  cases h1
  rw [hb] at h2
  cases h2
  have K : ∀ n0, CodeOk [] P none fn.ntmps n0 b _ _ _ := fun n0 => ex_sound (rd := none) (nt := fn.ntmps) (n0 := n0) hx hf.mdOk ho n (top := true) (fun _ => rfl) b _ _ _ h4 hex
  have hres : (∃ vs, resA P s' fn.results.toList = some vs ∧ r = one vs ∧ h' = s'.h ∧ c' = s'.c ∧ (ex = .normal ∨ ex = .ret)) ∨ ∃ t k n, ex = .pan t k n ∧ r = .pan t k n ∧ h' = s'.h ∧ c' = s'.c := by
    unfold fin at e
    cases ex with
    | exit i => cases e
    | normal =>
      obtain ⟨vs, hvs, e⟩ := Option.map_eq_some_iff.mp e
      cases e
      exact .inl ⟨vs, hvs, rfl, rfl, rfl, .inl rfl⟩
    | ret =>
      obtain ⟨vs, hvs, e⟩ := Option.map_eq_some_iff.mp e
      cases e
      exact .inl ⟨vs, hvs, rfl, rfl, rfl, .inr rfl⟩
    | pan t k n => cases e; exact .inr ⟨t, k, n, rfl, rfl, rfl, rfl⟩
  have start : ∀ (ρ : Pls) (F : Nat → Prop) (base : Nat) (w : World) (us : List Value), Rel ρ F base h w.heap → LR w.heap (FF F h ρ) ρ args us →
      SR [] fn.ntmps w.heap.size ρ F base ⟨init args, h, c⟩ { tmps := us.toArray ++ Array.replicate (fn.ntmps - us.toArray.size) undef, defers := [] } w := by
    intro ρ F base w us R hl
    refine ⟨R, fun i => ?_, Marks.nil [], Nat.le_refl _, by simp; omega⟩
    simp only [init]
    rcases Nat.lt_or_ge i args.length with hi | hi
    · obtain ⟨v, hv, hr⟩ := hl.2 i _ (List.getElem?_eq_getElem hi)
      have h5 : args.getD i .bad = args[i] := by simp [List.getD, hi]
      have h6 : (us.toArray ++ Array.replicate (fn.ntmps - us.toArray.size) undef).getD i undef = v := by
        have hlt : i < us.length := by rw [hl.1]; exact hi
        rw [Array.getD_eq_getD_getElem?, Array.getElem?_append_left (by simpa using hlt)]
        simp [hv]
      rw [h5, h6]
      exact hr
    · have h5 : args.getD i .bad = .bad := by simp [List.getD, hi]
      rw [h5]
      exact .bad _ _
  have way : ∀ {ρ : Pls} {F : Nat → Prop} {base : Nat} {w w' w2 : World} {ρ' : Pls}, base ≤ w.heap.size → Way F base ρ h w c ρ' s'.h w' s'.c → Below w.heap.size w' w2 → w2.heap.size = w'.heap.size →
      Mv w.heap (FF F h ρ) w2.heap (FF F s'.h ρ') ∧ Below base w w2 := by
    intro ρ F base w w' w2 ρ' hbase W' hbel hsz
    refine ⟨⟨fun k hk hf => ?_, fun k cs T fz hk => ?_, ?_⟩, W'.bel.trans (hbel.mono hbase)⟩
    · obtain ⟨a1, a2⟩ := W'.mv.st k hk hf
      exact ⟨a1, (hbel.block k hk).trans a2⟩
    · obtain ⟨cs', T', fz', a1, a2⟩ := W'.mv.sz k cs T fz hk
      exact ⟨cs', T', fz', by rw [hbel.block k (getElem_lt hk)]; exact a1, a2⟩
    · rw [hsz]; exact W'.mv.le
  rcases hres with ⟨vs, hvs, rfl, rfl, rfl, hexn⟩ | ⟨t, k, n', rfl, rfl, rfl, rfl⟩
  · refine ⟨(K 0).1, fun ρ F base w us R hbase hF fr hl => (callsIn_wide (n := 0)).1 (callsIn_of_wp_marks hfn hb trivial ?_)⟩
    refine (K w.heap.size).2 ρ F base { tmps := us.toArray ++ Array.replicate (fn.ntmps - us.toArray.size) undef, defers := [] } w (start ρ F base w us R hl) hbase hF fr _ ?_
    intro ρ' a' w' S' W' _
    have hleave : LeavesInM Fence.wide 0 P fn a'.tmps (fun e w' => Ends ρ F base h w c (one vs) s'.h s'.c e w') a'.defers .returning w' := by
      refine leave_marks (n0 := w.heap.size) (by simp) a'.defers w' S' hbase fun w2 S2 hbel hsz => ?_
      obtain ⟨u, hu, hrun⟩ := results_run S2 hvs
      obtain ⟨m1, m2⟩ := way hbase W' hbel hsz
      exact ⟨u, hrun, .inl ⟨u, rfl, ρ', S2.rel, hu, W'.out, m1, m2⟩⟩
    rcases hexn with rfl | rfl
    · exact hleave
    · exact hleave
  · refine ⟨(K 0).1, fun ρ F base w us R hbase hF fr hl => (callsIn_wide (n := 0)).1 (callsIn_of_wp_marks hfn hb trivial ?_)⟩
    refine (K w.heap.size).2 ρ F base { tmps := us.toArray ++ Array.replicate (fn.ntmps - us.toArray.size) undef, defers := [] } w (start ρ F base w us R hl) hbase hF fr _ ?_
    intro ρ' a' w' S' W' _
    show LeavesInM Fence.wide 0 P fn a'.tmps (fun e w' => Ends ρ F base h w c (.pan t k n') s'.h s'.c e w') a'.defers (.panicking (panChain t k n')) w'
    refine leave_marks (n0 := w.heap.size) (by simp) a'.defers w' S' hbase fun w2 S2 hbel hsz => ?_
    obtain ⟨m1, m2⟩ := way hbase W' hbel hsz
    exact .inr ⟨t, k, n', rfl, rfl, ρ', S2.rel, W'.out, m1, m2⟩

/-- THE SOUNDNESS. -/
theorem callN_sound (hx : P.follows .mixedOrders = true) (hf : FnsOk P md) : ∀ n, OrcOk P md (callN P md n)
  | 0 => fun f args h c r h' c' e => by cases e
  | n + 1 => fun f args h c r h' c' e => by
    replace e := Option.bind_eq_some_iff.mp e; obtain ⟨m, hmd, e⟩ := e
    have ho := callN_sound hx hf n
    unfold Meets
    rw [hmd]
    cases m with
    | rnd => exact rnd_sound hx hf.mdOk ho n e
    | ext g => cases e
    | told g => cases e
    | idt => cases e
    | pure => exact body_sound hx hf hmd rfl ho e
    | own => exact body_sound hx hf hmd rfl ho e
    | heap => exact body_sound hx hf hmd rfl ho e

/-- What 'run' tells of a pure call, the machine does. -/
theorem run_sound (hx : P.follows .mixedOrders = true) (hf : FnsOk P md) {f : Nat} {m : CMode} (hmd : md f = some m) (hmf : m.fn = true) {args : List AV} {r : AV} {h' : Heap} {c' : Nat} (e : run P md f args Heap.none 0 = some (r, h', c')) (hnp : r.isPan = false) {w : World} {vs : List Value} (gb : glN ≤ w.heap.size) (gl : glOk w.heap)
    (hl : LR w.heap (fun _ => False) (fun _ => none) args vs) : Calls P f vs.toArray w fun e w' => (∃ u, e = .returned u ∧ ∃ ρ' , VR w'.heap (FF (fun _ => False) h' ρ') ρ' r u) ∧ Below w.heap.size w w' := by
  obtain ⟨n, hn⟩ := run_some.mp e
  obtain ⟨_, k⟩ := callN_sound hx hf n _ _ _ _ _ _ _ hn
  refine ((k (fun _ => none) (fun _ => False) w.heap.size w vs (Rel.empty _ _ (fun l p h => by cases h) gb gl) (Nat.le_refl _) (fun _ h => h.elim) (fun _ _ _ => rfl) (by rw [FF_empty]; exact hl)).calls hmd hmf).mono ?_
  intro e w' hends
  obtain ⟨u, rfl, ρ', g⟩ := hends.ret hnp
  exact ⟨⟨u, rfl, ρ', g.val⟩, g.bel⟩

end
end Go.Proofs.YtgbdbenepnbajaaGreatDoor.AM
