/- Texts of the proof: part B48. -/
import Derived.Test.YtdckleaemkcapaaB47
set_option maxHeartbeats 0
set_option linter.unusedSimpArgs false
set_option linter.unusedVariables false
set_option linter.unusedSectionVars false
namespace Go.Proofs.Ytdckleaemkcapaa.AM
open Go Go.Proofs
attribute [local simp] AV.cells okc AV.isBad fieldAddrA ld setCells stA skipV appendA hd makeA bnd sliceA kindA freshA killOk loadsAt newT empT lay_get allocA buildA buildRow builtinA lenA els indexAddrA isNil opA evA lit yldA binA binI unA pickA boolV intV fieldA mk flat lf lf.lfs frz
theorem goneA_step {m : Int} {a : Acc} {k : Nat} (hk : k < a.parts.length) : goneA m a (k + 1) = { goneA m a k with parts := (goneA m a k).parts.set k (gone m a.parts[k]) } := by
  unfold goneA
  rw [goneTo_succ m hk]
theorem goneA_same {m : Int} {a : Acc} {k : Nat} (hk : k < a.parts.length) (h : (a.parts[k] == m) = false) : goneA m a (k + 1) = goneA m a k := by
  rw [goneA_step hk]
  have e : gone m a.parts[k] = a.parts[k] := by unfold gone; rw [h]; rfl
  rw [e]
  have hl : k < (goneA m a k).parts.length := by show k < (goneTo m a.parts k).length; rw [goneTo_len]; exact hk
  have e2 : (goneA m a k).parts[k] = a.parts[k] := by
    have hl' : k < (goneTo m a.parts k).length := hl
    have := goneTo_get m a.parts k k
    rw [if_neg (by omega), List.getElem?_eq_getElem hk, List.getElem?_eq_getElem hl'] at this
    exact Option.some.inj this
  rw [← e2, List.set_getElem_self]
theorem goneA_hit {m : Int} {a : Acc} {k : Nat} (hk : k < a.parts.length) (h : (a.parts[k] == m) = true) : goneA m a (k + 1) = { goneA m a k with parts := (goneA m a k).parts.set k (-1) } := by
  rw [goneA_step hk]
  have e : gone m a.parts[k] = -1 := by unfold gone; rw [h]; rfl
  rw [e]
theorem goneTo_ne {m : Int} (hm : m ≠ -1) {l : List Int} (h : ∀ p ∈ l, p ≠ m) (k : Nat) : ∀ p ∈ goneTo m l k, p ≠ m := by
  intro p hp
  obtain ⟨i, hi⟩ := List.getElem?_of_mem hp
  rw [goneTo_get] at hi
  have key : ∀ q, l[i]? = some q → q ≠ m := fun q hq => h q (List.mem_of_getElem? hq)
  split at hi
  · obtain ⟨q, hq, rfl⟩ := Option.map_eq_some_iff.mp hi
    unfold gone
    cases q == m
    · exact key q hq
    · exact fun e => hm e.symm
  · exact key p hi
/-- The start: the account is shut, parts are not gone yet. -/
theorem shut_start {Q : Nat → Prop} {c : Nat} {h h' : Heap} {la : Nat} {v : AV} {accs : List Acc} {book : List Ent} {rows : List (List AV)} (O : Own Q c h la v accs book rows) (M : Mine rows 12) {m : Nat} (hm : m < 12) (hla : h' la = some ⟨5, rows.set m shutC⟩) (hh : ∀ l, l ≠ la → Q l → h' l = h l) :
    Own Q c h' la v (accs.set m shutA) book (rows.set m shutC) ∧ Shut m (rows.set m shutC) (accs.set m shutA) := by
  obtain ⟨a, vp, vl, ha, hrw, hvp, hvl⟩ := O.get hm
  refine ⟨O.upd (a' := shutA) (vp' := .ro false (ints [-1, -1, -1, -1])) (vl' := .ro true []) hm hrw (Nat.le_refl _) hla (fun l hl hin => ?_) rfl rfl (fun l hl => by simp at hl) (fun l hl => by simp at hl) (fun l hl => by simp at hl), ?_⟩
  · rcases hin with hin | ⟨i, f, _, hin⟩
    · exact hh l hl (O.sep3 l hin).2.1
    · exact hh l hl (O.sep2 i f l hin).2.2.1
  · intro j r b hr hb
    rw [List.getElem?_set] at hr hb
    split at hr
    · rename_i e
      subst e
      rw [if_pos rfl] at hb
      split at hr
      · cases hr
        split at hb
        · cases hb
          refine ⟨false, 0, 0, .ro false (ints [-1, -1, -1, -1]), .ro true [], rfl, .inr ⟨true, [], rfl, fun _ => rfl⟩, .inr ⟨⟨false, _, rfl, fun h => by cases h⟩, fun p hp => ?_⟩⟩
          simp [shutA] at hp
          omega
        · cases hb
      · cases hr
    · have hj : j < 12 := by have := (List.getElem?_eq_some_iff.1 hr).1; rw [O.len] at this; exact this
      obtain ⟨o, x, y, vp, vl, e, s1, s2⟩ := M j r hj hr
      exact ⟨o, x, y, vp, vl, e, .inl s2, .inl s1⟩
theorem row_elem {es : List (List AV)} {off n k : Nat} {T : List Int} (h1 : off + n ≤ es.length) (h2 : (es.drop off).take n = ints T) (hk : k < n) {p : Int} (hp : T[k]? = some p) : ∃ hlt : off + k < es.length, es[off + k] = [I p] := by
  have hlt : off + k < es.length := by omega
  refine ⟨hlt, ?_⟩
  have t := congrArg (fun l => l[k]?) h2
  simp only [List.getElem?_take, List.getElem?_drop, List.getElem?_map, if_pos hk, hp, Option.map_some] at t
  rw [List.getElem?_eq_getElem hlt] at t
  exact Option.some.inj t
theorem rshut_to {α : Type} {R : Option α → Prop} (h : Heap) (c : Nat) (K : AV × Heap × Nat → Option α) {Q : Nat → Prop} {p la : Nat} {v : AV} {accs : List Acc} {book : List Ent} {rows : List (List AV)} {m : Nat} {r f x : Int}
    (hp : h p = some ⟨5, [[.sl la 5 0 12, I r, I f, I x, v]]⟩) (nq : ¬ Q p) (O : Own Q c h la v accs book rows) (M : Mine rows 12) (hm : m < 12) (hl4 : ∀ a ∈ accs, a.parts.length = 4)
    (kR : ∀ h' c' rows', (∀ l, ¬ Q l → h' l = h l) → c ≤ c' → Own Q c' h' la v (shutL m accs) book rows' → MineW rows' → R (K (.tup [], h', c'))) :
    R ((callA (mdT tblB) (run Try.prog (mdT tblB)) 79 [.ptr p 0 0, I m] h c).bind K) := by
  rw [call_heap rfl, run_eq, show mdT tblB 79 = some .heap from rfl, Option.bind_some, Try.func79]
  have hla := O.hla
  have hlt : m < rows.length := by rw [O.len]; exact hm
  have hmi : (m : Int) < 12 := by omega
  have hcl := rclosed_c
  obtain ⟨a0, vp0, vl0, ha0, hrw0, _, _⟩ := O.get hm
  have hr0 : rows[m] = [B a0.opn, I a0.cash, I a0.loan, vp0, vl0] := by rw [List.getElem?_eq_getElem hlt] at hrw0; exact Option.some.inj hrw0
  have q1 : ¬ (p = la) := fun e => nq (e ▸ O.sep4.1)
  have q2 : ¬ (la = p) := fun e => q1 e.symm
  simp -implicitDefEqProofs [Try.f79, hp, hla, hlt, hr0, hm, hmi, hcl, q1, q2, obm, Option.bind_assoc]
  obtain ⟨O1, S1⟩ := shut_start (h' := h.put la (some ⟨5, rows.set m shutC⟩)) O M hm (by simp) (fun l hl _ => by simp [hl])
  have X4 : ∀ a ∈ accs.set m shutA, a.parts.length = 4 := by
    intro a ha
    rcases List.mem_or_eq_of_mem_set ha with ha | rfl
    · exact hl4 a ha
    · rfl
  have hshut : shutL m accs = shN m (accs.set m shutA) 12 := rfl
  have hXl : (accs.set m shutA).length = 12 := by rw [List.length_set]; exact O.alen
  have hrl : (rows.set m shutC).length = 12 := by rw [List.length_set]; exact O.len
  revert O1 S1 X4 hshut hXl hrl
  generalize accs.set m shutA = X
  generalize rows.set m shutC = rs
  intro O1 S1 X4 hshut hXl hrl
  refine count_to (R := R) 12 (fun i s => s.t 0 = .ptr p 0 0 ∧ s.t 1 = I m ∧ s.t 4 = I i ∧ s.c = c ∧ s.h p = some ⟨5, [[.sl la 5 0 12, I r, I f, I x, v]]⟩ ∧ (∀ l, ¬ Q l → s.h l = h l) ∧ Own Q c s.h la v (shN m X i) book rs ∧ Shut m rs (shN m X i)) _ ?_ ?_ ?_
  · simp -implicitDefEqProofs [hp, q1]
    exact ⟨fun l hl => by simp [show ¬ (l = la) from fun e => hl (e ▸ O.sep4.1)], O1, S1⟩
  · rintro i ⟨t, h2, c2⟩ ⟨t0, t1, t4, hc, hp2, hfr, O2, S2⟩ hi
    simp only at t0 t1 t4 hc hp2 hfr O2
    subst hc
    have hla2 := O2.hla
    have hii : (i : Int) < 12 := by omega
    have ki : decide ((i : Int) < 12) = true := decide_eq_true hii
    have hiX : i < X.length := by omega
    have hXi : X[i]? = some X[i] := List.getElem?_eq_getElem hiX
    have hSi : (shN m X i)[i]? = some X[i] := by rw [shN_get _ _ i i (Nat.le_refl _)]; exact hXi
    have hl4i := X4 _ (List.getElem_mem hiX)
    have wi : IntKind.i64.wrap ((i : Int) + 1) = ((i + 1 : Nat) : Int) := wrap_succ (by omega)
    have hirs : i < rs.length := by omega
    simp -implicitDefEqProofs [t0, t1, t4, hp2, hla2, ki, obm, Option.bind_assoc, -decide_eq_true_eq]
    refine count_to (R := GoesOn _) 4 (fun k s => s.t 0 = .ptr p 0 0 ∧ s.t 1 = I m ∧ s.t 4 = I i ∧ s.t 5 = I k ∧ s.c = c2 ∧ s.h p = some ⟨5, [[.sl la 5 0 12, I r, I f, I x, v]]⟩ ∧ (∀ l, ¬ Q l → s.h l = h l) ∧ Own Q c2 s.h la v ((shN m X i).set i (goneA m X[i] k)) book rs ∧ Shut m rs ((shN m X i).set i (goneA m X[i] k))) _ ?_ ?_ ?_
    · have e0 : (shN m X i).set i (goneA m X[i] 0) = shN m X i := by
        have : goneA m X[i] 0 = X[i] := by unfold goneA; rw [goneTo_zero]
        rw [this]
        have hl : i < (shN m X i).length := by rw [shN_len]; exact hiX
        rw [List.getElem?_eq_getElem hl] at hSi
        rw [← Option.some.inj hSi, List.set_getElem_self]
      simp -implicitDefEqProofs [t0, t1, t4, hp2, e0]
      exact ⟨hfr, O2, S2⟩
    · rintro k ⟨t, h3, c3⟩ ⟨t0, t1, t4, t5, hc, hp3, hfr3, O3, S3⟩ hk
      simp only at t0 t1 t4 t5 hc hp3 hfr3 O3
      subst hc
      have hla3 := O3.hla
      have hki : (k : Int) < 4 := by omega
      have kk : decide ((k : Int) < 4) = true := decide_eq_true hki
      have wk : IntKind.i64.wrap ((k : Int) + 1) = ((k + 1 : Nat) : Int) := wrap_succ (by omega)
      have hlS : i < (shN m X i).length := by rw [shN_len]; exact hiX
      have hYi : ((shN m X i).set i (goneA m X[i] k))[i]? = some (goneA m X[i] k) := by rw [List.getElem?_set, if_pos rfl, if_pos hlS]
      obtain ⟨a, vp, vl, ha, hrw, hvp, hvl⟩ := O3.get hi
      rw [hYi] at ha
      cases ha
      have hr' : rs[i] = [B X[i].opn, I X[i].cash, I X[i].loan, vp, vl] := by rw [List.getElem?_eq_getElem hirs] at hrw; exact Option.some.inj hrw
      have hkp : k < X[i].parts.length := by omega
      have hgk : (goneA m X[i] k).parts[k]? = some X[i].parts[k] := by
        show (goneTo m X[i].parts k)[k]? = _
        rw [goneTo_get, if_neg (by omega)]
        exact List.getElem?_eq_getElem hkp
      have hg4 : (goneA m X[i] k).parts.length = 4 := by show (goneTo m X[i].parts k).length = 4; rw [goneTo_len]; exact hl4i
      obtain ⟨o', x', y', vp', vl', e', f1, f2⟩ := S3 i _ _ hrw hYi
      simp only [List.cons.injEq, and_true] at e'
      obtain ⟨_, _, _, rfl, rfl⟩ := e'
      rcases f2 with f2 | ⟨⟨z, l, rfl, hz⟩, hne⟩
      · obtain ⟨lq, off, n, rfl⟩ : ∃ l off n, vp = .sl l 1 off n := by
          rcases f2 with h | rfl | rfl
          · exact h
          · have := congrArg List.length (Option.some.inj hvp); simp [hg4] at this
          · have := congrArg List.length (Option.some.inj hvp); simp [hg4] at this
        obtain ⟨BB, b1, b2, b3, b4⟩ := els_sl hvp
        have b5 : n = 4 := by simpa [hg4] using b4.symm
        subst b5
        obtain ⟨hlt3, hcell⟩ := row_elem b2 b3 hk hgk
        have at3 := O3.sep2 i 3 lq ⟨_, _, hrw, rfl, by simp⟩
        have p1 : ¬ (lq = la) := at3.1
        have p2 : ¬ (la = lq) := fun h => p1 h.symm
        have p3 : ¬ (p = lq) := fun e => nq (e ▸ at3.2.2.1)
        have p4 : ¬ (lq = p) := fun e => p3 e.symm
        cases hit : (X[i].parts[k] == (m : Int))
        · simp -implicitDefEqProofs [t0, t1, t4, t5, hp3, hla3, hirs, hr', hi, hii, hki, hk, kk, wk, b1, hlt3, hcell, hit, p1, p2, p3, p4, -decide_eq_true_eq]
          rw [goneA_same hkp hit]
          exact ⟨hfr3, O3, S3⟩
        · simp -implicitDefEqProofs [t0, t1, t4, t5, hp3, hla3, hirs, hr', hi, hii, hki, hk, kk, wk, b1, hlt3, hcell, hit, p1, p2, p3, p4, -decide_eq_true_eq]
          rw [goneA_hit hkp hit]
          have O4 := O3.part (x := -1) (k := k) (h' := h3.put lq (some ⟨BB.sz, BB.es.set (off + k) [I (-1)]⟩)) hi hYi hrw b1 b2 b3 hvl hk (by simp) (fun y hy _ _ => by simp [hy])
          rw [List.set_set] at O4
          have S4 := S3.set (a' := { goneA m X[i] k with parts := (goneA m X[i] k).parts.set k (-1) }) hYi (fun h q hq => by
            rcases List.mem_or_eq_of_mem_set hq with hq | rfl
            · exact h q hq
            · omega)
          rw [List.set_set] at S4
          exact ⟨fun l hl => by simp [show ¬ (l = lq) from fun e => hl (e ▸ at3.2.2.1), hfr3 l hl], O4, S4⟩
      · have hl : l = (goneA m X[i] k).parts := ints_inj (Option.some.inj hvp)
        subst hl
        have hit : (X[i].parts[k] == (m : Int)) = false := by
          have := hne _ (List.mem_of_getElem? hgk)
          simpa using this
        have hkg : k < (goneA m X[i] k).parts.length := by omega
        have hge : (goneA m X[i] k).parts[k] = X[i].parts[k] := by rw [List.getElem?_eq_getElem hkg] at hgk; exact Option.some.inj hgk
        simp -implicitDefEqProofs [t0, t1, t4, t5, hp3, hla3, hirs, hr', hi, hii, hki, hk, kk, wk, hkg, hge, hit, -decide_eq_true_eq]
        rw [goneA_same hkp hit]
        exact ⟨hfr3, O3, S3⟩
    · rintro ⟨t, h3, c3⟩ ⟨t0, t1, t4, t5, hc, hp3, hfr3, O3, S3⟩
      simp only at t0 t1 t4 t5 hc hp3 hfr3 O3
      subst hc
      rw [← shN_succ (m : Int) hXi] at O3 S3
      simp -implicitDefEqProofs [t0, t1, t4, t5, hp3, wi]
      exact ⟨hfr3, O3, S3⟩
  · rintro ⟨t, h2, c2⟩ ⟨t0, t1, t4, hc, hp2, hfr, O2, S2⟩
    simp only at t0 t1 t4 hc hp2 hfr O2
    subst hc
    have hla2 := O2.hla
    simp -implicitDefEqProofs [t0, t1, t4, hp2, hla2]
    rw [← hshut] at O2 S2
    exact kR _ _ _ hfr (Nat.le_refl _) O2 (S2.mineW hrl O2.alen)
end Go.Proofs.Ytdckleaemkcapaa.AM
