/- Texts of the proof: part B49. -/
import Derived.Test.YtdckleaemkcapaaB48
set_option maxHeartbeats 0
set_option linter.unusedSimpArgs false
set_option linter.unusedVariables false
set_option linter.unusedSectionVars false
namespace Go.Proofs.Ytdckleaemkcapaa.AM
open Go Go.Proofs
attribute [local simp] AV.cells okc AV.isBad fieldAddrA ld setCells stA skipV appendA hd makeA bnd sliceA kindA freshA killOk loadsAt newT empT lay_get allocA buildA buildRow builtinA lenA els indexAddrA isNil opA evA lit yldA binA binI unA pickA boolV intV fieldA mk flat lf lf.lfs frz
theorem bshut_to {α : Type} {R : Option α → Prop} (h : Heap) (c : Nat) (K : AV × Heap × Nat → Option α) {Q : Nat → Prop} {la : Nat} {v : AV} {accs : List Acc} {book : List Ent} {rows : List (List AV)} {m : Nat} {r f x : Int}
    (O : Own Q c h la v accs book rows) (M : Mine rows 12) (hm : m < 12) (hl4 : ∀ a ∈ accs, a.parts.length = 4)
    (kR : ∀ h' c' rows', (∀ l, ¬ Q l → h' l = h l) → c ≤ c' → Own Q c' h' la v (shutL m accs) book rows' → MineW rows' → R (K (.tup [], h', c'))) :
    R ((callA (mdT tblB) (run Try.prog (mdT tblB)) 83 [.agg [.sl la 5 0 12, I r, I f, I x, v], I m] h c).bind K) := by
  rw [call_heap rfl, run_eq, show mdT tblB 83 = some .heap from rfl, Option.bind_some, Try.func83]
  have hla := O.hla
  have lc := O.sep4.2
  have hlt : m < rows.length := by rw [O.len]; exact hm
  have hmi : (m : Int) < 12 := by omega
  have hcl := bclosed_c
  obtain ⟨a0, vp0, vl0, ha0, hrw0, _, _⟩ := O.get hm
  have hr0 : rows[m] = [B a0.opn, I a0.cash, I a0.loan, vp0, vl0] := by rw [List.getElem?_eq_getElem hlt] at hrw0; exact Option.some.inj hrw0
  have q1 : ¬ (c = la) := by omega
  have q2 : ¬ (la = c) := by omega
  have hv1 := slv_cells O.bkv
  have hv2 := slv_okc O.bkv
  unfold AV.cells at hv1
  unfold okc at hv2
  simp -implicitDefEqProofs [Try.f83, hla, hlt, hr0, hm, hmi, hcl, q1, q2, hv1, hv2, obm, Option.bind_assoc]
  obtain ⟨O1, S1⟩ := shut_start (h' := (h.put c (some ⟨5, [[.sl la 5 0 12, I r, I f, I x, v]]⟩)).put la (some ⟨5, rows.set m shutC⟩)) (O.frame (h' := h.put c (some ⟨5, [[.sl la 5 0 12, I r, I f, I x, v]]⟩)) (c' := c + 1) (by omega) (fun l _ hl => by simp [show ¬ (l = c) by omega])) M hm (by simp) (fun l hl _ => by simp [hl])
  have hfr1 : ∀ l, ¬ Q l → ((h.put c (some ⟨5, [[.sl la 5 0 12, I r, I f, I x, v]]⟩)).put la (some ⟨5, rows.set m shutC⟩)) l = h l := fun l hl => by simp [show ¬ (l = la) from fun e => hl (e ▸ O.sep4.1), show ¬ (l = c) from fun e => hl (e ▸ O.fr c (Nat.le_refl _))]
  have X4 : ∀ a ∈ accs.set m shutA, a.parts.length = 4 := by
    intro a ha
    rcases List.mem_or_eq_of_mem_set ha with ha | rfl
    · exact hl4 a ha
    · rfl
  have hshut : shutL m accs = shN m (accs.set m shutA) 12 := rfl
  have hXl : (accs.set m shutA).length = 12 := by rw [List.length_set]; exact O.alen
  have hrl : (rows.set m shutC).length = 12 := by rw [List.length_set]; exact O.len
  refine count_to (R := R) 12 (fun i s => s.t 1 = I m ∧ s.t 14 = .sl la 5 0 12 ∧ s.t 15 = I 12 ∧ s.t 16 = I i ∧ c ≤ s.c ∧ (∀ l, ¬ Q l → s.h l = h l) ∧ Own Q s.c s.h la v (shN m (accs.set m shutA) i) book (rows.set m shutC) ∧ Shut m (rows.set m shutC) (shN m (accs.set m shutA) i)) _ ?_ ?_ ?_
  · simp -implicitDefEqProofs
    exact ⟨hfr1, O1, S1⟩
  · revert X4 hshut hXl hrl
    generalize accs.set m shutA = X
    generalize rows.set m shutC = rs
    intro X4 hshut hXl hrl
    rintro i ⟨t, h2, d⟩ ⟨t1, t14, t15, t16, hc, hfr, O2, S2⟩ hi
    simp only at t1 t14 t15 t16 hc hfr O2
    have hla2 := O2.hla
    have hii : (i : Int) < 12 := by omega
    have ki : decide ((i : Int) < 12) = true := decide_eq_true hii
    have hiX : i < X.length := by omega
    have hXi : X[i]? = some X[i] := List.getElem?_eq_getElem hiX
    have hSi : (shN m X i)[i]? = some X[i] := by rw [shN_get _ _ i i (Nat.le_refl _)]; exact hXi
    have hl4i := X4 _ (List.getElem_mem hiX)
    have wi : IntKind.i64.wrap ((i : Int) + 1) = ((i + 1 : Nat) : Int) := wrap_succ (by omega)
    have hirs : i < rs.length := by omega
    have ld : la < d := O2.sep4.2
    have u1 : ¬ (d = la) := by omega
    have u2 : ¬ (la = d) := by omega
    have e0 : (shN m X i).set i (goneA m X[i] 0) = shN m X i := by
      have : goneA m X[i] 0 = X[i] := by unfold goneA; rw [goneTo_zero]
      rw [this]
      have hl : i < (shN m X i).length := by rw [shN_len]; exact hiX
      rw [List.getElem?_eq_getElem hl] at hSi
      rw [← Option.some.inj hSi, List.set_getElem_self]
    obtain ⟨a, vp, vl, ha, hrw, hvp, hvl⟩ := O2.get hi
    rw [hSi] at ha
    cases ha
    have hr' : rs[i] = [B X[i].opn, I X[i].cash, I X[i].loan, vp, vl] := by rw [List.getElem?_eq_getElem hirs] at hrw; exact Option.some.inj hrw
    obtain ⟨o', x', y', vp', vl', e', f1, f2⟩ := S2 i _ _ hrw hSi
    simp only [List.cons.injEq, and_true] at e'
    obtain ⟨_, _, _, rfl, rfl⟩ := e'
    have okl : okc vl = true := by
      rcases f1 with f1 | ⟨z, l, rfl, _⟩
      · exact slv_okc f1
      · rfl
    unfold okc at okl
    rcases f2 with f2 | ⟨⟨z, l, rfl, hz⟩, hne⟩
    · obtain ⟨lq, off, n, rfl⟩ : ∃ l off n, vp = .sl l 1 off n := by
        rcases f2 with h | rfl | rfl
        · exact h
        · have := congrArg List.length (Option.some.inj hvp); simp [hl4i] at this
        · have := congrArg List.length (Option.some.inj hvp); simp [hl4i] at this
      obtain ⟨_, _, _, _, b4⟩ := els_sl hvp
      have b5 : n = 4 := by simpa [hl4i] using b4.symm
      subst b5
      have at3 := O2.sep2 i 3 lq ⟨_, _, hrw, rfl, by simp⟩
      have hqq := at3.2.2.1
      have dq : ¬ (d = lq) := by have := at3.2.2.2; omega
      have dq' : ¬ (lq = d) := fun e => dq e.symm
      simp -implicitDefEqProofs [t1, t14, t15, t16, hla2, hirs, hr', hi, hii, ki, u1, u2, okl, obm, Option.bind_assoc, -decide_eq_true_eq]
      refine count_to (R := GoesOn _) 4 (fun k s => s.t 1 = I m ∧ s.t 5 = .ptr d 0 0 ∧ s.t 14 = .sl la 5 0 12 ∧ s.t 15 = I 12 ∧ s.t 16 = I i ∧ s.t 21 = .sl lq 1 off 4 ∧ s.t 22 = I 4 ∧ s.t 23 = I k ∧ s.c = d + 1 ∧ s.h d = some ⟨5, [[B X[i].opn, I X[i].cash, I X[i].loan, .sl lq 1 off 4, vl]]⟩ ∧ (∀ l, ¬ Q l → s.h l = h l) ∧ Own Q (d + 1) s.h la v ((shN m X i).set i (goneA m X[i] k)) book rs ∧ Shut m rs ((shN m X i).set i (goneA m X[i] k))) _ ?_ ?_ ?_
      · simp -implicitDefEqProofs [t1, t14, t15, t16, e0, u1, u2]
        refine ⟨fun y hy => by simp [show ¬ (y = d) from fun e => hy (e ▸ O2.fr d (Nat.le_refl _)), hfr y hy], O2.frame (by omega) (fun y hq hyc => by simp [show ¬ (y = d) by omega]), S2⟩
      · rintro k ⟨t, h3, c3⟩ ⟨t1, t5, t14, t15, t16, t21, t22, t23, hc3, hd3, hfr3, O3, S3⟩ hk
        simp only at t1 t5 t14 t15 t16 t21 t22 t23 hc3 hd3 hfr3 O3
        subst hc3
        have hki : (k : Int) < 4 := by omega
        have kk : decide ((k : Int) < 4) = true := decide_eq_true hki
        have wk : IntKind.i64.wrap ((k : Int) + 1) = ((k + 1 : Nat) : Int) := wrap_succ (by omega)
        have hlS : i < (shN m X i).length := by rw [shN_len]; exact hiX
        have hYi : ((shN m X i).set i (goneA m X[i] k))[i]? = some (goneA m X[i] k) := by rw [List.getElem?_set, if_pos rfl, if_pos hlS]
        obtain ⟨a, vp2, vl2, ha, hrw2, hvp2, hvl2⟩ := O3.get hi
        rw [hYi] at ha
        cases ha
        rw [hrw] at hrw2
        simp only [Option.some.injEq, List.cons.injEq, and_true] at hrw2
        obtain ⟨_, _, _, rfl, rfl⟩ := hrw2
        have hrw' : rs[i]? = some (rw5 (goneA m X[i] k).opn (goneA m X[i] k).cash (goneA m X[i] k).loan (.sl lq 1 off 4) vl) := hrw
        have hkp : k < X[i].parts.length := by omega
        have hgk : (goneA m X[i] k).parts[k]? = some X[i].parts[k] := by
          show (goneTo m X[i].parts k)[k]? = _
          rw [goneTo_get, if_neg (by omega)]
          exact List.getElem?_eq_getElem hkp
        have hg4 : (goneA m X[i] k).parts.length = 4 := by show (goneTo m X[i].parts k).length = 4; rw [goneTo_len]; exact hl4i
        obtain ⟨BB, b1, b2, b3, b4⟩ := els_sl hvp2
        obtain ⟨hlt3, hcell⟩ := row_elem b2 b3 hk hgk
        cases hit : (X[i].parts[k] == (m : Int))
        · simp -implicitDefEqProofs [t1, t5, t14, t15, t16, t21, t22, t23, hd3, hki, hk, kk, wk, b1, hlt3, hcell, hit, -decide_eq_true_eq]
          rw [goneA_same hkp hit]
          exact ⟨hfr3, O3, S3⟩
        · simp -implicitDefEqProofs [t1, t5, t14, t15, t16, t21, t22, t23, hd3, hki, hk, kk, wk, b1, hlt3, hcell, hit, dq, dq', -decide_eq_true_eq]
          rw [goneA_hit hkp hit]
          have O4 := O3.part (x := -1) (k := k) (h' := h3.put lq (some ⟨BB.sz, BB.es.set (off + k) [I (-1)]⟩)) hi hYi hrw' b1 b2 b3 hvl2 hk (by simp) (fun y hy _ _ => by simp [hy])
          rw [List.set_set] at O4
          have S4 := S3.set (a' := { goneA m X[i] k with parts := (goneA m X[i] k).parts.set k (-1) }) hYi (fun h q hq => by
            rcases List.mem_or_eq_of_mem_set hq with hq | rfl
            · exact h q hq
            · omega)
          rw [List.set_set] at S4
          exact ⟨fun y hy => by simp [show ¬ (y = lq) from fun e => hy (e ▸ hqq), hfr3 y hy], O4, S4⟩
      · rintro ⟨t, h3, c3⟩ ⟨t1, t5, t14, t15, t16, t21, t22, t23, hc3, hd3, hfr3, O3, S3⟩
        simp only at t1 t5 t14 t15 t16 t21 t22 t23 hc3 hd3 hfr3 O3
        subst hc3
        rw [← shN_succ (m : Int) hXi] at O3 S3
        simp -implicitDefEqProofs [t1, t14, t15, t16, t22, t23, wi]
        exact ⟨by omega, hfr3, O3, S3⟩
    · have hl0 : l.length = 4 := by have := congrArg List.length (Option.some.inj hvp); simpa [hl4i] using this
      have hns : ¬ SlV 1 (.ro z (ints l)) := by
        rintro (⟨_, _, _, h⟩ | h | h)
        · cases h
        · cases h
        · simp only [AV.ro.injEq] at h
          have := congrArg List.length h.2
          simp [hl0] at this
      simp -implicitDefEqProofs [t1, t14, t15, t16, hla2, hirs, hr', hi, hii, ki, u1, u2, okl, hl0, obm, Option.bind_assoc, -decide_eq_true_eq]
      refine count_to (R := GoesOn _) 4 (fun k s => s.t 1 = I m ∧ s.t 5 = .ptr d 0 0 ∧ s.t 14 = .sl la 5 0 12 ∧ s.t 15 = I 12 ∧ s.t 16 = I i ∧ s.t 21 = .ro z (ints l) ∧ s.t 22 = I 4 ∧ s.t 23 = I k ∧ s.c = d + 1 ∧ s.h d = some ⟨5, [[B X[i].opn, I X[i].cash, I X[i].loan, .ro z (ints l), vl]]⟩ ∧ (∀ l, ¬ Q l → s.h l = h l) ∧ Own Q (d + 1) s.h la v ((shN m X i).set i (goneA m X[i] k)) book rs ∧ Shut m rs ((shN m X i).set i (goneA m X[i] k))) _ ?_ ?_ ?_
      · simp -implicitDefEqProofs [t1, t14, t15, t16, e0, u1, u2, hl0]
        refine ⟨fun y hy => by simp [show ¬ (y = d) from fun e => hy (e ▸ O2.fr d (Nat.le_refl _)), hfr y hy], O2.frame (by omega) (fun y hq hyc => by simp [show ¬ (y = d) by omega]), S2⟩
      · rintro k ⟨t, h3, c3⟩ ⟨t1, t5, t14, t15, t16, t21, t22, t23, hc3, hd3, hfr3, O3, S3⟩ hk
        simp only at t1 t5 t14 t15 t16 t21 t22 t23 hc3 hd3 hfr3 O3
        subst hc3
        have hki : (k : Int) < 4 := by omega
        have kk : decide ((k : Int) < 4) = true := decide_eq_true hki
        have wk : IntKind.i64.wrap ((k : Int) + 1) = ((k + 1 : Nat) : Int) := wrap_succ (by omega)
        have hlS : i < (shN m X i).length := by rw [shN_len]; exact hiX
        have hYi : ((shN m X i).set i (goneA m X[i] k))[i]? = some (goneA m X[i] k) := by rw [List.getElem?_set, if_pos rfl, if_pos hlS]
        obtain ⟨a, vp2, vl2, ha, hrw2, hvp2, hvl2⟩ := O3.get hi
        rw [hYi] at ha
        cases ha
        rw [hrw] at hrw2
        simp only [Option.some.injEq, List.cons.injEq, and_true] at hrw2
        obtain ⟨_, _, _, rfl, rfl⟩ := hrw2
        have hrw' : rs[i]? = some (rw5 (goneA m X[i] k).opn (goneA m X[i] k).cash (goneA m X[i] k).loan (.ro z (ints l)) vl) := hrw
        have hkp : k < X[i].parts.length := by omega
        have hgk : (goneA m X[i] k).parts[k]? = some X[i].parts[k] := by
          show (goneTo m X[i].parts k)[k]? = _
          rw [goneTo_get, if_neg (by omega)]
          exact List.getElem?_eq_getElem hkp
        have hg4 : (goneA m X[i] k).parts.length = 4 := by show (goneTo m X[i].parts k).length = 4; rw [goneTo_len]; exact hl4i
        have hl : l = (goneA m X[i] k).parts := ints_inj (Option.some.inj hvp2)
        have hkg : k < l.length := by rw [hl]; omega
        have hge : l[k] = X[i].parts[k] := by
          have := hgk
          rw [← hl, List.getElem?_eq_getElem hkg] at this
          exact Option.some.inj this
        have hit : (X[i].parts[k] == (m : Int)) = false := by
          obtain ⟨o', x', y', vp', vl', e', f1, f2⟩ := S3 i _ _ hrw' hYi
          simp only [List.cons.injEq, and_true] at e'
          obtain ⟨_, _, _, rfl, rfl⟩ := e'
          rcases f2 with f2 | ⟨_, hne⟩
          · exact absurd f2 hns
          · have := hne _ (List.mem_of_getElem? hgk)
            simpa using this
        simp -implicitDefEqProofs [t1, t5, t14, t15, t16, t21, t22, t23, hd3, hki, hk, kk, wk, hkg, hge, hit, -decide_eq_true_eq]
        rw [goneA_same hkp hit]
        exact ⟨hfr3, O3, S3⟩
      · rintro ⟨t, h3, c3⟩ ⟨t1, t5, t14, t15, t16, t21, t22, t23, hc3, hd3, hfr3, O3, S3⟩
        simp only at t1 t5 t14 t15 t16 t21 t22 t23 hc3 hd3 hfr3 O3
        subst hc3
        rw [← shN_succ (m : Int) hXi] at O3 S3
        simp -implicitDefEqProofs [t1, t14, t15, t16, t22, t23, wi]
        exact ⟨by omega, hfr3, O3, S3⟩
  · rintro ⟨t, h2, d⟩ ⟨t1, t14, t15, t16, hc, hfr, O2, S2⟩
    simp only at t1 t14 t15 t16 hc hfr O2
    simp -implicitDefEqProofs [t1, t14, t15, t16]
    rw [← hshut] at O2 S2
    exact kR _ _ _ hfr hc O2 (S2.mineW hrl O2.alen)
end Go.Proofs.Ytdckleaemkcapaa.AM
