/- Texts of the proof: part B39. -/
import Derived.Test.YtdckleaemkcapaaB38
set_option maxHeartbeats 0
set_option linter.unusedSimpArgs false
set_option linter.unusedVariables false
set_option linter.unusedSectionVars false
namespace Go.Proofs.Ytdckleaemkcapaa.AM
open Go Go.Proofs
attribute [local simp] AV.cells okc AV.isBad fieldAddrA ld setCells stA skipV appendA hd makeA bnd sliceA kindA freshA killOk loadsAt newT empT lay_get allocA buildA buildRow builtinA lenA els indexAddrA isNil opA evA lit yldA binA binI unA pickA boolV intV fieldA mk flat lf lf.lfs frz
theorem bquarter_x (b : Bnk) (w : b.Wfb) (z : Bool) (l : List Int) (hl : l.length ≤ 9223372036854775807) : PostB (quP b l).1 (quP b l).2 (run Try.prog (mdT tblB) 44 [.agg (bc b), .ro z (ints l)] Heap.none 0) := by
  have hk := bval_c b w
  generalize hr : quP b l = r
  unfold quP at hr
  rw [run_eq, show mdT tblB 44 = some .pure from rfl, Option.bind_some, Try.func44]
  by_cases g0 : valP b = 0
  case neg =>
    have g1 : (valP b == 0) = false := by simpa using g0
    have g2 : (valP b != 0) = true := by simp [bne, g1]
    rw [g1] at hr
    simp only [cond_false] at hr
    subst hr
    simp -implicitDefEqProofs [-frz, Try.f44, hk, g2]
    exact post_err _ _ _
  have vb := valid_of g0
  rw [g0] at hk hr
  simp only [BEq.rfl, cond_true] at hr
  cases g3 : ((l.length : Int) != 12)
  case true =>
    rw [g3] at hr
    simp only [cond_true] at hr
    subst hr
    simp -implicitDefEqProofs [-frz, Try.f44, hk, g3]
    exact post_err _ _ _
  rw [g3] at hr
  simp only [cond_false] at hr
  have l12 : l.length = 12 := by simp at g3; omega
  simp -implicitDefEqProofs [-frz, Try.f44, hk, g3, obm, Option.bind_assoc]
  refine scan_list (R := PostB r.1 r.2) l monI (fun j s => s.h 0 = some ⟨5, [bc b]⟩ ∧ s.h 1 = some ⟨5, [noC]⟩ ∧ s.c = 2 ∧ s.t 1 = .ro z (ints l) ∧ s.t 2 = .ptr 0 0 0 ∧ s.t 4 = .ptr 1 0 0 ∧ s.t 21 = .ro z (ints l) ∧ s.t 22 = I l.length ∧ s.t 23 = I j) _ ?_ ?_ ?_ ?_
  · simp
  · rintro j ⟨t, h, c⟩ ⟨h0, h1, hc, t1, t2, t4, ta, tb, tj⟩ hj hp
    simp only at h0 h1 hc t1 t2 t4 ta tb tj
    have k1 : decide ((j : Int) < (l.length : Int)) = true := decide_eq_true (by omega)
    have ws : IntKind.i64.wrap ((j : Int) + 1) = ((j + 1 : Nat) : Int) := wrap_succ (by omega)
    unfold monI at hp
    simp -implicitDefEqProofs [h0, h1, hc, t1, t2, t4, ta, tb, tj, k1, hj, hp, ws, -decide_eq_true_eq]
  · rintro j ⟨t, h, c⟩ ⟨h0, h1, hc, t1, t2, t4, ta, tb, tj⟩ hj hp ha
    simp only at h0 h1 hc t1 t2 t4 ta tb tj
    rw [ha] at hr
    simp only [cond_true] at hr
    subst hr
    have k1 : decide ((j : Int) < (l.length : Int)) = true := decide_eq_true (by omega)
    unfold monI at hp
    simp -implicitDefEqProofs [-frz, h0, h1, hc, t1, t2, t4, ta, tb, tj, k1, hj, hp, -decide_eq_true_eq]
    exact post_err _ _ _
  · rintro ⟨t, h, c⟩ ⟨h0, h1, hc, t1, t2, t4, ta, tb, tj⟩ ha
    simp only at h0 h1 hc t1 t2 t4 ta tb tj
    subst hc
    rw [ha] at hr
    simp only [cond_false] at hr
    subst hr
    have k1 : decide ((l.length : Int) < (l.length : Int)) = false := decide_eq_false (by omega)
    simp -implicitDefEqProofs [-frz, h0, h1, t1, t2, t4, ta, tb, tj, k1, obm, Option.bind_assoc, -decide_eq_true_eq, -decide_eq_false_iff_not]
    refine copy_to (.inr rfl) b vb w _ _ _ ?_
    intro h2 c1 la v rows hc hlow O M
    have h0' : h2 0 = some ⟨5, [bc b]⟩ := by rw [hlow 0 (by omega)]; exact h0
    have h1' : h2 1 = some ⟨5, [noC]⟩ := by rw [hlow 1 (by omega)]; exact h1
    have hv1 := slv_cells O.bkv
    have hv2 := slv_okc O.bkv
    unfold AV.cells at hv1
    unfold okc at hv2
    have lge := O.sep4.1
    have q1 : ¬ (la = 0) := by omega
    have q2 : ¬ (0 = la) := by omega
    have q3 : ¬ (la = 1) := by omega
    have q4 : ¬ (1 = la) := by omega
    simp -implicitDefEqProofs [-frz, h0', h1', hv1, hv2, t1, t2, t4, q1, q2, q3, q4, obm, Option.bind_assoc]
    refine count_round (R := PostB 0 ⟨false, qN b l 12, b.rate, b.infl, b.idx, false, b.book⟩) 12 (fun j s => s.t 1 = .ro z (ints l) ∧ s.t 2 = .ptr 0 0 0 ∧ s.t 4 = .ptr 1 0 0 ∧ s.t 35 = .sl la 5 0 12 ∧ s.t 36 = I 12 ∧ s.t 37 = I j ∧ s.h 0 = some ⟨5, [[.sl la 5 0 12, I b.rate, I b.infl, I b.idx, v]]⟩ ∧ s.h 1 = some ⟨5, [noC]⟩ ∧ ∃ rows, Own (fun l => 2 ≤ l) s.c s.h la v (qN b l j) b.book rows ∧ Mine rows 12) _ ?_ ?_ ?_
    · simp -implicitDefEqProofs [h1', t1, t2, t4]
      exact ⟨rows, Own.frame O (Nat.le_refl _) (fun l hl hlc => by simp [show ¬ (l = 0) by omega]), M⟩
    · rintro j ⟨t, h, c⟩ ⟨t1, t2, t4, ta, tb, tj, k0, k1, rows, O, M⟩ hj
      simp only at t1 t2 t4 ta tb tj k0 k1 O
      have hm : j < 12 := hj
      have hmi : (j : Int) < 12 := by omega
      have k2 : decide ((j : Int) < 12) = true := decide_eq_true hmi
      have hjl : j < l.length := by omega
      have hml : j < b.accs.length := by have := vb.len; omega
      have hlt : j < rows.length := by rw [O.len]; exact hm
      have hla := O.hla
      have ws : IntKind.i64.wrap ((j : Int) + 1) = ((j + 1 : Nat) : Int) := wrap_succ (by omega)
      obtain ⟨a, vp, vl, ha, hrw, hvp, hvl⟩ := O.get hm
      have hqa : (qN b l j)[j]? = some b.accs[j] := by rw [qN_get b l j j (Nat.le_refl _)]; exact List.getElem?_eq_getElem hml
      rw [hqa] at ha
      cases ha
      have hr' : rows[j] = [B b.accs[j].opn, I b.accs[j].cash, I b.accs[j].loan, vp, vl] := by rw [List.getElem?_eq_getElem hlt] at hrw; exact Option.some.inj hrw
      have lge := O.sep4.1
      have lc := O.sep4.2
      have L24 := vb.last _ (List.getElem_mem hml)
      cases go : b.accs[j].opn
      · have nxt : qN b l (j + 1) = qN b l j := qStep_shut hqa go
        simp -implicitDefEqProofs [-frz, t1, t2, t4, ta, tb, tj, k0, k1, k2, hm, hmi, hlt, hla, hr', ws, go, -decide_eq_true_eq]
        rw [nxt]
        exact ⟨rows, O, M⟩
      have nxt : qN b l (j + 1) = (qN b l j).set j { b.accs[j] with last := newLast b.accs[j] l[j] } := by
        have := qStep_open (l := l) hqa go
        rw [List.getElem?_eq_getElem hjl] at this
        exact this
      rw [nxt]
      obtain ⟨sp, sl⟩ := M.get hm hrw
      have hp1 := slv_okc sp
      have hp2 := slv_okc sl
      have hwo : ∀ H c', (∀ x, 2 ≤ x → x < c → H x = h x) → callA (mdT tblB) (run Try.prog (mdT tblB)) 74 [.agg [B true, I b.accs[j].cash, I b.accs[j].loan, vp, vl], I l[j]] H c' = some (I (worthP b.accs[j] l[j]), H, c') := by
        intro H c' hH
        have := worth_o (.inr rfl) b.accs[j] l[j] H c' sp sl (by rw [els_congr (h := h)]; exact hvp; intro x hx; have k := O.sep2 j 3 x ⟨_, vp, hrw, rfl, hx⟩; exact hH x k.2.2.1 k.2.2.2) (by rw [els_congr (h := h)]; exact hvl; intro x hx; have k := O.sep2 j 4 x ⟨_, vl, hrw, rfl, hx⟩; exact hH x k.2.2.1 k.2.2.2)
        rw [go] at this
        exact this
      have wl1 : IntKind.i64.wrap ((b.accs[j].last.length : Int) + 1 - 24) = (b.accs[j].last.length : Int) + 1 - 24 := wrap_id (by omega) (by omega)
      have hmx : (if (24 : Int) < (b.accs[j].last.length : Int) + 1 then (b.accs[j].last.length : Int) + 1 - 24 else 0) = ((b.accs[j].last.length - 23 : Nat) : Int) := by split <;> omega
      have kk1 : ((b.accs[j].last.length - 23 : Nat) : Int) ≤ (b.accs[j].last.length : Int) + 1 := by omega
      have kk2 : b.accs[j].last.length - 23 < b.accs[j].last.length + 1 := by omega
      have kk4 : b.accs[j].last.length ≤ b.accs[j].last.length + 1 + 23 := by omega
      have kk3 : b.accs[j].last.length - 23 ≤ b.accs[j].last.length + 1 := by omega
      have rm1 : (b.accs[j].last.length + 1) * 8 ≤ room := by unfold room; omega
      have rm2 : b.accs[j].last.length + 1 ≤ room := by unfold room; omega
      have rm3 : b.accs[j].last.length * 8 ≤ room := by unfold room; omega
      have rm4 : b.accs[j].last.length ≤ room := by unfold room; omega
      have rm5 : (1 : Nat) * 8 ≤ room := by unfold room; omega
      have rm6 : (1 : Nat) ≤ room := by unfold room; omega
      have hdl := hd_ints b.accs[j].last
      have tk : List.take b.accs[j].last.length (ints b.accs[j].last) = ints b.accs[j].last := List.take_of_length_le (by simp)
      have atp : ∀ x ∈ nm vp, x ≠ la ∧ x ∉ nm v ∧ 2 ≤ x ∧ x < c := fun x hx => O.sep2 j 3 x ⟨_, vp, hrw, rfl, hx⟩
      have atl : ∀ x ∈ nm vl, x ≠ la ∧ x ∉ nm v ∧ 2 ≤ x ∧ x < c := fun x hx => O.sep2 j 4 x ⟨_, vl, hrw, rfl, hx⟩
      have atpl : ∀ x ∈ nm vp, x ∉ nm vl := fun x k1 k2 => by have := O.sep1 j 3 j 4 x ⟨_, vp, hrw, rfl, k1⟩ ⟨_, vl, hrw, rfl, k2⟩; omega
      unfold okc at hp1 hp2
      have wl0 : IntKind.i64.wrap (1 - 24) = -23 := by rfl
      have wl00 : IntKind.i64.wrap (-23) = -23 := by rfl
      rcases sl with ⟨k, off, n, rfl⟩ | rfl | rfl
      · obtain ⟨BB, b1, b2, b3, b4⟩ := els_sl hvl
        have b5 : n = b.accs[j].last.length := by simpa using b4.symm
        subst b5
        obtain ⟨kla, knv, k2l, kc⟩ := atl k (by simp)
        have u199 : ¬ (0 = c) := by omega
        have u200 : ¬ (c = 0) := by omega
        have u201 : ¬ (c ≤ 0) := by omega
        have u202 : ¬ (0 = (c + 1)) := by omega
        have u203 : ¬ ((c + 1) = 0) := by omega
        have u204 : ¬ ((c + 1) ≤ 0) := by omega
        have u205 : ¬ (0 = (c + 1 + 1)) := by omega
        have u206 : ¬ ((c + 1 + 1) = 0) := by omega
        have u207 : ¬ ((c + 1 + 1) ≤ 0) := by omega
        have u208 : ¬ (1 = c) := by omega
        have u209 : ¬ (c = 1) := by omega
        have u210 : ¬ (c ≤ 1) := by omega
        have u211 : ¬ (1 = (c + 1)) := by omega
        have u212 : ¬ ((c + 1) = 1) := by omega
        have u213 : ¬ ((c + 1) ≤ 1) := by omega
        have u214 : ¬ (1 = (c + 1 + 1)) := by omega
        have u215 : ¬ ((c + 1 + 1) = 1) := by omega
        have u216 : ¬ ((c + 1 + 1) ≤ 1) := by omega
        have u217 : ¬ (la = c) := by omega
        have u218 : ¬ (c = la) := by omega
        have u219 : ¬ (c ≤ la) := by omega
        have u220 : ¬ (la = (c + 1)) := by omega
        have u221 : ¬ ((c + 1) = la) := by omega
        have u222 : ¬ ((c + 1) ≤ la) := by omega
        have u223 : ¬ (la = (c + 1 + 1)) := by omega
        have u224 : ¬ ((c + 1 + 1) = la) := by omega
        have u225 : ¬ ((c + 1 + 1) ≤ la) := by omega
        have u226 : ¬ (k = c) := by omega
        have u227 : ¬ (c = k) := by omega
        have u228 : ¬ (c ≤ k) := by omega
        have u229 : ¬ (k = (c + 1)) := by omega
        have u230 : ¬ ((c + 1) = k) := by omega
        have u231 : ¬ ((c + 1) ≤ k) := by omega
        have u232 : ¬ (k = (c + 1 + 1)) := by omega
        have u233 : ¬ ((c + 1 + 1) = k) := by omega
        have u234 : ¬ ((c + 1 + 1) ≤ k) := by omega
        have u235 : ¬ (c = (c + 1)) := by omega
        have u236 : ¬ ((c + 1) = c) := by omega
        have u237 : ¬ ((c + 1) ≤ c) := by omega
        have u238 : c < (c + 1) := by omega
        have u239 : c ≤ (c + 1) := by omega
        have u240 : c < (c + 1) + 1 := by omega
        have u241 : ¬ (c = (c + 1 + 1)) := by omega
        have u242 : ¬ ((c + 1 + 1) = c) := by omega
        have u243 : ¬ ((c + 1 + 1) ≤ c) := by omega
        have u244 : c < (c + 1 + 1) := by omega
        have u245 : c ≤ (c + 1 + 1) := by omega
        have u246 : c < (c + 1 + 1) + 1 := by omega
        have u247 : ¬ ((c + 1) = (c + 1 + 1)) := by omega
        have u248 : ¬ ((c + 1 + 1) = (c + 1)) := by omega
        have u249 : ¬ ((c + 1 + 1) ≤ (c + 1)) := by omega
        have u250 : (c + 1) < (c + 1 + 1) := by omega
        have u251 : (c + 1) ≤ (c + 1 + 1) := by omega
        have u252 : (c + 1) < (c + 1 + 1) + 1 := by omega
        simp -implicitDefEqProofs [-frz, -hd, t1, t2, t4, ta, tb, tj, k0, k1, k2, hm, hmi, hlt, hla, hr', ws, go, q1, q2, q3, q4, hjl, hp1, hp2, wl1, hmx, kk1, kk2, kk3, kk4, max2, show ¬ (0 = k) by omega, show ¬ (1 = k) by omega, show ¬ (k = 0) by omega, show ¬ (k = 1) by omega, kla, Ne.symm kla, b1, b2, b3, hdl, rm1, rm2, rm3, rm4, tk, u199, u200, u201, u202, u203, u204, u205, u206, u207, u208, u209, u210, u211, u212, u213, u214, u215, u216, u217, u218, u219, u220, u221, u222, u223, u224, u225, u226, u227, u228, u229, u230, u231, u232, u233, u234, u235, u236, u237, u238, u239, u240, u241, u242, u243, u244, u245, u246, u247, u248, u249, u250, u251, u252, obm, Option.bind_assoc, -decide_eq_true_eq]
        rw [hwo _ _ (fun x hx hxc => by first | rfl | simp [show ¬ (x = c) by omega, show ¬ (c ≤ x) by omega])]
        simp -implicitDefEqProofs [-frz, -hd, hd, t1, t2, t4, ta, tb, tj, k0, k1, k2, hm, hmi, hlt, hla, hr', ws, go, q1, q2, q3, q4, hjl, hp1, hp2, wl1, hmx, kk1, kk2, kk3, kk4, max2, show ¬ (0 = k) by omega, show ¬ (1 = k) by omega, show ¬ (k = 0) by omega, show ¬ (k = 1) by omega, kla, Ne.symm kla, b1, b2, b3, hdl, rm1, rm2, rm3, rm4, tk, u199, u200, u201, u202, u203, u204, u205, u206, u207, u208, u209, u210, u211, u212, u213, u214, u215, u216, u217, u218, u219, u220, u221, u222, u223, u224, u225, u226, u227, u228, u229, u230, u231, u232, u233, u234, u235, u236, u237, u238, u239, u240, u241, u242, u243, u244, u245, u246, u247, u248, u249, u250, u251, u252, obm, Option.bind_assoc, -decide_eq_true_eq]
        refine O.last (nl := newLast b.accs[j] l[j]) (vl' := .sl (c + 1) 1 (b.accs[j].last.length - 23) (b.accs[j].last.length + 1 - (b.accs[j].last.length - 23))) M hm hrw hvp (by omega) (by simp [u199, u200, u201, u202, u203, u204, u205, u206, u207, u208, u209, u210, u211, u212, u213, u214, u215, u216, u217, u218, u219, u220, u221, u222, u223, u224, u225, u226, u227, u228, u229, u230, u231, u232, u233, u234, u235, u236, u237, u238, u239, u240, u241, u242, u243, u244, u245, u246, u247, u248, u249, u250, u251, u252]) (fun x hx hxl hq hxc => ?_) (els_off (T := b.accs[j].last ++ [worthP b.accs[j] l[j]]) (by simp [show ¬ (0 = k) by omega, show ¬ (1 = k) by omega, show ¬ (k = 0) by omega, show ¬ (k = 1) by omega, kla, Ne.symm kla, b1, b2, b3, hdl, rm1, rm2, rm3, rm4, tk, u199, u200, u201, u202, u203, u204, u205, u206, u207, u208, u209, u210, u211, u212, u213, u214, u215, u216, u217, u218, u219, u220, u221, u222, u223, u224, u225, u226, u227, u228, u229, u230, u231, u232, u233, u234, u235, u236, u237, u238, u239, u240, u241, u242, u243, u244, u245, u246, u247, u248, u249, u250, u251, u252]) (by simp; omega) (by simp)) (fun x hx => by simp at hx; omega) (.inl ⟨_, _, _, rfl⟩)
        simp [hx, show ¬ (x = k) by simpa using hxl, show ¬ (x = c) by omega, show ¬ (c ≤ x) by omega, show ¬ (x = (c + 1)) by omega, show ¬ ((c + 1) ≤ x) by omega, show ¬ (x = (c + 1 + 1)) by omega, show ¬ ((c + 1 + 1) ≤ x) by omega]
      · have nl : b.accs[j].last = [] := by cases hh : b.accs[j].last with | nil => rfl | cons y l => rw [hh] at hvl; simp [els] at hvl
        have nl0 : b.accs[j].last.length = 0 := by rw [nl]; rfl
        have u253 : ¬ (0 = c) := by omega
        have u254 : ¬ (c = 0) := by omega
        have u255 : ¬ (c ≤ 0) := by omega
        have u256 : ¬ (0 = (c + 1)) := by omega
        have u257 : ¬ ((c + 1) = 0) := by omega
        have u258 : ¬ ((c + 1) ≤ 0) := by omega
        have u259 : ¬ (0 = (c + 1 + 1)) := by omega
        have u260 : ¬ ((c + 1 + 1) = 0) := by omega
        have u261 : ¬ ((c + 1 + 1) ≤ 0) := by omega
        have u262 : ¬ (1 = c) := by omega
        have u263 : ¬ (c = 1) := by omega
        have u264 : ¬ (c ≤ 1) := by omega
        have u265 : ¬ (1 = (c + 1)) := by omega
        have u266 : ¬ ((c + 1) = 1) := by omega
        have u267 : ¬ ((c + 1) ≤ 1) := by omega
        have u268 : ¬ (1 = (c + 1 + 1)) := by omega
        have u269 : ¬ ((c + 1 + 1) = 1) := by omega
        have u270 : ¬ ((c + 1 + 1) ≤ 1) := by omega
        have u271 : ¬ (la = c) := by omega
        have u272 : ¬ (c = la) := by omega
        have u273 : ¬ (c ≤ la) := by omega
        have u274 : ¬ (la = (c + 1)) := by omega
        have u275 : ¬ ((c + 1) = la) := by omega
        have u276 : ¬ ((c + 1) ≤ la) := by omega
        have u277 : ¬ (la = (c + 1 + 1)) := by omega
        have u278 : ¬ ((c + 1 + 1) = la) := by omega
        have u279 : ¬ ((c + 1 + 1) ≤ la) := by omega
        have u280 : ¬ (c = (c + 1)) := by omega
        have u281 : ¬ ((c + 1) = c) := by omega
        have u282 : ¬ ((c + 1) ≤ c) := by omega
        have u283 : c < (c + 1) := by omega
        have u284 : c ≤ (c + 1) := by omega
        have u285 : c < (c + 1) + 1 := by omega
        have u286 : ¬ (c = (c + 1 + 1)) := by omega
        have u287 : ¬ ((c + 1 + 1) = c) := by omega
        have u288 : ¬ ((c + 1 + 1) ≤ c) := by omega
        have u289 : c < (c + 1 + 1) := by omega
        have u290 : c ≤ (c + 1 + 1) := by omega
        have u291 : c < (c + 1 + 1) + 1 := by omega
        have u292 : ¬ ((c + 1) = (c + 1 + 1)) := by omega
        have u293 : ¬ ((c + 1 + 1) = (c + 1)) := by omega
        have u294 : ¬ ((c + 1 + 1) ≤ (c + 1)) := by omega
        have u295 : (c + 1) < (c + 1 + 1) := by omega
        have u296 : (c + 1) ≤ (c + 1 + 1) := by omega
        have u297 : (c + 1) < (c + 1 + 1) + 1 := by omega
        simp -implicitDefEqProofs [-frz, -hd, t1, t2, t4, ta, tb, tj, k0, k1, k2, hm, hmi, hlt, hla, hr', ws, go, q1, q2, q3, q4, hjl, hp1, hp2, wl1, hmx, kk1, kk2, kk3, kk4, max2, nl, hd_nil, rm5, rm6, wl0, wl00, u253, u254, u255, u256, u257, u258, u259, u260, u261, u262, u263, u264, u265, u266, u267, u268, u269, u270, u271, u272, u273, u274, u275, u276, u277, u278, u279, u280, u281, u282, u283, u284, u285, u286, u287, u288, u289, u290, u291, u292, u293, u294, u295, u296, u297, obm, Option.bind_assoc, -decide_eq_true_eq]
        rw [hwo _ _ (fun x hx hxc => by first | rfl | simp [show ¬ (x = c) by omega, show ¬ (c ≤ x) by omega])]
        simp -implicitDefEqProofs [-frz, -hd, hd, t1, t2, t4, ta, tb, tj, k0, k1, k2, hm, hmi, hlt, hla, hr', ws, go, q1, q2, q3, q4, hjl, hp1, hp2, wl1, hmx, kk1, kk2, kk3, kk4, max2, nl, hd_nil, rm5, rm6, wl0, wl00, u253, u254, u255, u256, u257, u258, u259, u260, u261, u262, u263, u264, u265, u266, u267, u268, u269, u270, u271, u272, u273, u274, u275, u276, u277, u278, u279, u280, u281, u282, u283, u284, u285, u286, u287, u288, u289, u290, u291, u292, u293, u294, u295, u296, u297, obm, Option.bind_assoc, -decide_eq_true_eq]
        refine O.last (nl := newLast b.accs[j] l[j]) (vl' := .sl (c + 1) 1 0 1) M hm hrw hvp (by omega) (by simp [u253, u254, u255, u256, u257, u258, u259, u260, u261, u262, u263, u264, u265, u266, u267, u268, u269, u270, u271, u272, u273, u274, u275, u276, u277, u278, u279, u280, u281, u282, u283, u284, u285, u286, u287, u288, u289, u290, u291, u292, u293, u294, u295, u296, u297]) (fun x hx hxl hq hxc => ?_) (by rw [show newLast b.accs[j] l[j] = [worthP b.accs[j] l[j]] by unfold newLast; rw [nl]; rfl]; exact els_all (by simp [nl, hd_nil, rm5, rm6, wl0, wl00, u253, u254, u255, u256, u257, u258, u259, u260, u261, u262, u263, u264, u265, u266, u267, u268, u269, u270, u271, u272, u273, u274, u275, u276, u277, u278, u279, u280, u281, u282, u283, u284, u285, u286, u287, u288, u289, u290, u291, u292, u293, u294, u295, u296, u297]) rfl) (fun x hx => by simp at hx; omega) (.inl ⟨_, _, _, rfl⟩)
        simp [hx, show ¬ (x = c) by omega, show ¬ (c ≤ x) by omega, show ¬ (x = (c + 1)) by omega, show ¬ ((c + 1) ≤ x) by omega, show ¬ (x = (c + 1 + 1)) by omega, show ¬ ((c + 1 + 1) ≤ x) by omega]
      · have nl : b.accs[j].last = [] := by cases hh : b.accs[j].last with | nil => rfl | cons y l => rw [hh] at hvl; simp [els] at hvl
        have nl0 : b.accs[j].last.length = 0 := by rw [nl]; rfl
        have u298 : ¬ (0 = c) := by omega
        have u299 : ¬ (c = 0) := by omega
        have u300 : ¬ (c ≤ 0) := by omega
        have u301 : ¬ (0 = (c + 1)) := by omega
        have u302 : ¬ ((c + 1) = 0) := by omega
        have u303 : ¬ ((c + 1) ≤ 0) := by omega
        have u304 : ¬ (0 = (c + 1 + 1)) := by omega
        have u305 : ¬ ((c + 1 + 1) = 0) := by omega
        have u306 : ¬ ((c + 1 + 1) ≤ 0) := by omega
        have u307 : ¬ (1 = c) := by omega
        have u308 : ¬ (c = 1) := by omega
        have u309 : ¬ (c ≤ 1) := by omega
        have u310 : ¬ (1 = (c + 1)) := by omega
        have u311 : ¬ ((c + 1) = 1) := by omega
        have u312 : ¬ ((c + 1) ≤ 1) := by omega
        have u313 : ¬ (1 = (c + 1 + 1)) := by omega
        have u314 : ¬ ((c + 1 + 1) = 1) := by omega
        have u315 : ¬ ((c + 1 + 1) ≤ 1) := by omega
        have u316 : ¬ (la = c) := by omega
        have u317 : ¬ (c = la) := by omega
        have u318 : ¬ (c ≤ la) := by omega
        have u319 : ¬ (la = (c + 1)) := by omega
        have u320 : ¬ ((c + 1) = la) := by omega
        have u321 : ¬ ((c + 1) ≤ la) := by omega
        have u322 : ¬ (la = (c + 1 + 1)) := by omega
        have u323 : ¬ ((c + 1 + 1) = la) := by omega
        have u324 : ¬ ((c + 1 + 1) ≤ la) := by omega
        have u325 : ¬ (c = (c + 1)) := by omega
        have u326 : ¬ ((c + 1) = c) := by omega
        have u327 : ¬ ((c + 1) ≤ c) := by omega
        have u328 : c < (c + 1) := by omega
        have u329 : c ≤ (c + 1) := by omega
        have u330 : c < (c + 1) + 1 := by omega
        have u331 : ¬ (c = (c + 1 + 1)) := by omega
        have u332 : ¬ ((c + 1 + 1) = c) := by omega
        have u333 : ¬ ((c + 1 + 1) ≤ c) := by omega
        have u334 : c < (c + 1 + 1) := by omega
        have u335 : c ≤ (c + 1 + 1) := by omega
        have u336 : c < (c + 1 + 1) + 1 := by omega
        have u337 : ¬ ((c + 1) = (c + 1 + 1)) := by omega
        have u338 : ¬ ((c + 1 + 1) = (c + 1)) := by omega
        have u339 : ¬ ((c + 1 + 1) ≤ (c + 1)) := by omega
        have u340 : (c + 1) < (c + 1 + 1) := by omega
        have u341 : (c + 1) ≤ (c + 1 + 1) := by omega
        have u342 : (c + 1) < (c + 1 + 1) + 1 := by omega
        simp -implicitDefEqProofs [-frz, -hd, t1, t2, t4, ta, tb, tj, k0, k1, k2, hm, hmi, hlt, hla, hr', ws, go, q1, q2, q3, q4, hjl, hp1, hp2, wl1, hmx, kk1, kk2, kk3, kk4, max2, nl, hd_nil, rm5, rm6, wl0, wl00, u298, u299, u300, u301, u302, u303, u304, u305, u306, u307, u308, u309, u310, u311, u312, u313, u314, u315, u316, u317, u318, u319, u320, u321, u322, u323, u324, u325, u326, u327, u328, u329, u330, u331, u332, u333, u334, u335, u336, u337, u338, u339, u340, u341, u342, obm, Option.bind_assoc, -decide_eq_true_eq]
        rw [hwo _ _ (fun x hx hxc => by first | rfl | simp [show ¬ (x = c) by omega, show ¬ (c ≤ x) by omega])]
        simp -implicitDefEqProofs [-frz, -hd, hd, t1, t2, t4, ta, tb, tj, k0, k1, k2, hm, hmi, hlt, hla, hr', ws, go, q1, q2, q3, q4, hjl, hp1, hp2, wl1, hmx, kk1, kk2, kk3, kk4, max2, nl, hd_nil, rm5, rm6, wl0, wl00, u298, u299, u300, u301, u302, u303, u304, u305, u306, u307, u308, u309, u310, u311, u312, u313, u314, u315, u316, u317, u318, u319, u320, u321, u322, u323, u324, u325, u326, u327, u328, u329, u330, u331, u332, u333, u334, u335, u336, u337, u338, u339, u340, u341, u342, obm, Option.bind_assoc, -decide_eq_true_eq]
        refine O.last (nl := newLast b.accs[j] l[j]) (vl' := .sl (c + 1) 1 0 1) M hm hrw hvp (by omega) (by simp [u298, u299, u300, u301, u302, u303, u304, u305, u306, u307, u308, u309, u310, u311, u312, u313, u314, u315, u316, u317, u318, u319, u320, u321, u322, u323, u324, u325, u326, u327, u328, u329, u330, u331, u332, u333, u334, u335, u336, u337, u338, u339, u340, u341, u342]) (fun x hx hxl hq hxc => ?_) (by rw [show newLast b.accs[j] l[j] = [worthP b.accs[j] l[j]] by unfold newLast; rw [nl]; rfl]; exact els_all (by simp [nl, hd_nil, rm5, rm6, wl0, wl00, u298, u299, u300, u301, u302, u303, u304, u305, u306, u307, u308, u309, u310, u311, u312, u313, u314, u315, u316, u317, u318, u319, u320, u321, u322, u323, u324, u325, u326, u327, u328, u329, u330, u331, u332, u333, u334, u335, u336, u337, u338, u339, u340, u341, u342]) rfl) (fun x hx => by simp at hx; omega) (.inl ⟨_, _, _, rfl⟩)
        simp [hx, show ¬ (x = c) by omega, show ¬ (c ≤ x) by omega, show ¬ (x = (c + 1)) by omega, show ¬ ((c + 1) ≤ x) by omega, show ¬ (x = (c + 1 + 1)) by omega, show ¬ ((c + 1 + 1) ≤ x) by omega]
    · rintro ⟨t, h, c⟩ ⟨t1, t2, t4, ta, tb, tj, k0, k1, rows, O, M⟩
      simp only at t1 t2 t4 ta tb tj k0 k1 O
      simp -implicitDefEqProofs [-frz, t1, t2, t4, ta, tb, tj, k0, k1, hv1, hv2]
      have O3 := Own.frame O (h' := h.put 1 (some ⟨5, [[.sl la 5 0 12, I b.rate, I b.infl, I b.idx, v]]⟩)) (Nat.le_refl _) (fun l hl hlc => by simp [show ¬ (l = 1) by omega])
      exact post_own O3 M _ _ _ (by have := vb.book; omega) (qN_small vb l 12)
end Go.Proofs.Ytdckleaemkcapaa.AM
