/- Texts of the proof: part B38. -/
import Derived.Test.YtdckleaemkcapaaB37
set_option maxHeartbeats 0
set_option linter.unusedSimpArgs false
set_option linter.unusedVariables false
set_option linter.unusedSectionVars false
namespace Go.Proofs.Ytdckleaemkcapaa.AM
open Go Go.Proofs
attribute [local simp] AV.cells okc AV.isBad fieldAddrA ld setCells stA skipV appendA hd makeA bnd sliceA kindA freshA killOk loadsAt newT empT lay_get allocA buildA buildRow builtinA lenA els indexAddrA isNil opA evA lit yldA binA binI unA pickA boolV intV fieldA mk flat lf lf.lfs frz
theorem els_off {h : Heap} {l sz : Nat} {T : List Int} {off n : Nat} (hl : h l = some ⟨sz, ints T⟩) (ho : off ≤ T.length) (hn : n = T.length - off) : els h (.sl l sz off n) = some (ints (T.drop off)) := by
  simp only [els, hl, Option.bind_some]
  rw [if_pos (by simp; omega), List.take_of_length_le (by simp; omega)]
  simp [List.map_drop]
theorem Own.last {Q : Nat → Prop} {c c' : Nat} {h h' : Heap} {la : Nat} {v : AV} {accs : List Acc} {book : List Ent} {rows : List (List AV)} (O : Own Q c h la v accs book rows) (M : Mine rows 12) {j : Nat} (hm : j < 12) {a : Acc} {vp vl vl' : AV} {o : Bool} {nl : List Int}
    (hrw : rows[j]? = some (rw5 a.opn a.cash a.loan vp vl)) (hvp : els h vp = some (ints a.parts)) (hc : c ≤ c') (hla : h' la = some ⟨5, rows.set j (rw5 o a.cash a.loan vp vl')⟩)
    (hh : ∀ x, x ≠ la → x ∉ nm vl → Q x → x < c → h' x = h x) (e2 : els h' vl' = some (ints nl)) (n2 : ∀ x ∈ nm vl', c ≤ x ∧ x < c') (s2 : SlV 1 vl') :
    ∃ rows', Own Q c' h' la v (accs.set j { a with opn := o, last := nl }) book rows' ∧ Mine rows' 12 := by
  have k3 := fun l (hl : l ∈ nm vp) => O.sep2 j 3 l ⟨_, vp, hrw, rfl, hl⟩
  have k34 := fun l (h1 : l ∈ nm vp) (h2 : l ∈ nm vl) => (O.sep1 j 3 j 4 l ⟨_, vp, hrw, rfl, h1⟩ ⟨_, vl, hrw, rfl, h2⟩).2
  refine ⟨_, O.upd (a' := { a with opn := o, last := nl }) hm hrw hc hla (fun l hl hin => ?_) ?_ e2 (fun l hl => .inl hl) (fun l hl => .inr (n2 l hl)) (fun l k1 k2 => ?_), mine_put M (M.get hm hrw).1 s2⟩
  · rcases hin with hin | ⟨i, f, hij, hin⟩
    · have k := O.sep3 l hin
      exact hh l hl (fun h2 => (O.sep2 j 4 l ⟨_, vl, hrw, rfl, h2⟩).2.1 hin) k.2.1 k.2.2
    · have k := O.sep2 i f l hin
      exact hh l hl (fun h2 => hij (O.sep1 i f j 4 l hin ⟨_, vl, hrw, rfl, h2⟩).1) k.2.2.1 k.2.2.2
  · rw [els_congr fun l hl => hh l (k3 l hl).1 (fun h2 => by have := k34 l hl h2; omega) (k3 l hl).2.2.1 (k3 l hl).2.2.2]; exact hvp
  · have := (n2 l k2).1
    have := (k3 l k1).2.2.2
    omega
theorem rquarter_x (b : Bnk) (w : b.Wfb) (z : Bool) (l : List Int) (hl : l.length ≤ 9223372036854775807) : PostB (quP b l).1 (quP b l).2 (run Try.prog (mdT tblB) 43 [.agg (bc b), .ro z (ints l)] Heap.none 0) := by
  have hk := rval_c b w
  generalize hr : quP b l = r
  unfold quP at hr
  rw [run_eq, show mdT tblB 43 = some .pure from rfl, Option.bind_some, Try.func43]
  by_cases g0 : valP b = 0
  case neg =>
    have g1 : (valP b == 0) = false := by simpa using g0
    have g2 : (valP b != 0) = true := by simp [bne, g1]
    rw [g1] at hr
    simp only [cond_false] at hr
    subst hr
    simp -implicitDefEqProofs [-frz, Try.f43, hk, g2]
    exact post_err _ _ _
  have vb := valid_of g0
  rw [g0] at hk hr
  simp only [BEq.rfl, cond_true] at hr
  cases g3 : ((l.length : Int) != 12)
  case true =>
    rw [g3] at hr
    simp only [cond_true] at hr
    subst hr
    simp -implicitDefEqProofs [-frz, Try.f43, hk, g3]
    exact post_err _ _ _
  rw [g3] at hr
  simp only [cond_false] at hr
  have l12 : l.length = 12 := by simp at g3; omega
  simp -implicitDefEqProofs [-frz, Try.f43, hk, g3, obm, Option.bind_assoc]
  refine scan_list (R := PostB r.1 r.2) l monI (fun j s => s.h 0 = some ⟨5, [bc b]⟩ ∧ s.h 1 = some ⟨5, [noC]⟩ ∧ s.c = 2 ∧ s.t 1 = .ro z (ints l) ∧ s.t 2 = .ptr 0 0 0 ∧ s.t 4 = .ptr 1 0 0 ∧ s.t 7 = I j) _ ?_ ?_ ?_ ?_
  · simp
  · rintro j ⟨t, h, c⟩ ⟨h0, h1, hc, t1, t2, t4, tj⟩ hj hp
    simp only at h0 h1 hc t1 t2 t4 tj
    have k1 : decide ((j : Int) < (l.length : Int)) = true := decide_eq_true (by omega)
    have ws : IntKind.i64.wrap ((j : Int) + 1) = ((j + 1 : Nat) : Int) := wrap_succ (by omega)
    unfold monI at hp
    simp -implicitDefEqProofs [h0, h1, hc, t1, t2, t4, tj, k1, hj, hp, ws, -decide_eq_true_eq]
  · rintro j ⟨t, h, c⟩ ⟨h0, h1, hc, t1, t2, t4, tj⟩ hj hp ha
    simp only at h0 h1 hc t1 t2 t4 tj
    rw [ha] at hr
    simp only [cond_true] at hr
    subst hr
    have k1 : decide ((j : Int) < (l.length : Int)) = true := decide_eq_true (by omega)
    unfold monI at hp
    simp -implicitDefEqProofs [-frz, h0, h1, hc, t1, t2, t4, tj, k1, hj, hp, -decide_eq_true_eq]
    exact post_err _ _ _
  · rintro ⟨t, h, c⟩ ⟨h0, h1, hc, t1, t2, t4, tj⟩ ha
    simp only at h0 h1 hc t1 t2 t4 tj
    subst hc
    rw [ha] at hr
    simp only [cond_false] at hr
    subst hr
    have k1 : decide ((l.length : Int) < (l.length : Int)) = false := decide_eq_false (by omega)
    simp -implicitDefEqProofs [-frz, h0, h1, t1, t2, t4, tj, k1, obm, Option.bind_assoc, -decide_eq_true_eq, -decide_eq_false_iff_not]
    refine copy_to (.inl rfl) b vb w _ _ _ ?_
    intro h2 c1 la v rows hc hlow O M
    have h0' : h2 0 = some ⟨5, [bc b]⟩ := by rw [hlow 0 (by omega)]; exact h0
    have h1' : h2 1 = some ⟨5, [noC]⟩ := by rw [hlow 1 (by omega)]; exact h1
    have hv1 := slv_cells O.bkv
    have hv2 := slv_okc O.bkv
    unfold AV.cells at hv1
    unfold okc at hv2
    have lge := O.sep4.1
    have q1 : ¬ (la = 0) := by omega
    have q2 : ¬ (0 = la) := by omega
    have q3 : ¬ (la = 1) := by omega
    have q4 : ¬ (1 = la) := by omega
    simp -implicitDefEqProofs [-frz, h0', h1', hv1, hv2, t1, t2, t4, q1, q2, q3, q4, obm, Option.bind_assoc]
    refine count_round (R := PostB 0 ⟨false, qN b l 12, b.rate, b.infl, b.idx, false, b.book⟩) 12 (fun j s => s.t 1 = .ro z (ints l) ∧ s.t 2 = .ptr 0 0 0 ∧ s.t 4 = .ptr 1 0 0 ∧ s.t 8 = I j ∧ s.h 0 = some ⟨5, [[.sl la 5 0 12, I b.rate, I b.infl, I b.idx, v]]⟩ ∧ s.h 1 = some ⟨5, [noC]⟩ ∧ ∃ rows, Own (fun l => 2 ≤ l) s.c s.h la v (qN b l j) b.book rows ∧ Mine rows 12) _ ?_ ?_ ?_
    · simp -implicitDefEqProofs [h1', t1, t2, t4]
      exact ⟨rows, Own.frame O (Nat.le_refl _) (fun l hl hlc => by simp [show ¬ (l = 0) by omega]), M⟩
    · rintro j ⟨t, h, c⟩ ⟨t1, t2, t4, tj, k0, k1, rows, O, M⟩ hj
      simp only at t1 t2 t4 tj k0 k1 O
      have hm : j < 12 := hj
      have hmi : (j : Int) < 12 := by omega
      have k2 : decide ((j : Int) < 12) = true := decide_eq_true hmi
      have hjl : j < l.length := by omega
      have hml : j < b.accs.length := by have := vb.len; omega
      have hlt : j < rows.length := by rw [O.len]; exact hm
      have hla := O.hla
      have ws : IntKind.i64.wrap ((j : Int) + 1) = ((j + 1 : Nat) : Int) := wrap_succ (by omega)
      obtain ⟨a, vp, vl, ha, hrw, hvp, hvl⟩ := O.get hm
      have hqa : (qN b l j)[j]? = some b.accs[j] := by rw [qN_get b l j j (Nat.le_refl _)]; exact List.getElem?_eq_getElem hml
      rw [hqa] at ha
      cases ha
      have hr' : rows[j] = [B b.accs[j].opn, I b.accs[j].cash, I b.accs[j].loan, vp, vl] := by rw [List.getElem?_eq_getElem hlt] at hrw; exact Option.some.inj hrw
      have lge := O.sep4.1
      have lc := O.sep4.2
      have L24 := vb.last _ (List.getElem_mem hml)
      cases go : b.accs[j].opn
      · have nxt : qN b l (j + 1) = qN b l j := qStep_shut hqa go
        simp -implicitDefEqProofs [-frz, t1, t2, t4, tj, k0, k1, k2, hm, hmi, hlt, hla, hr', ws, go, -decide_eq_true_eq]
        rw [nxt]
        exact ⟨rows, O, M⟩
      have nxt : qN b l (j + 1) = (qN b l j).set j { b.accs[j] with last := newLast b.accs[j] l[j] } := by
        have := qStep_open (l := l) hqa go
        rw [List.getElem?_eq_getElem hjl] at this
        exact this
      rw [nxt]
      obtain ⟨sp, sl⟩ := M.get hm hrw
      have hp1 := slv_okc sp
      have hp2 := slv_okc sl
      have hwo : ∀ H c', (∀ x, 2 ≤ x → x < c → H x = h x) → callA (mdT tblB) (run Try.prog (mdT tblB)) 72 [.agg [B true, I b.accs[j].cash, I b.accs[j].loan, vp, vl], I l[j]] H c' = some (I (worthP b.accs[j] l[j]), H, c') := by
        intro H c' hH
        have := worth_o (.inl rfl) b.accs[j] l[j] H c' sp sl (by rw [els_congr (h := h)]; exact hvp; intro x hx; have k := O.sep2 j 3 x ⟨_, vp, hrw, rfl, hx⟩; exact hH x k.2.2.1 k.2.2.2) (by rw [els_congr (h := h)]; exact hvl; intro x hx; have k := O.sep2 j 4 x ⟨_, vl, hrw, rfl, hx⟩; exact hH x k.2.2.1 k.2.2.2)
        rw [go] at this
        exact this
      have wl1 : IntKind.i64.wrap ((b.accs[j].last.length : Int) + 1 - 24) = (b.accs[j].last.length : Int) + 1 - 24 := wrap_id (by omega) (by omega)
      have hmx : (if (24 : Int) < (b.accs[j].last.length : Int) + 1 then (b.accs[j].last.length : Int) + 1 - 24 else 0) = ((b.accs[j].last.length - 23 : Nat) : Int) := by split <;> omega
      have kk1 : ((b.accs[j].last.length - 23 : Nat) : Int) ≤ (b.accs[j].last.length : Int) + 1 := by omega
      have kk2 : b.accs[j].last.length - 23 < b.accs[j].last.length + 1 := by omega
      have kk3 : b.accs[j].last.length - 23 ≤ b.accs[j].last.length + 1 := by omega
      have rm1 : (b.accs[j].last.length + 1) * 8 ≤ room := by unfold room; omega
      have rm2 : b.accs[j].last.length + 1 ≤ room := by unfold room; omega
      have rm3 : b.accs[j].last.length * 8 ≤ room := by unfold room; omega
      have rm4 : b.accs[j].last.length ≤ room := by unfold room; omega
      have rm5 : (1 : Nat) * 8 ≤ room := by unfold room; omega
      have rm6 : (1 : Nat) ≤ room := by unfold room; omega
      have hdl := hd_ints b.accs[j].last
      have tk : List.take b.accs[j].last.length (ints b.accs[j].last) = ints b.accs[j].last := List.take_of_length_le (by simp)
      have atp : ∀ x ∈ nm vp, x ≠ la ∧ x ∉ nm v ∧ 2 ≤ x ∧ x < c := fun x hx => O.sep2 j 3 x ⟨_, vp, hrw, rfl, hx⟩
      have atl : ∀ x ∈ nm vl, x ≠ la ∧ x ∉ nm v ∧ 2 ≤ x ∧ x < c := fun x hx => O.sep2 j 4 x ⟨_, vl, hrw, rfl, hx⟩
      have atpl : ∀ x ∈ nm vp, x ∉ nm vl := fun x k1 k2 => by have := O.sep1 j 3 j 4 x ⟨_, vp, hrw, rfl, k1⟩ ⟨_, vl, hrw, rfl, k2⟩; omega
      unfold okc at hp1 hp2
      have wl0 : IntKind.i64.wrap (1 - 24) = -23 := by rfl
      have wl00 : IntKind.i64.wrap (-23) = -23 := by rfl
      rcases sl with ⟨k, off, n, rfl⟩ | rfl | rfl
      · obtain ⟨BB, b1, b2, b3, b4⟩ := els_sl hvl
        have b5 : n = b.accs[j].last.length := by simpa using b4.symm
        subst b5
        obtain ⟨kla, knv, k2l, kc⟩ := atl k (by simp)
        by_cases nl : b.accs[j].last = []
        · have nl0 : b.accs[j].last.length = 0 := by rw [nl]; rfl
          rw [nl0] at hwo
          have b2' : off ≤ BB.es.length := by omega
          have u1 : ¬ (0 = c) := by omega
          have u2 : ¬ (c = 0) := by omega
          have u3 : ¬ (c ≤ 0) := by omega
          have u4 : ¬ (0 = (c + 1)) := by omega
          have u5 : ¬ ((c + 1) = 0) := by omega
          have u6 : ¬ ((c + 1) ≤ 0) := by omega
          have u7 : ¬ (0 = (c + 1 + 1)) := by omega
          have u8 : ¬ ((c + 1 + 1) = 0) := by omega
          have u9 : ¬ ((c + 1 + 1) ≤ 0) := by omega
          have u10 : ¬ (1 = c) := by omega
          have u11 : ¬ (c = 1) := by omega
          have u12 : ¬ (c ≤ 1) := by omega
          have u13 : ¬ (1 = (c + 1)) := by omega
          have u14 : ¬ ((c + 1) = 1) := by omega
          have u15 : ¬ ((c + 1) ≤ 1) := by omega
          have u16 : ¬ (1 = (c + 1 + 1)) := by omega
          have u17 : ¬ ((c + 1 + 1) = 1) := by omega
          have u18 : ¬ ((c + 1 + 1) ≤ 1) := by omega
          have u19 : ¬ (la = c) := by omega
          have u20 : ¬ (c = la) := by omega
          have u21 : ¬ (c ≤ la) := by omega
          have u22 : ¬ (la = (c + 1)) := by omega
          have u23 : ¬ ((c + 1) = la) := by omega
          have u24 : ¬ ((c + 1) ≤ la) := by omega
          have u25 : ¬ (la = (c + 1 + 1)) := by omega
          have u26 : ¬ ((c + 1 + 1) = la) := by omega
          have u27 : ¬ ((c + 1 + 1) ≤ la) := by omega
          have u28 : ¬ (k = c) := by omega
          have u29 : ¬ (c = k) := by omega
          have u30 : ¬ (c ≤ k) := by omega
          have u31 : ¬ (k = (c + 1)) := by omega
          have u32 : ¬ ((c + 1) = k) := by omega
          have u33 : ¬ ((c + 1) ≤ k) := by omega
          have u34 : ¬ (k = (c + 1 + 1)) := by omega
          have u35 : ¬ ((c + 1 + 1) = k) := by omega
          have u36 : ¬ ((c + 1 + 1) ≤ k) := by omega
          have u37 : ¬ (c = (c + 1)) := by omega
          have u38 : ¬ ((c + 1) = c) := by omega
          have u39 : ¬ ((c + 1) ≤ c) := by omega
          have u40 : c < (c + 1) := by omega
          have u41 : c ≤ (c + 1) := by omega
          have u42 : c < (c + 1) + 1 := by omega
          have u43 : ¬ (c = (c + 1 + 1)) := by omega
          have u44 : ¬ ((c + 1 + 1) = c) := by omega
          have u45 : ¬ ((c + 1 + 1) ≤ c) := by omega
          have u46 : c < (c + 1 + 1) := by omega
          have u47 : c ≤ (c + 1 + 1) := by omega
          have u48 : c < (c + 1 + 1) + 1 := by omega
          have u49 : ¬ ((c + 1) = (c + 1 + 1)) := by omega
          have u50 : ¬ ((c + 1 + 1) = (c + 1)) := by omega
          have u51 : ¬ ((c + 1 + 1) ≤ (c + 1)) := by omega
          have u52 : (c + 1) < (c + 1 + 1) := by omega
          have u53 : (c + 1) ≤ (c + 1 + 1) := by omega
          have u54 : (c + 1) < (c + 1 + 1) + 1 := by omega
          simp -implicitDefEqProofs [-frz, -hd, t1, t2, t4, tj, k0, k1, k2, hm, hmi, hlt, hla, hr', ws, go, q1, q2, q3, q4, hjl, hp1, hp2, wl1, hmx, kk1, kk2, kk3, max2, b1, b2, b2', nl, hd_nil, rm5, rm6, wl0, wl00, u1, u2, u3, u4, u5, u6, u7, u8, u9, u10, u11, u12, u13, u14, u15, u16, u17, u18, u19, u20, u21, u22, u23, u24, u25, u26, u27, u28, u29, u30, u31, u32, u33, u34, u35, u36, u37, u38, u39, u40, u41, u42, u43, u44, u45, u46, u47, u48, u49, u50, u51, u52, u53, u54, obm, Option.bind_assoc, -decide_eq_true_eq]
          rw [hwo _ _ (fun x hx hxc => by first | rfl | simp [show ¬ (x = c) by omega, show ¬ (c ≤ x) by omega])]
          simp -implicitDefEqProofs [-frz, -hd, hd, t1, t2, t4, tj, k0, k1, k2, hm, hmi, hlt, hla, hr', ws, go, q1, q2, q3, q4, hjl, hp1, hp2, wl1, hmx, kk1, kk2, kk3, max2, b1, b2, b2', nl, hd_nil, rm5, rm6, wl0, wl00, u1, u2, u3, u4, u5, u6, u7, u8, u9, u10, u11, u12, u13, u14, u15, u16, u17, u18, u19, u20, u21, u22, u23, u24, u25, u26, u27, u28, u29, u30, u31, u32, u33, u34, u35, u36, u37, u38, u39, u40, u41, u42, u43, u44, u45, u46, u47, u48, u49, u50, u51, u52, u53, u54, obm, Option.bind_assoc, -decide_eq_true_eq]
          refine O.last (nl := newLast b.accs[j] l[j]) (vl' := .sl (c + 1) 1 0 1) M hm hrw hvp (by omega) (by simp [u1, u2, u3, u4, u5, u6, u7, u8, u9, u10, u11, u12, u13, u14, u15, u16, u17, u18, u19, u20, u21, u22, u23, u24, u25, u26, u27, u28, u29, u30, u31, u32, u33, u34, u35, u36, u37, u38, u39, u40, u41, u42, u43, u44, u45, u46, u47, u48, u49, u50, u51, u52, u53, u54]) (fun x hx hxl hq hxc => ?_) (by rw [show newLast b.accs[j] l[j] = [worthP b.accs[j] l[j]] by unfold newLast; rw [nl]; rfl]; exact els_all (by simp [b1, b2, b2', nl, hd_nil, rm5, rm6, wl0, wl00, u1, u2, u3, u4, u5, u6, u7, u8, u9, u10, u11, u12, u13, u14, u15, u16, u17, u18, u19, u20, u21, u22, u23, u24, u25, u26, u27, u28, u29, u30, u31, u32, u33, u34, u35, u36, u37, u38, u39, u40, u41, u42, u43, u44, u45, u46, u47, u48, u49, u50, u51, u52, u53, u54]) rfl) (fun x hx => by simp at hx; omega) (.inl ⟨_, _, _, rfl⟩)
          simp [hx, show ¬ (x = c) by omega, show ¬ (c ≤ x) by omega, show ¬ (x = (c + 1)) by omega, show ¬ ((c + 1) ≤ x) by omega, show ¬ (x = (c + 1 + 1)) by omega, show ¬ ((c + 1 + 1) ≤ x) by omega]
        · have u55 : ¬ (0 = c) := by omega
          have u56 : ¬ (c = 0) := by omega
          have u57 : ¬ (c ≤ 0) := by omega
          have u58 : ¬ (0 = (c + 1)) := by omega
          have u59 : ¬ ((c + 1) = 0) := by omega
          have u60 : ¬ ((c + 1) ≤ 0) := by omega
          have u61 : ¬ (0 = (c + 1 + 1)) := by omega
          have u62 : ¬ ((c + 1 + 1) = 0) := by omega
          have u63 : ¬ ((c + 1 + 1) ≤ 0) := by omega
          have u64 : ¬ (1 = c) := by omega
          have u65 : ¬ (c = 1) := by omega
          have u66 : ¬ (c ≤ 1) := by omega
          have u67 : ¬ (1 = (c + 1)) := by omega
          have u68 : ¬ ((c + 1) = 1) := by omega
          have u69 : ¬ ((c + 1) ≤ 1) := by omega
          have u70 : ¬ (1 = (c + 1 + 1)) := by omega
          have u71 : ¬ ((c + 1 + 1) = 1) := by omega
          have u72 : ¬ ((c + 1 + 1) ≤ 1) := by omega
          have u73 : ¬ (la = c) := by omega
          have u74 : ¬ (c = la) := by omega
          have u75 : ¬ (c ≤ la) := by omega
          have u76 : ¬ (la = (c + 1)) := by omega
          have u77 : ¬ ((c + 1) = la) := by omega
          have u78 : ¬ ((c + 1) ≤ la) := by omega
          have u79 : ¬ (la = (c + 1 + 1)) := by omega
          have u80 : ¬ ((c + 1 + 1) = la) := by omega
          have u81 : ¬ ((c + 1 + 1) ≤ la) := by omega
          have u82 : ¬ (k = c) := by omega
          have u83 : ¬ (c = k) := by omega
          have u84 : ¬ (c ≤ k) := by omega
          have u85 : ¬ (k = (c + 1)) := by omega
          have u86 : ¬ ((c + 1) = k) := by omega
          have u87 : ¬ ((c + 1) ≤ k) := by omega
          have u88 : ¬ (k = (c + 1 + 1)) := by omega
          have u89 : ¬ ((c + 1 + 1) = k) := by omega
          have u90 : ¬ ((c + 1 + 1) ≤ k) := by omega
          have u91 : ¬ (c = (c + 1)) := by omega
          have u92 : ¬ ((c + 1) = c) := by omega
          have u93 : ¬ ((c + 1) ≤ c) := by omega
          have u94 : c < (c + 1) := by omega
          have u95 : c ≤ (c + 1) := by omega
          have u96 : c < (c + 1) + 1 := by omega
          have u97 : ¬ (c = (c + 1 + 1)) := by omega
          have u98 : ¬ ((c + 1 + 1) = c) := by omega
          have u99 : ¬ ((c + 1 + 1) ≤ c) := by omega
          have u100 : c < (c + 1 + 1) := by omega
          have u101 : c ≤ (c + 1 + 1) := by omega
          have u102 : c < (c + 1 + 1) + 1 := by omega
          have u103 : ¬ ((c + 1) = (c + 1 + 1)) := by omega
          have u104 : ¬ ((c + 1 + 1) = (c + 1)) := by omega
          have u105 : ¬ ((c + 1 + 1) ≤ (c + 1)) := by omega
          have u106 : (c + 1) < (c + 1 + 1) := by omega
          have u107 : (c + 1) ≤ (c + 1 + 1) := by omega
          have u108 : (c + 1) < (c + 1 + 1) + 1 := by omega
          simp -implicitDefEqProofs [-frz, -hd, t1, t2, t4, tj, k0, k1, k2, hm, hmi, hlt, hla, hr', ws, go, q1, q2, q3, q4, hjl, hp1, hp2, wl1, hmx, kk1, kk2, kk3, max2, b1, b2, b3, nl, hdl, rm1, rm2, rm3, rm4, tk, u55, u56, u57, u58, u59, u60, u61, u62, u63, u64, u65, u66, u67, u68, u69, u70, u71, u72, u73, u74, u75, u76, u77, u78, u79, u80, u81, u82, u83, u84, u85, u86, u87, u88, u89, u90, u91, u92, u93, u94, u95, u96, u97, u98, u99, u100, u101, u102, u103, u104, u105, u106, u107, u108, obm, Option.bind_assoc, -decide_eq_true_eq]
          rw [hwo _ _ (fun x hx hxc => by first | rfl | simp [show ¬ (x = c) by omega, show ¬ (c ≤ x) by omega])]
          simp -implicitDefEqProofs [-frz, -hd, hd, t1, t2, t4, tj, k0, k1, k2, hm, hmi, hlt, hla, hr', ws, go, q1, q2, q3, q4, hjl, hp1, hp2, wl1, hmx, kk1, kk2, kk3, max2, b1, b2, b3, nl, hdl, rm1, rm2, rm3, rm4, tk, u55, u56, u57, u58, u59, u60, u61, u62, u63, u64, u65, u66, u67, u68, u69, u70, u71, u72, u73, u74, u75, u76, u77, u78, u79, u80, u81, u82, u83, u84, u85, u86, u87, u88, u89, u90, u91, u92, u93, u94, u95, u96, u97, u98, u99, u100, u101, u102, u103, u104, u105, u106, u107, u108, obm, Option.bind_assoc, -decide_eq_true_eq]
          refine O.last (nl := newLast b.accs[j] l[j]) (vl' := .sl (c + 1 + 1) 1 (b.accs[j].last.length - 23) (b.accs[j].last.length + 1 - (b.accs[j].last.length - 23))) M hm hrw hvp (by omega) (by simp [u55, u56, u57, u58, u59, u60, u61, u62, u63, u64, u65, u66, u67, u68, u69, u70, u71, u72, u73, u74, u75, u76, u77, u78, u79, u80, u81, u82, u83, u84, u85, u86, u87, u88, u89, u90, u91, u92, u93, u94, u95, u96, u97, u98, u99, u100, u101, u102, u103, u104, u105, u106, u107, u108]) (fun x hx hxl hq hxc => ?_) (els_off (T := b.accs[j].last ++ [worthP b.accs[j] l[j]]) (by simp [b1, b2, b3, nl, hdl, rm1, rm2, rm3, rm4, tk, u55, u56, u57, u58, u59, u60, u61, u62, u63, u64, u65, u66, u67, u68, u69, u70, u71, u72, u73, u74, u75, u76, u77, u78, u79, u80, u81, u82, u83, u84, u85, u86, u87, u88, u89, u90, u91, u92, u93, u94, u95, u96, u97, u98, u99, u100, u101, u102, u103, u104, u105, u106, u107, u108]) (by simp; omega) (by simp)) (fun x hx => by simp at hx; omega) (.inl ⟨_, _, _, rfl⟩)
          simp [hx, show ¬ (x = c) by omega, show ¬ (c ≤ x) by omega, show ¬ (x = (c + 1)) by omega, show ¬ ((c + 1) ≤ x) by omega, show ¬ (x = (c + 1 + 1)) by omega, show ¬ ((c + 1 + 1) ≤ x) by omega]
      · have nl : b.accs[j].last = [] := by cases hh : b.accs[j].last with | nil => rfl | cons y l => rw [hh] at hvl; simp [els] at hvl
        have nl0 : b.accs[j].last.length = 0 := by rw [nl]; rfl
        have u109 : ¬ (0 = c) := by omega
        have u110 : ¬ (c = 0) := by omega
        have u111 : ¬ (c ≤ 0) := by omega
        have u112 : ¬ (0 = (c + 1)) := by omega
        have u113 : ¬ ((c + 1) = 0) := by omega
        have u114 : ¬ ((c + 1) ≤ 0) := by omega
        have u115 : ¬ (0 = (c + 1 + 1)) := by omega
        have u116 : ¬ ((c + 1 + 1) = 0) := by omega
        have u117 : ¬ ((c + 1 + 1) ≤ 0) := by omega
        have u118 : ¬ (1 = c) := by omega
        have u119 : ¬ (c = 1) := by omega
        have u120 : ¬ (c ≤ 1) := by omega
        have u121 : ¬ (1 = (c + 1)) := by omega
        have u122 : ¬ ((c + 1) = 1) := by omega
        have u123 : ¬ ((c + 1) ≤ 1) := by omega
        have u124 : ¬ (1 = (c + 1 + 1)) := by omega
        have u125 : ¬ ((c + 1 + 1) = 1) := by omega
        have u126 : ¬ ((c + 1 + 1) ≤ 1) := by omega
        have u127 : ¬ (la = c) := by omega
        have u128 : ¬ (c = la) := by omega
        have u129 : ¬ (c ≤ la) := by omega
        have u130 : ¬ (la = (c + 1)) := by omega
        have u131 : ¬ ((c + 1) = la) := by omega
        have u132 : ¬ ((c + 1) ≤ la) := by omega
        have u133 : ¬ (la = (c + 1 + 1)) := by omega
        have u134 : ¬ ((c + 1 + 1) = la) := by omega
        have u135 : ¬ ((c + 1 + 1) ≤ la) := by omega
        have u136 : ¬ (c = (c + 1)) := by omega
        have u137 : ¬ ((c + 1) = c) := by omega
        have u138 : ¬ ((c + 1) ≤ c) := by omega
        have u139 : c < (c + 1) := by omega
        have u140 : c ≤ (c + 1) := by omega
        have u141 : c < (c + 1) + 1 := by omega
        have u142 : ¬ (c = (c + 1 + 1)) := by omega
        have u143 : ¬ ((c + 1 + 1) = c) := by omega
        have u144 : ¬ ((c + 1 + 1) ≤ c) := by omega
        have u145 : c < (c + 1 + 1) := by omega
        have u146 : c ≤ (c + 1 + 1) := by omega
        have u147 : c < (c + 1 + 1) + 1 := by omega
        have u148 : ¬ ((c + 1) = (c + 1 + 1)) := by omega
        have u149 : ¬ ((c + 1 + 1) = (c + 1)) := by omega
        have u150 : ¬ ((c + 1 + 1) ≤ (c + 1)) := by omega
        have u151 : (c + 1) < (c + 1 + 1) := by omega
        have u152 : (c + 1) ≤ (c + 1 + 1) := by omega
        have u153 : (c + 1) < (c + 1 + 1) + 1 := by omega
        simp -implicitDefEqProofs [-frz, -hd, t1, t2, t4, tj, k0, k1, k2, hm, hmi, hlt, hla, hr', ws, go, q1, q2, q3, q4, hjl, hp1, hp2, wl1, hmx, kk1, kk2, kk3, max2, nl, hd_nil, rm5, rm6, wl0, wl00, u109, u110, u111, u112, u113, u114, u115, u116, u117, u118, u119, u120, u121, u122, u123, u124, u125, u126, u127, u128, u129, u130, u131, u132, u133, u134, u135, u136, u137, u138, u139, u140, u141, u142, u143, u144, u145, u146, u147, u148, u149, u150, u151, u152, u153, obm, Option.bind_assoc, -decide_eq_true_eq]
        rw [hwo _ _ (fun x hx hxc => by first | rfl | simp [show ¬ (x = c) by omega, show ¬ (c ≤ x) by omega])]
        simp -implicitDefEqProofs [-frz, -hd, hd, t1, t2, t4, tj, k0, k1, k2, hm, hmi, hlt, hla, hr', ws, go, q1, q2, q3, q4, hjl, hp1, hp2, wl1, hmx, kk1, kk2, kk3, max2, nl, hd_nil, rm5, rm6, wl0, wl00, u109, u110, u111, u112, u113, u114, u115, u116, u117, u118, u119, u120, u121, u122, u123, u124, u125, u126, u127, u128, u129, u130, u131, u132, u133, u134, u135, u136, u137, u138, u139, u140, u141, u142, u143, u144, u145, u146, u147, u148, u149, u150, u151, u152, u153, obm, Option.bind_assoc, -decide_eq_true_eq]
        refine O.last (nl := newLast b.accs[j] l[j]) (vl' := .sl (c + 1) 1 0 1) M hm hrw hvp (by omega) (by simp [u109, u110, u111, u112, u113, u114, u115, u116, u117, u118, u119, u120, u121, u122, u123, u124, u125, u126, u127, u128, u129, u130, u131, u132, u133, u134, u135, u136, u137, u138, u139, u140, u141, u142, u143, u144, u145, u146, u147, u148, u149, u150, u151, u152, u153]) (fun x hx hxl hq hxc => ?_) (by rw [show newLast b.accs[j] l[j] = [worthP b.accs[j] l[j]] by unfold newLast; rw [nl]; rfl]; exact els_all (by simp [nl, hd_nil, rm5, rm6, wl0, wl00, u109, u110, u111, u112, u113, u114, u115, u116, u117, u118, u119, u120, u121, u122, u123, u124, u125, u126, u127, u128, u129, u130, u131, u132, u133, u134, u135, u136, u137, u138, u139, u140, u141, u142, u143, u144, u145, u146, u147, u148, u149, u150, u151, u152, u153]) rfl) (fun x hx => by simp at hx; omega) (.inl ⟨_, _, _, rfl⟩)
        simp [hx, show ¬ (x = c) by omega, show ¬ (c ≤ x) by omega, show ¬ (x = (c + 1)) by omega, show ¬ ((c + 1) ≤ x) by omega, show ¬ (x = (c + 1 + 1)) by omega, show ¬ ((c + 1 + 1) ≤ x) by omega]
      · have nl : b.accs[j].last = [] := by cases hh : b.accs[j].last with | nil => rfl | cons y l => rw [hh] at hvl; simp [els] at hvl
        have nl0 : b.accs[j].last.length = 0 := by rw [nl]; rfl
        have u154 : ¬ (0 = c) := by omega
        have u155 : ¬ (c = 0) := by omega
        have u156 : ¬ (c ≤ 0) := by omega
        have u157 : ¬ (0 = (c + 1)) := by omega
        have u158 : ¬ ((c + 1) = 0) := by omega
        have u159 : ¬ ((c + 1) ≤ 0) := by omega
        have u160 : ¬ (0 = (c + 1 + 1)) := by omega
        have u161 : ¬ ((c + 1 + 1) = 0) := by omega
        have u162 : ¬ ((c + 1 + 1) ≤ 0) := by omega
        have u163 : ¬ (1 = c) := by omega
        have u164 : ¬ (c = 1) := by omega
        have u165 : ¬ (c ≤ 1) := by omega
        have u166 : ¬ (1 = (c + 1)) := by omega
        have u167 : ¬ ((c + 1) = 1) := by omega
        have u168 : ¬ ((c + 1) ≤ 1) := by omega
        have u169 : ¬ (1 = (c + 1 + 1)) := by omega
        have u170 : ¬ ((c + 1 + 1) = 1) := by omega
        have u171 : ¬ ((c + 1 + 1) ≤ 1) := by omega
        have u172 : ¬ (la = c) := by omega
        have u173 : ¬ (c = la) := by omega
        have u174 : ¬ (c ≤ la) := by omega
        have u175 : ¬ (la = (c + 1)) := by omega
        have u176 : ¬ ((c + 1) = la) := by omega
        have u177 : ¬ ((c + 1) ≤ la) := by omega
        have u178 : ¬ (la = (c + 1 + 1)) := by omega
        have u179 : ¬ ((c + 1 + 1) = la) := by omega
        have u180 : ¬ ((c + 1 + 1) ≤ la) := by omega
        have u181 : ¬ (c = (c + 1)) := by omega
        have u182 : ¬ ((c + 1) = c) := by omega
        have u183 : ¬ ((c + 1) ≤ c) := by omega
        have u184 : c < (c + 1) := by omega
        have u185 : c ≤ (c + 1) := by omega
        have u186 : c < (c + 1) + 1 := by omega
        have u187 : ¬ (c = (c + 1 + 1)) := by omega
        have u188 : ¬ ((c + 1 + 1) = c) := by omega
        have u189 : ¬ ((c + 1 + 1) ≤ c) := by omega
        have u190 : c < (c + 1 + 1) := by omega
        have u191 : c ≤ (c + 1 + 1) := by omega
        have u192 : c < (c + 1 + 1) + 1 := by omega
        have u193 : ¬ ((c + 1) = (c + 1 + 1)) := by omega
        have u194 : ¬ ((c + 1 + 1) = (c + 1)) := by omega
        have u195 : ¬ ((c + 1 + 1) ≤ (c + 1)) := by omega
        have u196 : (c + 1) < (c + 1 + 1) := by omega
        have u197 : (c + 1) ≤ (c + 1 + 1) := by omega
        have u198 : (c + 1) < (c + 1 + 1) + 1 := by omega
        simp -implicitDefEqProofs [-frz, -hd, t1, t2, t4, tj, k0, k1, k2, hm, hmi, hlt, hla, hr', ws, go, q1, q2, q3, q4, hjl, hp1, hp2, wl1, hmx, kk1, kk2, kk3, max2, nl, hd_nil, rm5, rm6, wl0, wl00, u154, u155, u156, u157, u158, u159, u160, u161, u162, u163, u164, u165, u166, u167, u168, u169, u170, u171, u172, u173, u174, u175, u176, u177, u178, u179, u180, u181, u182, u183, u184, u185, u186, u187, u188, u189, u190, u191, u192, u193, u194, u195, u196, u197, u198, obm, Option.bind_assoc, -decide_eq_true_eq]
        rw [hwo _ _ (fun x hx hxc => by first | rfl | simp [show ¬ (x = c) by omega, show ¬ (c ≤ x) by omega])]
        simp -implicitDefEqProofs [-frz, -hd, hd, t1, t2, t4, tj, k0, k1, k2, hm, hmi, hlt, hla, hr', ws, go, q1, q2, q3, q4, hjl, hp1, hp2, wl1, hmx, kk1, kk2, kk3, max2, nl, hd_nil, rm5, rm6, wl0, wl00, u154, u155, u156, u157, u158, u159, u160, u161, u162, u163, u164, u165, u166, u167, u168, u169, u170, u171, u172, u173, u174, u175, u176, u177, u178, u179, u180, u181, u182, u183, u184, u185, u186, u187, u188, u189, u190, u191, u192, u193, u194, u195, u196, u197, u198, obm, Option.bind_assoc, -decide_eq_true_eq]
        refine O.last (nl := newLast b.accs[j] l[j]) (vl' := .sl (c + 1) 1 0 1) M hm hrw hvp (by omega) (by simp [u154, u155, u156, u157, u158, u159, u160, u161, u162, u163, u164, u165, u166, u167, u168, u169, u170, u171, u172, u173, u174, u175, u176, u177, u178, u179, u180, u181, u182, u183, u184, u185, u186, u187, u188, u189, u190, u191, u192, u193, u194, u195, u196, u197, u198]) (fun x hx hxl hq hxc => ?_) (by rw [show newLast b.accs[j] l[j] = [worthP b.accs[j] l[j]] by unfold newLast; rw [nl]; rfl]; exact els_all (by simp [nl, hd_nil, rm5, rm6, wl0, wl00, u154, u155, u156, u157, u158, u159, u160, u161, u162, u163, u164, u165, u166, u167, u168, u169, u170, u171, u172, u173, u174, u175, u176, u177, u178, u179, u180, u181, u182, u183, u184, u185, u186, u187, u188, u189, u190, u191, u192, u193, u194, u195, u196, u197, u198]) rfl) (fun x hx => by simp at hx; omega) (.inl ⟨_, _, _, rfl⟩)
        simp [hx, show ¬ (x = c) by omega, show ¬ (c ≤ x) by omega, show ¬ (x = (c + 1)) by omega, show ¬ ((c + 1) ≤ x) by omega, show ¬ (x = (c + 1 + 1)) by omega, show ¬ ((c + 1 + 1) ≤ x) by omega]
    · rintro ⟨t, h, c⟩ ⟨t1, t2, t4, tj, k0, k1, rows, O, M⟩
      simp only at t1 t2 t4 tj k0 k1 O
      simp -implicitDefEqProofs [-frz, t1, t2, t4, tj, k0, k1, hv1, hv2]
      have O3 := Own.frame O (h' := h.put 1 (some ⟨5, [[.sl la 5 0 12, I b.rate, I b.infl, I b.idx, v]]⟩)) (Nat.le_refl _) (fun l hl hlc => by simp [show ¬ (l = 1) by omega])
      exact post_own O3 M _ _ _ (by have := vb.book; omega) (qN_small vb l 12)
end Go.Proofs.Ytdckleaemkcapaa.AM
