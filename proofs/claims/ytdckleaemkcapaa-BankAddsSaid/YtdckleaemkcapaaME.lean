/- Parts of the proof: B41, B42, B43, B44, B45, B46. -/
import Derived.Test.YtdckleaemkcapaaB36
set_option maxHeartbeats 0
set_option linter.unusedSimpArgs false
set_option linter.unusedVariables false
set_option linter.unusedSectionVars false
namespace Go.Proofs.Ytdckleaemkcapaa.AM
open Go Go.Proofs
attribute [local simp] AV.cells okc AV.isBad fieldAddrA ld setCells stA skipV appendA hd makeA bnd sliceA kindA freshA killOk loadsAt newT empT lay_get allocA buildA buildRow builtinA lenA els indexAddrA isNil opA evA lit yldA binA binI unA pickA boolV intV fieldA mk flat lf lf.lfs frz
section
variable {P : Program} {md : Nat → Option CMode} {β α : Type} {b : Code} {K : Ex × St → Option β} {R : Option β → Prop}
/-- A loop that looks for the first one of a list that has something; what it does there may leave. -/
theorem scan_first (l : List α) (f : α → Bool) (I : Nat → St → Prop) (s : St) (h : I 0 s)
    (step : ∀ j s, I j s → ∀ hj : j < l.length, f l[j] = false → GoesOn (I (j + 1)) (exL P md b s))
    (hit : ∀ j s, I j s → ∀ hj : j < l.length, f l[j] = true → l.findIdx? f = some j → Leaves (fun e s => R (K (e, s))) (exL P md b s))
    (done : ∀ s, I l.length s → l.findIdx? f = none → Leaves (fun e s => R (K (e, s))) (exL P md b s)) :
    R ((exL P md (.loop b) s).bind K) := by
  refine count_or l.length (fun j s => I j s ∧ ∀ i (hi : i < l.length), i < j → f l[i] = false) s ⟨h, fun i _ hi => by omega⟩ ?_ ?_
  · rintro j s ⟨hI, hn⟩ hj
    cases hf : f l[j] with
    | false =>
      left
      have h1 := step j s hI hj hf
      cases he : exL P md b s with
      | none => rw [he] at h1; exact h1.elim
      | some p =>
        obtain ⟨e, s'⟩ := p
        rw [he] at h1
        cases e
        · refine ⟨h1, fun i hi hij => ?_⟩
          by_cases e : i = j
          · subst e; exact hf
          · exact hn i hi (by omega)
        · exact h1.elim
        · exact h1.elim
    | true =>
      right
      refine hit j s hI hj hf ?_
      rw [List.findIdx?_eq_some_iff_getElem]
      exact ⟨hj, hf, fun i hi => by simpa using hn i (by omega) hi⟩
  · rintro s ⟨hI, hn⟩
    refine done s hI ?_
    rw [List.findIdx?_eq_none_iff]
    intro x hx
    obtain ⟨i, hi, rfl⟩ := List.mem_iff_getElem.1 hx
    exact hn i hi hi
end
theorem set_row {es : List (List AV)} {off n k : Nat} {T : List Int} {x : Int} (h1 : off + n ≤ es.length) (h2 : (es.drop off).take n = ints T) (hk : k < n) : ((es.set (off + k) [I x]).drop off).take n = ints (T.set k x) := by
  have hn : T.length = n := by have := congrArg List.length h2; simp at this; omega
  apply List.ext_getElem?
  intro i
  have e := congrArg (fun l => l[i]?) h2
  simp only [List.getElem?_take, List.getElem?_drop, List.getElem?_map] at e ⊢
  rw [List.getElem?_set, List.getElem?_set]
  by_cases hi : i < n
  · rw [if_pos hi] at e ⊢
    by_cases e1 : k = i
    · subst e1
      rw [if_pos rfl, if_pos (by omega), if_pos rfl, if_pos (by omega)]
      rfl
    · rw [if_neg (by omega), if_neg e1, e]
  · rw [if_neg hi] at e ⊢
    by_cases e1 : k = i
    · omega
    · rw [if_neg e1]
      exact e
/-- A part is given away. -/
theorem Own.part {Q : Nat → Prop} {c : Nat} {h h' : Heap} {la : Nat} {v : AV} {accs : List Acc} {book : List Ent} {rows : List (List AV)} (O : Own Q c h la v accs book rows) {j : Nat} (hm : j < 12) {a : Acc} {lp off n : Nat} {vl : AV} {BB : Blk} {k : Nat} {x : Int}
    (ha : accs[j]? = some a) (hrw : rows[j]? = some (rw5 a.opn a.cash a.loan (.sl lp 1 off n) vl)) (hB : h lp = some BB) (b2 : off + n ≤ BB.es.length) (b3 : (BB.es.drop off).take n = ints a.parts) (hvl : els h vl = some (ints a.last)) (hk : k < n)
    (hlp : h' lp = some ⟨BB.sz, BB.es.set (off + k) [I x]⟩) (hh : ∀ y, y ≠ lp → Q y → y < c → h' y = h y) : Own Q c h' la v (accs.set j { a with parts := a.parts.set k x }) book rows := by
  have hrl : j < rows.length := by rw [O.len]; exact hm
  have at3 : At rows j 3 lp := ⟨_, _, hrw, rfl, by simp⟩
  have s3 := O.sep2 j 3 lp at3
  have same : rows.set j (rw5 a.opn a.cash a.loan (.sl lp 1 off n) vl) = rows := by
    rw [List.getElem?_eq_getElem hrl] at hrw
    have := Option.some.inj hrw
    rw [← this]
    exact List.set_getElem_self hrl
  have hla' : h' la = some ⟨5, rows⟩ := by rw [hh la (fun e => s3.1 e.symm) O.sep4.1 O.sep4.2]; exact O.hla
  have U := O.upd (h' := h') (c' := c) (a := a) (a' := { a with parts := a.parts.set k x }) (vp' := .sl lp 1 off n) (vl' := vl) hm hrw (Nat.le_refl _) (by rw [same]; exact hla') (fun l hl hin => ?_) ?_ ?_ (fun l hl => .inl hl) (fun l hl => .inl hl) (fun l h1 h2 => ?_)
  · rw [same] at U
    exact U
  · rcases hin with hin | ⟨i, f, hij, hin⟩
    · have t := O.sep3 l hin
      exact hh l (fun e => s3.2.1 (e ▸ hin)) t.2.1 t.2.2
    · have t := O.sep2 i f l hin
      exact hh l (fun e => hij (O.sep1 i f j 3 lp (e ▸ hin) at3).1) t.2.2.1 t.2.2.2
  · simp only [els, hlp, Option.bind_some]
    rw [if_pos (by simp; omega), set_row b2 b3 hk]
  · rw [els_congr fun l hl => ?_]
    · exact hvl
    · have t := O.sep2 j 4 l ⟨_, vl, hrw, rfl, hl⟩
      exact hh l (fun e => by have := (O.sep1 j 3 j 4 lp at3 ⟨_, vl, hrw, rfl, e ▸ hl⟩).2; omega) t.2.2.1 t.2.2.2
  · have := (O.sep1 j 3 j 4 l ⟨_, _, hrw, rfl, h1⟩ ⟨_, vl, hrw, rfl, h2⟩).2
    omega
def partsP (a : Acc) (k : Int) : Int := let w := worthP a k; if w < 4 then 1 else IntKind.i64.wrap (Int.tdiv w 4)
theorem worthP_small (a : Acc) (k : Int) : -1000000000000 ≤ worthP a k ∧ worthP a k ≤ 1000000000000 := by
  unfold worthP clampP
  split
  · omega
  · split <;> omega
theorem partsP_small (a : Acc) (k : Int) : 1 ≤ partsP a k ∧ partsP a k ≤ 1000000000000 := by
  have h := worthP_small a k
  unfold partsP
  generalize worthP a k = w at *
  simp only
  split
  · omega
  · rw [Int.tdiv_eq_ediv_of_nonneg (by omega), wrap_id (by omega) (by omega)]
    omega
theorem rpart_x (a : Acc) (k : Int) (h : Heap) (c : Nat) : callA (mdT tblB) (run Try.prog (mdT tblB)) 84 [.agg (ac a), I k] h c = some (I (partsP a k), h, c) := by
  obtain ⟨h', c', e⟩ : ∃ h c, run Try.prog (mdT tblB) 84 [.agg (ac a), I k] Heap.none 0 = some (I (partsP a k), h, c) := by
    have hw := fun h c => rworth_x a k h c
    have hs := worthP_small a k
    unfold partsP
    revert hw hs
    generalize worthP a k = w
    intro hw hs
    rw [run_eq, show mdT tblB 84 = some .pure from rfl, Option.bind_some, Try.func84]
    have e : (if 1 < IntKind.i64.wrap (Int.tdiv w 4) then IntKind.i64.wrap (Int.tdiv w 4) else 1) = (if w < 4 then 1 else IntKind.i64.wrap (Int.tdiv w 4)) := by
      by_cases g : 0 ≤ w
      · rw [Int.tdiv_eq_ediv_of_nonneg g, wrap_id (by omega) (by omega)]
        split <;> split <;> omega
      · have h1 : Int.tdiv w 4 ≤ 0 := by
          have := Int.tdiv_nonneg (a := -w) (b := 4) (by omega) (by omega)
          rw [Int.neg_tdiv] at this
          omega
        have h2 : -1000000000000 ≤ Int.tdiv w 4 := by
          have h3 : Int.tdiv (-w) 4 ≤ 1000000000000 := by rw [Int.tdiv_eq_ediv_of_nonneg (by omega)]; omega
          rw [Int.neg_tdiv] at h3
          omega
        rw [wrap_id (by omega) (by omega), if_neg (by omega), if_pos (by omega)]
    simp -implicitDefEqProofs [Try.f84, hw, max2, e]
  exact call_of rfl rfl e rfl rfl
theorem bpart_x (a : Acc) (k : Int) (h : Heap) (c : Nat) : callA (mdT tblB) (run Try.prog (mdT tblB)) 86 [.agg (ac a), I k] h c = some (I (partsP a k), h, c) := by
  obtain ⟨h', c', e⟩ : ∃ h c, run Try.prog (mdT tblB) 86 [.agg (ac a), I k] Heap.none 0 = some (I (partsP a k), h, c) := by
    have hw := fun h c => bworth_x a k h c
    unfold partsP
    revert hw
    generalize worthP a k = w
    intro hw
    rw [run_eq, show mdT tblB 86 = some .pure from rfl, Option.bind_some, Try.func86]
    by_cases g : w < 4
    · simp -implicitDefEqProofs [Try.f86, hw, g]
    · simp -implicitDefEqProofs [Try.f86, hw, g]
  exact call_of rfl rfl e rfl rfl
def trdP (b : Bnk) (co of k : Int) : Int := bif chkP b [co, of] == 0 then bif co == of then 8 else bif outP k 0 1000000000000 then 1 else 0 else chkP b [co, of]
theorem trade_c (b : Bnk) (w : b.Wfb) (co of k : Int) (h : Heap) (c : Nat) : callA (mdT tblB) (run Try.prog (mdT tblB)) 80 [.agg (bc b), I co, I of, I k] h c = some (E (trdP b co of k), h, c) := by
  obtain ⟨h', c', e⟩ : ∃ h c, run Try.prog (mdT tblB) 80 [.agg (bc b), I co, I of, I k] Heap.none 0 = some (E (trdP b co of k), h, c) := by
    have hk := fun v h c hv => bchk_c b w [co, of] (by simp) v h c hv
    generalize hr : trdP b co of k = r
    unfold trdP at hr
    rw [run_eq, show mdT tblB 80 = some .pure from rfl, Option.bind_some, Try.func80]
    by_cases g0 : chkP b [co, of] = 0
    · rw [g0] at hk hr
      simp only [BEq.rfl, cond_true] at hr
      cases g3 : (co == of)
      · cases g4 : outP k 0 1000000000000
        · rw [g3, g4] at hr
          simp only [cond_false] at hr
          subst hr
          simp -implicitDefEqProofs [Try.f80, hk, g3, g4, depth]
        · rw [g3, g4] at hr
          simp only [cond_false, cond_true] at hr
          subst hr
          simp -implicitDefEqProofs [Try.f80, hk, g3, g4, depth]
      · rw [g3] at hr
        simp only [cond_true] at hr
        subst hr
        simp -implicitDefEqProofs [Try.f80, hk, g3, depth]
    · have g1 : (chkP b [co, of] == 0) = false := by simpa using g0
      have g2 : (chkP b [co, of] != 0) = true := by simp [bne, g1]
      rw [g1] at hr
      simp only [cond_false] at hr
      rw [hr] at hk g2
      simp -implicitDefEqProofs [Try.f80, hk, g2, depth]
  exact call_of rfl rfl e rfl rfl
end Go.Proofs.Ytdckleaemkcapaa.AM
namespace Go.Proofs.Ytdckleaemkcapaa.AM
open Go Go.Proofs
attribute [local simp] AV.cells okc AV.isBad fieldAddrA ld setCells stA skipV appendA hd makeA bnd sliceA kindA freshA killOk loadsAt newT empT lay_get allocA buildA buildRow builtinA lenA els indexAddrA isNil opA evA lit yldA binA binI unA pickA boolV intV fieldA mk flat lf lf.lfs frz
def buyP (b : Bnk) (co of k : Int) : Int × Bnk := bif trdP b co of k == 0 then (match (accAt b of).parts.findIdx? (fun p => p == -1) with
  | none => (7, noB)
  | some i => bif decide ((accAt b co).cash < partsP (accAt b of) k) then (12, noB) else bkP (setB b of { accAt b of with parts := (accAt b of).parts.set i co }) co 6 (-(partsP (accAt b of) k)))
  else (trdP b co of k, noB)
theorem trd_zero {b : Bnk} {co of k : Int} (h : trdP b co of k = 0) : chkP b [co, of] = 0 ∧ co ≠ of ∧ outP k 0 1000000000000 = false := by
  unfold trdP at h
  cases h0 : chkP b [co, of] == 0 <;> rw [h0] at h <;> simp only [cond_true, cond_false] at h
  · rw [h] at h0; cases h0
  · cases h1 : co == of <;> rw [h1] at h <;> simp only [cond_true, cond_false] at h
    · cases h2 : outP k 0 1000000000000 <;> rw [h2] at h <;> simp only [cond_true, cond_false] at h
      · exact ⟨by simpa using h0, by simpa using h1, rfl⟩
      · cases h
    · cases h
theorem rbuy_x (b : Bnk) (w : b.Wfb) (co of k : Int) : PostB (buyP b co of k).1 (buyP b co of k).2 (run Try.prog (mdT tblB) 53 [.agg (bc b), I co, I of, I k] Heap.none 0) := by
  have hk := fun v h c hv => rchk_c b w [co, of] (by simp) v h c hv
  generalize hr : buyP b co of k = r
  unfold buyP at hr
  rw [run_eq, show mdT tblB 53 = some .pure from rfl, Option.bind_some, Try.func53]
  by_cases g0 : chkP b [co, of] = 0
  case neg =>
    have g1 : (chkP b [co, of] == 0) = false := by simpa using g0
    have g2 : (chkP b [co, of] != 0) = true := by simp [bne, g1]
    have ht : trdP b co of k = chkP b [co, of] := by unfold trdP; rw [g1]; rfl
    rw [ht, g1] at hr
    simp only [cond_false] at hr
    subst hr
    simp -implicitDefEqProofs [depth, Try.f53, hk, g2]
    exact post_err _ _ _
  rw [g0] at hk
  cases g3 : (co == of)
  case true =>
    have ht : trdP b co of k = 8 := by unfold trdP; rw [g0, g3]; rfl
    rw [ht] at hr
    simp only [show ((8 : Int) == 0) = false from rfl, cond_false] at hr
    subst hr
    simp -implicitDefEqProofs [depth, Try.f53, hk, g3]
    exact post_err _ _ _
  cases g4 : outP k 0 1000000000000
  case true =>
    have ht : trdP b co of k = 1 := by unfold trdP; rw [g0, g3, g4]; rfl
    rw [ht] at hr
    simp only [show ((1 : Int) == 0) = false from rfl, cond_false] at hr
    subst hr
    simp -implicitDefEqProofs [depth, Try.f53, hk, g3, g4]
    exact post_err _ _ _
  have ht : trdP b co of k = 0 := by unfold trdP; rw [g0, g3, g4]; rfl
  rw [ht] at hr
  simp only [BEq.rfl, cond_true] at hr
  obtain ⟨vb, gg⟩ := chk_zero g0
  obtain ⟨n0, n1, hml, hop⟩ := gg co (by simp)
  obtain ⟨f0, f1, hfl, hof⟩ := gg of (by simp)
  obtain ⟨m, rfl⟩ : ∃ m : Nat, co = m := ⟨co.toNat, by omega⟩
  obtain ⟨e, rfl⟩ : ∃ e : Nat, of = e := ⟨of.toNat, by omega⟩
  simp only [Int.toNat_natCast] at hml hfl
  have hne : m ≠ e := by intro h; subst h; simp at g3
  have hm : m < 12 := by have := vb.len; omega
  have he : e < 12 := by have := vb.len; omega
  have hmi : (m : Int) < 12 := by omega
  have hei : (e : Int) < 12 := by omega
  have haa : accAt b m = b.accs[m] := by unfold accAt; simp [hml]
  have hae : accAt b e = b.accs[e] := by unfold accAt; simp [hfl]
  rw [haa, hae] at hr
  have aok := vb.accs _ (List.getElem_mem hml)
  have eok := vb.accs _ (List.getElem_mem hfl)
  have lp := eok.lp
  simp -implicitDefEqProofs [depth, Try.f53, hk, g3, g4, obm, Option.bind_assoc]
  refine scan_first (R := PostB r.1 r.2) b.accs[e].parts (fun p => p == -1) (fun j s => s.h 0 = some ⟨5, [bc b]⟩ ∧ s.h 1 = some ⟨5, [noC]⟩ ∧ s.c = 3 ∧ s.t 1 = I m ∧ s.t 2 = I e ∧ s.t 3 = I k ∧ s.t 4 = .ptr 0 0 0 ∧ s.t 8 = .ptr 1 0 0 ∧ s.t 11 = I j) _ ?_ ?_ ?_ ?_
  · simp
  · rintro j ⟨t, h, c⟩ ⟨h0, h1, hc, t1, t2, t3, t4, t8, t11⟩ hj hp
    simp only at h0 h1 hc t1 t2 t3 t4 t8 t11 hp
    have k1 : decide ((j : Int) < 4) = true := decide_eq_true (by omega)
    have ws : IntKind.i64.wrap ((j : Int) + 1) = ((j + 1 : Nat) : Int) := wrap_succ (by omega)
    have hp' : (b.accs[e].parts[j] != -1) = true := by unfold bne; rw [hp]; rfl
    simp -implicitDefEqProofs [h0, h1, hc, t1, t2, t3, t4, t8, t11, hj, hfl, k1, hp', ws, Acc.cells, -decide_eq_true_eq]
  · rintro j ⟨t, h, c⟩ ⟨h0, h1, hc, t1, t2, t3, t4, t8, t11⟩ hj hp hidx
    simp only at h0 h1 hc t1 t2 t3 t4 t8 t11 hp
    subst hc
    rw [hidx] at hr
    simp only at hr
    have k1 : decide ((j : Int) < 4) = true := decide_eq_true (by omega)
    have hp' : (b.accs[e].parts[j] != -1) = false := by unfold bne; rw [hp]; rfl
    have hpx := rpart_x b.accs[e] k
    have hps := partsP_small b.accs[e] k
    revert hpx hps hr
    generalize partsP b.accs[e] k = q
    intro hr hpx hps
    have wq : IntKind.i64.wrap (-q) = -q := wrap_id (by omega) (by omega)
    cases g5 : decide (b.accs[m].cash < q)
    case true =>
      rw [g5] at hr
      simp only [cond_true] at hr
      subst hr
      simp -implicitDefEqProofs [-frz, h0, h1, t1, t2, t3, t4, t8, t11, hj, hfl, hml, k1, hp', hpx, g5, Acc.cells, -decide_eq_true_eq, -decide_eq_false_iff_not]
      exact post_err _ _ _
    rw [g5] at hr
    simp only [cond_false] at hr
    simp -implicitDefEqProofs [-frz, h0, h1, t1, t2, t3, t4, t8, t11, hj, hfl, hml, k1, hp', hpx, g5, wq, Acc.cells, obm, Option.bind_assoc, -decide_eq_true_eq, -decide_eq_false_iff_not]
    refine copy_to (.inl rfl) b vb w _ _ _ ?_
    intro h2 c1 la v rows hc hlow O M
    have h0' : h2 0 = some ⟨5, [bc b]⟩ := by rw [hlow 0 (by omega)]; exact h0
    have h1' : h2 1 = some ⟨5, [noC]⟩ := by rw [hlow 1 (by omega)]; exact h1
    have hla := O.hla
    have hlt : e < rows.length := by rw [O.len]; exact he
    obtain ⟨a, vp, vl, ha, hrw, hvp, hvl⟩ := O.get he
    rw [List.getElem?_eq_getElem hfl] at ha
    cases ha
    have hr' : rows[e] = [B b.accs[e].opn, I b.accs[e].cash, I b.accs[e].loan, vp, vl] := by rw [List.getElem?_eq_getElem hlt] at hrw; exact Option.some.inj hrw
    obtain ⟨sp, sl⟩ := M.get he hrw
    have lge := O.sep4.1
    have lc1 := O.sep4.2
    have q1 : ¬ (la = 0) := by omega
    have q2 : ¬ (0 = la) := by omega
    have q3 : ¬ (la = 1) := by omega
    have q4 : ¬ (1 = la) := by omega
    have hv1 := slv_cells O.bkv
    have hv2 := slv_okc O.bkv
    unfold AV.cells at hv1
    unfold okc at hv2
    obtain ⟨lq, off, n, rfl⟩ : ∃ l off n, vp = .sl l 1 off n := by
      rcases sp with h | rfl | rfl
      · exact h
      · have := congrArg List.length (Option.some.inj hvp); simp [lp] at this
      · have := congrArg List.length (Option.some.inj hvp); simp [lp] at this
    obtain ⟨BB, b1, b2, b3, b4⟩ := els_sl hvp
    have b5 : n = 4 := by simpa [lp] using b4.symm
    subst b5
    have at3 := O.sep2 e 3 lq ⟨_, _, hrw, rfl, by simp⟩
    have p1 : ¬ (lq = la) := at3.1
    have p2 : ¬ (la = lq) := fun h => p1 h.symm
    have p3 : ¬ (lq = 0) := by have := at3.2.2.1; omega
    have p4 : ¬ (0 = lq) := fun h => p3 h.symm
    have p5 : ¬ (lq = 1) := by have := at3.2.2.1; omega
    have p6 : ¬ (1 = lq) := fun h => p5 h.symm
    have hbj : off + j < BB.es.length := by omega
    have hj4 : j < 4 := by omega
    have hji : (j : Int) < 4 := by omega
    have hrow : BB.es[off + j] = [I b.accs[e].parts[j]] := by
      have t := congrArg (fun l => l[j]?) b3
      simp only [List.getElem?_take, List.getElem?_drop, List.getElem?_map, if_pos hj4] at t
      rw [List.getElem?_eq_getElem hbj, List.getElem?_eq_getElem hj] at t
      exact Option.some.inj t
    simp -implicitDefEqProofs [-frz, h0', h1', t1, t2, t3, t4, t8, t11, hla, hlt, hr', he, hei, hbj, hj4, hji, hrow, b1, q1, q2, q3, q4, p1, p2, p3, p4, p5, p6, hv1, hv2, wq, obm, Option.bind_assoc]
    have hem : (b.accs.set e { b.accs[e] with parts := b.accs[e].parts.set j m })[m]? = some b.accs[m] := by rw [List.getElem?_set, if_neg (by omega)]; exact List.getElem?_eq_getElem hml
    have ham : accAt (setB b e { b.accs[e] with parts := b.accs[e].parts.set j m }) m = b.accs[m] := by
      unfold accAt setB
      simp only [Int.toNat_natCast]
      rw [hem]
      rfl
    unfold bkP at hr
    rw [ham] at hr
    simp only [setB, Int.toNat_natCast, plainB] at hr
    rw [show ((-q : Int) == 0) = false by simp; omega] at hr
    simp only [cond_false] at hr
    have hbk := vb.book
    have O' := O.part (x := (m : Int)) (h' := (h2.put 0 (some ⟨5, [[.sl la 5 0 12, I b.rate, I b.infl, I b.idx, v]]⟩)).put lq (some ⟨BB.sz, BB.es.set (off + j) [I m]⟩)) he (List.getElem?_eq_getElem hfl) hrw b1 b2 b3 hvl hj4 (by simp) (fun y hy hq hyc => by simp [hy, show ¬ (y = 0) by omega])
    refine book_to (Q := fun l => 3 ≤ l) (p := 0) (la := la) (v := v) (r := b.rate) (f := b.infl) (x := b.idx) _ _ _ (by simp [p3, p4]) (by simp) O' M hm hem aok.cash (by omega) (by omega) ?_ ?_ ?_
    · intro h; omega
    · intro _ hbad
      rw [hbad] at hr
      simp only [cond_true] at hr
      subst hr
      simp -implicitDefEqProofs [-frz, h1', t1, t2, t3, t4, t8, t11, p5, p6]
      exact post_err _ _ _
    · intro _ hbad h3 c3 v3 rows3 x0 pk hc3 O3 M3
      rw [hbad] at hr
      simp only [cond_false] at hr
      subst hr
      have h31 : h3 1 = some ⟨5, [noC]⟩ := by rw [pk 1 (by simp) (by omega)]; simp [h1', p5, p6]
      have hw1 := slv_cells O3.bkv
      have hw2 := slv_okc O3.bkv
      unfold AV.cells at hw1
      unfold okc at hw2
      simp -implicitDefEqProofs [-frz, x0, h31, t1, t2, t3, t4, t8, t11, hw1, hw2]
      have O4 := O3.frame (h' := h3.put 1 (some ⟨5, [[.sl la 5 0 12, I b.rate, I b.infl, I b.idx, v3]]⟩)) (Nat.le_refl _) (fun l hl hlc => by simp [show ¬ (l = 1) by omega])
      have sm : Small (b.accs.set e { b.accs[e] with parts := b.accs[e].parts.set j m }) := small_set (small_of vb) (by simp [lp]) (by have := vb.last _ (List.getElem_mem hfl); simp only; omega)
      exact post_nrm rfl (post_own O4 M3 _ _ _ (by simp; omega) (small_set sm (by have := aok.lp; simp only; omega) (by have := vb.last _ (List.getElem_mem hml); simp only; omega)))
  · rintro ⟨t, h, c⟩ ⟨h0, h1, hc, t1, t2, t3, t4, t8, t11⟩ hidx
    simp only at h0 h1 hc t1 t2 t3 t4 t8 t11
    rw [hidx] at hr
    simp only at hr
    subst hr
    rw [lp] at t11
    simp -implicitDefEqProofs [-frz, h0, h1, t1, t2, t3, t4, t8, t11]
    exact post_err _ _ _
end Go.Proofs.Ytdckleaemkcapaa.AM
namespace Go.Proofs.Ytdckleaemkcapaa.AM
open Go Go.Proofs
attribute [local simp] AV.cells okc AV.isBad fieldAddrA ld setCells stA skipV appendA hd makeA bnd sliceA kindA freshA killOk loadsAt newT empT lay_get allocA buildA buildRow builtinA lenA els indexAddrA isNil opA evA lit yldA binA binI unA pickA boolV intV fieldA mk flat lf lf.lfs frz
theorem index_c (z : Bool) (l : List Int) (hl : l.length ≤ 1000) (x : Int) (h : Heap) (c : Nat) : callA (mdT tblB) (run Try.prog (mdT tblB)) 85 [.ro z (ints l), I x] h c = some (I (match l.findIdx? (fun p => x == p) with | some i => (i : Int) | none => -1), h, c) := by
  obtain ⟨h', c', e⟩ : ∃ h c, run Try.prog (mdT tblB) 85 [.ro z (ints l), I x] Heap.none 0 = some (I (match l.findIdx? (fun p => x == p) with | some i => (i : Int) | none => -1), h, c) := by
    generalize hv : (match l.findIdx? (fun p => x == p) with | some i => (i : Int) | none => -1) = v
    rw [run_eq, show mdT tblB 85 = some .pure from rfl, Option.bind_some, Try.func85]
    simp -implicitDefEqProofs [Try.f85, Option.bind_assoc]
    refine scan_first (R := fun o => ∃ h c, o = some (I v, h, c)) l (fun p => x == p) (fun j s => s.t 0 = .ro z (ints l) ∧ s.t 1 = I x ∧ s.t 7 = I l.length ∧ s.t 8 = I j) _ ?_ ?_ ?_ ?_
    · simp
    · rintro j ⟨t, h, c⟩ ⟨t0, t1, t7, t8⟩ hj hp
      simp only at t0 t1 t7 t8 hp
      simp -implicitDefEqProofs [t0, t1, t7, t8, hj, hp]
      exact wrap_succ (by omega)
    · rintro j ⟨t, h, c⟩ ⟨t0, t1, t7, t8⟩ hj hp hi
      simp only at t0 t1 t7 t8 hp
      rw [hi] at hv
      simp only at hv
      simp -implicitDefEqProofs [t0, t1, t7, t8, hj, hp, ← hv]
    · rintro ⟨t, h, c⟩ ⟨t0, t1, t7, t8⟩ hi
      simp only at t0 t1 t7 t8
      rw [hi] at hv
      simp only at hv
      simp -implicitDefEqProofs [t0, t1, t7, t8, ← hv]
  exact call_of rfl rfl e rfl rfl
theorem moveP_of {b : Bnk} (vb : Valid b) {m : Nat} {q sgn : Int} {st : Bool} (hc : chkP b [(m : Int)] = 0) (hq : 0 ≤ q ∧ q ≤ 1000000000000) : moveP b m 6 q sgn st = bif st && decide ((accAt b m).cash < q) then (12, noB) else bkP b m 6 (sgn * q) := by
  unfold moveP
  rw [hc, show outP 6 0 9 = false from rfl, outP_false.2 hq]
  rfl
theorem findIdx_flip (l : List Int) (x : Int) : l.findIdx? (fun p => x == p) = l.findIdx? (fun p => p == x) := by
  congr 1
  funext p
  rw [Bool.eq_iff_iff]
  simp only [beq_iff_eq]
  exact eq_comm
theorem chk_one {b : Bnk} {m e : Int} (h : chkP b [m, e] = 0) : chkP b [m] = 0 := by
  obtain ⟨vb, g⟩ := chk_zero h
  exact chkP_of vb fun n hn => by
    simp at hn
    subst hn
    have := g n (by simp)
    exact ⟨this.1, this.2.1, this.2.2.2⟩
theorem bbuy_x (b : Bnk) (w : b.Wfb) (co of k : Int) : PostB (buyP b co of k).1 (buyP b co of k).2 (run Try.prog (mdT tblB) 55 [.agg (bc b), I co, I of, I k] Heap.none 0) := by
  have hk := trade_c b w co of k
  generalize hr : buyP b co of k = r
  unfold buyP at hr
  rw [run_eq, show mdT tblB 55 = some .pure from rfl, Option.bind_some, Try.func55]
  by_cases g0 : trdP b co of k = 0
  case neg =>
    have g1 : (trdP b co of k == 0) = false := by simpa using g0
    have g2 : (trdP b co of k != 0) = true := by simp [bne, g1]
    rw [g1] at hr
    simp only [cond_false] at hr
    subst hr
    simp -implicitDefEqProofs [-frz, Try.f55, hk, g2]
    exact post_err _ _ _
  rw [g0] at hk hr
  simp only [BEq.rfl, cond_true] at hr
  obtain ⟨c0, hce, g4⟩ := trd_zero g0
  obtain ⟨vb, gg⟩ := chk_zero c0
  have c1 := chk_one c0
  obtain ⟨n0, n1, hml, hop⟩ := gg co (by simp)
  obtain ⟨f0, f1, hfl, hof⟩ := gg of (by simp)
  obtain ⟨m, rfl⟩ : ∃ m : Nat, co = m := ⟨co.toNat, by omega⟩
  obtain ⟨e, rfl⟩ : ∃ e : Nat, of = e := ⟨of.toNat, by omega⟩
  simp only [Int.toNat_natCast] at hml hfl
  have hne : m ≠ e := by intro h; subst h; simp at hce
  have hm : m < 12 := by have := vb.len; omega
  have he : e < 12 := by have := vb.len; omega
  have hmi : (m : Int) < 12 := by omega
  have hei : (e : Int) < 12 := by omega
  have haa : accAt b m = b.accs[m] := by unfold accAt; simp [hml]
  have hae : accAt b e = b.accs[e] := by unfold accAt; simp [hfl]
  rw [haa, hae] at hr
  have aok := vb.accs _ (List.getElem_mem hml)
  have eok := vb.accs _ (List.getElem_mem hfl)
  have lp := eok.lp
  have hix := index_c b.accs[e].np b.accs[e].parts (by omega) (-1)
  rw [findIdx_flip] at hix
  cases hidx : b.accs[e].parts.findIdx? (fun p => p == -1) with
  | none =>
    rw [hidx] at hr hix
    simp only at hr hix
    subst hr
    simp -implicitDefEqProofs [-frz, Try.f55, hk, hix, hfl, Acc.cells]
    exact post_err _ _ _
  | some i =>
    rw [hidx] at hr hix
    simp only at hr hix
    have hi4 : i < 4 := by
      rw [List.findIdx?_eq_some_iff_getElem] at hidx
      obtain ⟨h, _⟩ := hidx
      omega
    have hii : (i : Int) < 4 := by omega
    have ki : decide ((i : Int) < 0) = false := decide_eq_false (by omega)
    have hpx := bpart_x b.accs[e] k
    have hps := partsP_small b.accs[e] k
    revert hpx hps hr
    generalize partsP b.accs[e] k = q
    intro hr hpx hps
    have hmv := moveP_of (sgn := -1) (st := true) vb c1 (q := q) (by omega)
    rw [haa, show (-1 : Int) * q = -q by omega] at hmv
    have hgood := move_good b m 6 q (-1) true
    rw [hmv] at hgood
    simp only [Bool.true_and] at hmv hgood
    simp -implicitDefEqProofs [-frz, Try.f55, hk, hix, hfl, hpx, ki, Acc.cells, obm, Option.bind_assoc, -decide_eq_true_eq, -decide_eq_false_iff_not]
    have hem : ∀ y : Acc, (b.accs.set e y)[m]? = some b.accs[m] := by intro y; rw [List.getElem?_set, if_neg (by omega)]; exact List.getElem?_eq_getElem hml
    have ham : ∀ y : Acc, accAt (setB b e y) m = b.accs[m] := by
      intro y
      unfold accAt setB
      simp only [Int.toNat_natCast]
      rw [hem]
      rfl
    unfold bkP at hr hmv hgood
    rw [ham] at hr
    rw [haa] at hmv hgood
    simp only [setB, Int.toNat_natCast, plainB] at hr hmv hgood
    rw [show ((-q : Int) == 0) = false by simp; omega] at hr hmv hgood
    simp only [cond_false] at hr hmv hgood
    refine own_to rfl _ _ (fun R h => bpay_run b w m 6 q _ R h) _ ?_ ?_
    · rw [hmv]
      intro herr h1 d hd hlow
      have h0 : h1 1 = some ⟨5, [noC]⟩ := by rw [hlow 1 (by omega)]; simp
      have h00 : h1 0 = some ⟨5, [bc b]⟩ := by rw [hlow 0 (by omega)]; simp
      cases g5 : decide (b.accs[m].cash < q)
      · rw [g5] at hr herr
        simp only [cond_false] at hr herr
        cases g6 : bookBad b.accs[m].cash (-q) b.book.length
        · rw [g6] at herr; simp at herr
        · rw [g6] at hr
          simp only [cond_true] at hr
          subst hr
          simp -implicitDefEqProofs [-frz, h0, h00, g6]
          exact post_err _ _ _
      · rw [g5] at hr
        simp only [cond_true] at hr
        subst hr
        simp -implicitDefEqProofs [-frz, h0, h00]
        exact post_err _ _ _
    · rw [hmv]
      intro hok h1 d la v rows hd hlow O M
      have h0 : h1 1 = some ⟨5, [noC]⟩ := by rw [hlow 1 (by omega)]; simp
      have h00 : h1 0 = some ⟨5, [bc b]⟩ := by rw [hlow 0 (by omega)]; simp
      cases g5 : decide (b.accs[m].cash < q)
      case true => rw [g5] at hok; simp at hok
      rw [g5] at hr hok O
      simp only [cond_false] at hr hok O
      cases g6 : bookBad b.accs[m].cash (-q) b.book.length
      case true => rw [g6] at hok; simp at hok
      rw [g6] at hr O
      simp only [cond_false] at hr O
      subst hr
      have hem2 : ∀ y : Acc, (b.accs.set m y)[e]? = some b.accs[e] := by intro y; rw [List.getElem?_set, if_neg (by omega)]; exact List.getElem?_eq_getElem hfl
      have hla := O.hla
      have hlt : e < rows.length := by rw [O.len]; exact he
      obtain ⟨a, vp, vl, ha, hrw, hvp, hvl⟩ := O.get he
      rw [hem2] at ha
      cases ha
      have hr' : rows[e] = [B b.accs[e].opn, I b.accs[e].cash, I b.accs[e].loan, vp, vl] := by rw [List.getElem?_eq_getElem hlt] at hrw; exact Option.some.inj hrw
      obtain ⟨sp, sl⟩ := M.get he hrw
      have lge := O.sep4.1
      have lc1 := O.sep4.2
      have q1 : ¬ (la = 0) := by omega
      have q2 : ¬ (0 = la) := by omega
      have q3 : ¬ (la = 1) := by omega
      have q4 : ¬ (1 = la) := by omega
      have hv1 := slv_cells O.bkv
      have hv2 := slv_okc O.bkv
      unfold AV.cells at hv1
      unfold okc at hv2
      obtain ⟨lq, off, n, rfl⟩ : ∃ l off n, vp = .sl l 1 off n := by
        rcases sp with h | rfl | rfl
        · exact h
        · have := congrArg List.length (Option.some.inj hvp); simp [lp] at this
        · have := congrArg List.length (Option.some.inj hvp); simp [lp] at this
      obtain ⟨BB, b1, b2, b3, b4⟩ := els_sl hvp
      have b5 : n = 4 := by simpa [lp] using b4.symm
      subst b5
      have at3 := O.sep2 e 3 lq ⟨_, _, hrw, rfl, by simp⟩
      have p1 : ¬ (lq = la) := at3.1
      have p2 : ¬ (la = lq) := fun h => p1 h.symm
      have p3 : ¬ (lq = 0) := by have := at3.2.2.1; omega
      have p4 : ¬ (0 = lq) := fun h => p3 h.symm
      have p5 : ¬ (lq = 1) := by have := at3.2.2.1; omega
      have p6 : ¬ (1 = lq) := fun h => p5 h.symm
      have r1 : 2 ≤ la := lge
      have r2 : 2 ≤ lq := at3.2.2.1
      have r3 : lq < d := at3.2.2.2
      have hbj : off + i < BB.es.length := by omega
      have hrow : BB.es[off + i].length = 1 := by
        have hip : i < b.accs[e].parts.length := by omega
        have t := congrArg (fun l => l[i]?) b3
        simp only [List.getElem?_take, List.getElem?_drop, List.getElem?_map, if_pos hi4] at t
        rw [List.getElem?_eq_getElem hbj, List.getElem?_eq_getElem hip] at t
        rw [Option.some.inj t]
        rfl
      obtain ⟨cell, hcell⟩ : ∃ x, BB.es[off + i] = [x] := by
        match hh : BB.es[off + i], hrow with
        | [x], _ => exact ⟨x, rfl⟩
      simp -implicitDefEqProofs [-frz, h0, h00, hla, hlt, hr', he, hei, hbj, hcell, hi4, hii, b1, q1, q2, q3, q4, p1, p2, p3, p4, p5, p6, hv1, hv2, r1, r2, r3, lc1]
      have sm : Small (b.accs.set m { b.accs[m] with cash := b.accs[m].cash + -q }) := small_set (small_of vb) (by have := aok.lp; simp only; omega) (by have := vb.last _ (List.getElem_mem hml); simp only; omega)
      refine post_nrm ?_ (post_own (O.part (x := (m : Int)) (k := i) he (hem2 _) hrw b1 b2 b3 hvl hi4 ?_ (fun y hy hq hyc => ?_)) M _ _ _ (by have := vb.book; simp; omega) (small_set sm (by simp [lp]) (by have := vb.last _ (List.getElem_mem hfl); simp only; omega)))
      · rw [List.set_comm _ _ (by omega : m ≠ e)]
      · simp [p5, p6]
      · have hq' : 2 ≤ y := hq
        simp [hy, show ¬ (y = 0) by omega, show ¬ (y = 1) by omega, lay_get, hq', hyc]
end Go.Proofs.Ytdckleaemkcapaa.AM
namespace Go.Proofs.Ytdckleaemkcapaa.AM
open Go Go.Proofs
attribute [local simp] AV.cells okc AV.isBad fieldAddrA ld setCells stA skipV appendA hd makeA bnd sliceA kindA freshA killOk loadsAt newT empT lay_get allocA buildA buildRow builtinA lenA els indexAddrA isNil opA evA lit yldA binA binI unA pickA boolV intV fieldA mk flat lf lf.lfs frz
def sellP (b : Bnk) (co of k : Int) : Int × Bnk := bif trdP b co of k == 0 then (match (accAt b of).parts.reverse.findIdx? (fun p => p == co) with
  | none => (13, noB)
  | some j => bkP (setB b of { accAt b of with parts := (accAt b of).parts.set (3 - j) (-1) }) co 6 (partsP (accAt b of) k))
  else (trdP b co of k, noB)
theorem rsell_x (b : Bnk) (w : b.Wfb) (co of k : Int) : PostB (sellP b co of k).1 (sellP b co of k).2 (run Try.prog (mdT tblB) 54 [.agg (bc b), I co, I of, I k] Heap.none 0) := by
  have hk := fun v h c hv => rchk_c b w [co, of] (by simp) v h c hv
  generalize hr : sellP b co of k = r
  unfold sellP at hr
  rw [run_eq, show mdT tblB 54 = some .pure from rfl, Option.bind_some, Try.func54]
  by_cases g0 : chkP b [co, of] = 0
  case neg =>
    have g1 : (chkP b [co, of] == 0) = false := by simpa using g0
    have g2 : (chkP b [co, of] != 0) = true := by simp [bne, g1]
    have ht : trdP b co of k = chkP b [co, of] := by unfold trdP; rw [g1]; rfl
    rw [ht, g1] at hr
    simp only [cond_false] at hr
    subst hr
    simp -implicitDefEqProofs [depth, Try.f54, hk, g2]
    exact post_err _ _ _
  rw [g0] at hk
  cases g3 : (co == of)
  case true =>
    have ht : trdP b co of k = 8 := by unfold trdP; rw [g0, g3]; rfl
    rw [ht] at hr
    simp only [show ((8 : Int) == 0) = false from rfl, cond_false] at hr
    subst hr
    simp -implicitDefEqProofs [depth, Try.f54, hk, g3]
    exact post_err _ _ _
  cases g4 : outP k 0 1000000000000
  case true =>
    have ht : trdP b co of k = 1 := by unfold trdP; rw [g0, g3, g4]; rfl
    rw [ht] at hr
    simp only [show ((1 : Int) == 0) = false from rfl, cond_false] at hr
    subst hr
    simp -implicitDefEqProofs [depth, Try.f54, hk, g3, g4]
    exact post_err _ _ _
  have ht : trdP b co of k = 0 := by unfold trdP; rw [g0, g3, g4]; rfl
  rw [ht] at hr
  simp only [BEq.rfl, cond_true] at hr
  obtain ⟨vb, gg⟩ := chk_zero g0
  obtain ⟨n0, n1, hml, hop⟩ := gg co (by simp)
  obtain ⟨f0, f1, hfl, hof⟩ := gg of (by simp)
  obtain ⟨m, rfl⟩ : ∃ m : Nat, co = m := ⟨co.toNat, by omega⟩
  obtain ⟨e, rfl⟩ : ∃ e : Nat, of = e := ⟨of.toNat, by omega⟩
  simp only [Int.toNat_natCast] at hml hfl
  have hne : m ≠ e := by intro h; subst h; simp at g3
  have hm : m < 12 := by have := vb.len; omega
  have he : e < 12 := by have := vb.len; omega
  have hmi : (m : Int) < 12 := by omega
  have hei : (e : Int) < 12 := by omega
  have haa : accAt b m = b.accs[m] := by unfold accAt; simp [hml]
  have hae : accAt b e = b.accs[e] := by unfold accAt; simp [hfl]
  rw [hae] at hr
  have aok := vb.accs _ (List.getElem_mem hml)
  have eok := vb.accs _ (List.getElem_mem hfl)
  have lp := eok.lp
  simp -implicitDefEqProofs [depth, Try.f54, hk, g3, g4, obm, Option.bind_assoc]
  refine scan_first (R := PostB r.1 r.2) b.accs[e].parts.reverse (fun p => p == (m : Int)) (fun j s => s.h 0 = some ⟨5, [bc b]⟩ ∧ s.h 1 = some ⟨5, [noC]⟩ ∧ s.c = 3 ∧ s.t 1 = I m ∧ s.t 2 = I e ∧ s.t 3 = I k ∧ s.t 4 = .ptr 0 0 0 ∧ s.t 8 = .ptr 1 0 0 ∧ s.t 11 = I (3 - (j : Int))) _ ?_ ?_ ?_ ?_
  · simp
  · rintro j ⟨t, h, c⟩ ⟨h0, h1, hc, t1, t2, t3, t4, t8, t11⟩ hj hp
    simp only at h0 h1 hc t1 t2 t3 t4 t8 t11 hp
    have hj4 : j < 4 := by simpa [lp] using hj
    simp only [List.getElem_reverse, lp] at hp
    have ei : (3 : Int) - j = ((3 - j : Nat) : Int) := by omega
    rw [ei] at t11
    have k1 : decide (0 ≤ ((3 - j : Nat) : Int)) = true := decide_eq_true (by omega)
    have hji3 : 3 - j < b.accs[e].parts.length := by omega
    have ws : IntKind.i64.wrap (((3 - j : Nat) : Int) - 1) = 3 - ((j : Int) + 1) := by rw [wrap_id (by omega) (by omega)]; omega
    have hp' : (b.accs[e].parts[3 - j] != (m : Int)) = true := by unfold bne; rw [hp]; rfl
    clear hp
    generalize 3 - j = i at *
    simp -implicitDefEqProofs [h0, h1, hc, t1, t2, t3, t4, t8, t11, hji3, hfl, k1, hp', ws, Acc.cells, -decide_eq_true_eq]
  · rintro j ⟨t, h, c⟩ ⟨h0, h1, hc, t1, t2, t3, t4, t8, t11⟩ hj hp hidx
    simp only at h0 h1 hc t1 t2 t3 t4 t8 t11 hp
    subst hc
    rw [hidx] at hr
    simp only at hr
    have hj4 : j < 4 := by simpa [lp] using hj
    simp only [List.getElem_reverse, lp] at hp
    have ei : (3 : Int) - j = ((3 - j : Nat) : Int) := by omega
    rw [ei] at t11
    have k1 : decide (0 ≤ ((3 - j : Nat) : Int)) = true := decide_eq_true (by omega)
    have hji3 : 3 - j < b.accs[e].parts.length := by omega
    have hp' : (b.accs[e].parts[3 - j] != (m : Int)) = false := by unfold bne; rw [hp]; rfl
    have hi4 : 3 - j < 4 := by omega
    clear hidx hj ei hp
    generalize 3 - j = i at *
    have hpx := rpart_x b.accs[e] k
    have hps := partsP_small b.accs[e] k
    revert hpx hps hr
    generalize partsP b.accs[e] k = q
    intro hr hpx hps
    have wq : IntKind.i64.wrap q = q := wrap_id (by omega) (by omega)
    simp -implicitDefEqProofs [-frz, h0, h1, t1, t2, t3, t4, t8, t11, hji3, hfl, hml, k1, hp', hpx, wq, Acc.cells, obm, Option.bind_assoc, -decide_eq_true_eq, -decide_eq_false_iff_not]
    refine copy_to (.inl rfl) b vb w _ _ _ ?_
    intro h2 c1 la v rows hc hlow O M
    have h0' : h2 0 = some ⟨5, [bc b]⟩ := by rw [hlow 0 (by omega)]; exact h0
    have h1' : h2 1 = some ⟨5, [noC]⟩ := by rw [hlow 1 (by omega)]; exact h1
    have hla := O.hla
    have hlt : e < rows.length := by rw [O.len]; exact he
    obtain ⟨a, vp, vl, ha, hrw, hvp, hvl⟩ := O.get he
    rw [List.getElem?_eq_getElem hfl] at ha
    cases ha
    have hr' : rows[e] = [B b.accs[e].opn, I b.accs[e].cash, I b.accs[e].loan, vp, vl] := by rw [List.getElem?_eq_getElem hlt] at hrw; exact Option.some.inj hrw
    obtain ⟨sp, sl⟩ := M.get he hrw
    have lge := O.sep4.1
    have lc1 := O.sep4.2
    have q1 : ¬ (la = 0) := by omega
    have q2 : ¬ (0 = la) := by omega
    have q3 : ¬ (la = 1) := by omega
    have q4 : ¬ (1 = la) := by omega
    have hv1 := slv_cells O.bkv
    have hv2 := slv_okc O.bkv
    unfold AV.cells at hv1
    unfold okc at hv2
    obtain ⟨lq, off, n, rfl⟩ : ∃ l off n, vp = .sl l 1 off n := by
      rcases sp with h | rfl | rfl
      · exact h
      · have := congrArg List.length (Option.some.inj hvp); simp [lp] at this
      · have := congrArg List.length (Option.some.inj hvp); simp [lp] at this
    obtain ⟨BB, b1, b2, b3, b4⟩ := els_sl hvp
    have b5 : n = 4 := by simpa [lp] using b4.symm
    subst b5
    have at3 := O.sep2 e 3 lq ⟨_, _, hrw, rfl, by simp⟩
    have p1 : ¬ (lq = la) := at3.1
    have p2 : ¬ (la = lq) := fun h => p1 h.symm
    have p3 : ¬ (lq = 0) := by have := at3.2.2.1; omega
    have p4 : ¬ (0 = lq) := fun h => p3 h.symm
    have p5 : ¬ (lq = 1) := by have := at3.2.2.1; omega
    have p6 : ¬ (1 = lq) := fun h => p5 h.symm
    have hbj : off + i < BB.es.length := by omega
    have hii : (i : Int) < 4 := by omega
    have hrow : BB.es[off + i] = [I b.accs[e].parts[i]] := by
      have t := congrArg (fun l => l[i]?) b3
      simp only [List.getElem?_take, List.getElem?_drop, List.getElem?_map, if_pos hi4] at t
      rw [List.getElem?_eq_getElem hbj, List.getElem?_eq_getElem hji3] at t
      exact Option.some.inj t
    simp -implicitDefEqProofs [-frz, h0', h1', t1, t2, t3, t4, t8, t11, hla, hlt, hr', he, hei, hbj, hi4, hii, hrow, b1, q1, q2, q3, q4, p1, p2, p3, p4, p5, p6, hv1, hv2, wq, obm, Option.bind_assoc]
    have hem : (b.accs.set e { b.accs[e] with parts := b.accs[e].parts.set i (-1) })[m]? = some b.accs[m] := by rw [List.getElem?_set, if_neg (by omega)]; exact List.getElem?_eq_getElem hml
    have ham : accAt (setB b e { b.accs[e] with parts := b.accs[e].parts.set i (-1) }) m = b.accs[m] := by
      unfold accAt setB
      simp only [Int.toNat_natCast]
      rw [hem]
      rfl
    unfold bkP at hr
    rw [ham] at hr
    simp only [setB, Int.toNat_natCast, plainB] at hr
    rw [show ((q : Int) == 0) = false by simp; omega] at hr
    simp only [cond_false] at hr
    have hbk := vb.book
    have O' := O.part (x := -1) (h' := (h2.put 0 (some ⟨5, [[.sl la 5 0 12, I b.rate, I b.infl, I b.idx, v]]⟩)).put lq (some ⟨BB.sz, BB.es.set (off + i) [I (-1)]⟩)) he (List.getElem?_eq_getElem hfl) hrw b1 b2 b3 hvl hi4 (by simp) (fun y hy hq hyc => by simp [hy, show ¬ (y = 0) by omega])
    refine book_to (Q := fun l => 3 ≤ l) (p := 0) (la := la) (v := v) (r := b.rate) (f := b.infl) (x := b.idx) _ _ _ (by simp [p3, p4]) (by simp) O' M hm hem aok.cash (by omega) (by omega) ?_ ?_ ?_
    · intro h; omega
    · intro _ hbad
      rw [hbad] at hr
      simp only [cond_true] at hr
      subst hr
      simp -implicitDefEqProofs [-frz, h1', t1, t2, t3, t4, t8, t11, p5, p6]
      exact post_err _ _ _
    · intro _ hbad h3 c3 v3 rows3 x0 pk hc3 O3 M3
      rw [hbad] at hr
      simp only [cond_false] at hr
      subst hr
      have h31 : h3 1 = some ⟨5, [noC]⟩ := by rw [pk 1 (by simp) (by omega)]; simp [h1', p5, p6]
      have hw1 := slv_cells O3.bkv
      have hw2 := slv_okc O3.bkv
      unfold AV.cells at hw1
      unfold okc at hw2
      simp -implicitDefEqProofs [-frz, x0, h31, t1, t2, t3, t4, t8, t11, hw1, hw2]
      have O4 := O3.frame (h' := h3.put 1 (some ⟨5, [[.sl la 5 0 12, I b.rate, I b.infl, I b.idx, v3]]⟩)) (Nat.le_refl _) (fun l hl hlc => by simp [show ¬ (l = 1) by omega])
      have sm : Small (b.accs.set e { b.accs[e] with parts := b.accs[e].parts.set i (-1) }) := small_set (small_of vb) (by simp [lp]) (by have := vb.last _ (List.getElem_mem hfl); simp only; omega)
      exact post_nrm rfl (post_own O4 M3 _ _ _ (by simp; omega) (small_set sm (by have := aok.lp; simp only; omega) (by have := vb.last _ (List.getElem_mem hml); simp only; omega)))
  · rintro ⟨t, h, c⟩ ⟨h0, h1, hc, t1, t2, t3, t4, t8, t11⟩ hidx
    simp only at h0 h1 hc t1 t2 t3 t4 t8 t11
    rw [hidx] at hr
    simp only at hr
    subst hr
    rw [List.length_reverse, lp] at t11
    simp -implicitDefEqProofs [-frz, h0, h1, t1, t2, t3, t4, t8, t11]
    exact post_err _ _ _
end Go.Proofs.Ytdckleaemkcapaa.AM
namespace Go.Proofs.Ytdckleaemkcapaa.AM
open Go Go.Proofs
attribute [local simp] AV.cells okc AV.isBad fieldAddrA ld setCells stA skipV appendA hd makeA bnd sliceA kindA freshA killOk loadsAt newT empT lay_get allocA buildA buildRow builtinA lenA els indexAddrA isNil opA evA lit yldA binA binI unA pickA boolV intV fieldA mk flat lf lf.lfs frz
theorem bsell_x (b : Bnk) (w : b.Wfb) (co of k : Int) : PostB (sellP b co of k).1 (sellP b co of k).2 (run Try.prog (mdT tblB) 56 [.agg (bc b), I co, I of, I k] Heap.none 0) := by
  have hk := trade_c b w co of k
  generalize hr : sellP b co of k = r
  unfold sellP at hr
  rw [run_eq, show mdT tblB 56 = some .pure from rfl, Option.bind_some, Try.func56]
  by_cases g0 : trdP b co of k = 0
  case neg =>
    have g1 : (trdP b co of k == 0) = false := by simpa using g0
    have g2 : (trdP b co of k != 0) = true := by simp [bne, g1]
    rw [g1] at hr
    simp only [cond_false] at hr
    subst hr
    simp -implicitDefEqProofs [-frz, Try.f56, hk, g2]
    exact post_err _ _ _
  rw [g0] at hk hr
  simp only [BEq.rfl, cond_true] at hr
  obtain ⟨c0, hce, g4⟩ := trd_zero g0
  obtain ⟨vb, gg⟩ := chk_zero c0
  have c1 := chk_one c0
  obtain ⟨n0, n1, hml, hop⟩ := gg co (by simp)
  obtain ⟨f0, f1, hfl, hof⟩ := gg of (by simp)
  obtain ⟨m, rfl⟩ : ∃ m : Nat, co = m := ⟨co.toNat, by omega⟩
  obtain ⟨e, rfl⟩ : ∃ e : Nat, of = e := ⟨of.toNat, by omega⟩
  simp only [Int.toNat_natCast] at hml hfl
  have hne : m ≠ e := by intro h; subst h; simp at hce
  have hm : m < 12 := by have := vb.len; omega
  have he : e < 12 := by have := vb.len; omega
  have hmi : (m : Int) < 12 := by omega
  have hei : (e : Int) < 12 := by omega
  have haa : accAt b m = b.accs[m] := by unfold accAt; simp [hml]
  have hae : accAt b e = b.accs[e] := by unfold accAt; simp [hfl]
  rw [hae] at hr
  have aok := vb.accs _ (List.getElem_mem hml)
  have eok := vb.accs _ (List.getElem_mem hfl)
  have lp := eok.lp
  simp -implicitDefEqProofs [-frz, Try.f56, hk, obm, Option.bind_assoc]
  refine scan_first (R := PostB r.1 r.2) b.accs[e].parts.reverse (fun p => p == (m : Int)) (fun j s => s.h 0 = some ⟨5, [bc b]⟩ ∧ s.h 1 = some ⟨5, [noC]⟩ ∧ s.c = 2 ∧ s.t 1 = I m ∧ s.t 2 = I e ∧ s.t 3 = I k ∧ s.t 4 = .ptr 0 0 0 ∧ s.t 8 = .ptr 1 0 0 ∧ s.t 11 = I (3 - (j : Int))) _ ?_ ?_ ?_ ?_
  · simp
  · rintro j ⟨t, h, c⟩ ⟨h0, h1, hc, t1, t2, t3, t4, t8, t11⟩ hj hp
    simp only at h0 h1 hc t1 t2 t3 t4 t8 t11 hp
    have hj4 : j < 4 := by simpa [lp] using hj
    simp only [List.getElem_reverse, lp] at hp
    have ei : (3 : Int) - j = ((3 - j : Nat) : Int) := by omega
    rw [ei] at t11
    have k1 : decide (0 ≤ ((3 - j : Nat) : Int)) = true := decide_eq_true (by omega)
    have hji3 : 3 - j < b.accs[e].parts.length := by omega
    have ws : IntKind.i64.wrap (((3 - j : Nat) : Int) - 1) = 3 - ((j : Int) + 1) := by rw [wrap_id (by omega) (by omega)]; omega
    have hp' : (b.accs[e].parts[3 - j] != (m : Int)) = true := by unfold bne; rw [hp]; rfl
    clear hp
    generalize 3 - j = i at *
    simp -implicitDefEqProofs [h0, h1, hc, t1, t2, t3, t4, t8, t11, hji3, hfl, k1, hp', ws, Acc.cells, -decide_eq_true_eq]
  · rintro j ⟨t, h, c⟩ ⟨h0', h1', hc, t1, t2, t3, t4, t8, t11⟩ hj hp hidx
    simp only at h0' h1' hc t1 t2 t3 t4 t8 t11 hp
    subst hc
    rw [hidx] at hr
    simp only at hr
    have hj4 : j < 4 := by simpa [lp] using hj
    simp only [List.getElem_reverse, lp] at hp
    have ei : (3 : Int) - j = ((3 - j : Nat) : Int) := by omega
    rw [ei] at t11
    have k1 : decide (0 ≤ ((3 - j : Nat) : Int)) = true := decide_eq_true (by omega)
    have hji3 : 3 - j < b.accs[e].parts.length := by omega
    have hp' : (b.accs[e].parts[3 - j] != (m : Int)) = false := by unfold bne; rw [hp]; rfl
    have hi4 : 3 - j < 4 := by omega
    clear hidx hj ei hp
    generalize 3 - j = i at *
    have hii : (i : Int) < 4 := by omega
    have ki : decide ((i : Int) < 0) = false := decide_eq_false (by omega)
    have hpx := bpart_x b.accs[e] k
    have hps := partsP_small b.accs[e] k
    revert hpx hps hr
    generalize partsP b.accs[e] k = q
    intro hr hpx hps
    have hmv := moveP_of (sgn := 1) (st := false) vb c1 (q := q) (by omega)
    rw [haa, show (1 : Int) * q = q by omega] at hmv
    have hgood := move_good b m 6 q 1 false
    rw [hmv] at hgood
    simp only [Bool.false_and, cond_false] at hmv hgood
    simp -implicitDefEqProofs [-frz, h0', h1', t1, t2, t3, t4, t8, t11, hji3, hfl, hpx, k1, hp', ki, Acc.cells, obm, Option.bind_assoc, -decide_eq_true_eq, -decide_eq_false_iff_not]
    have hem : ∀ y : Acc, (b.accs.set e y)[m]? = some b.accs[m] := by intro y; rw [List.getElem?_set, if_neg (by omega)]; exact List.getElem?_eq_getElem hml
    have ham : ∀ y : Acc, accAt (setB b e y) m = b.accs[m] := by
      intro y
      unfold accAt setB
      simp only [Int.toNat_natCast]
      rw [hem]
      rfl
    unfold bkP at hr hmv hgood
    rw [ham] at hr
    rw [haa] at hmv hgood
    simp only [setB, Int.toNat_natCast, plainB] at hr hmv hgood
    rw [show ((q : Int) == 0) = false by simp; omega] at hr hmv hgood
    simp only [cond_false] at hr hmv hgood
    refine own_to rfl _ _ (fun R h => bearn_run b w m 6 q _ R h) _ ?_ ?_
    · rw [hmv]
      intro herr h1 d hd hlow
      have h0 : h1 1 = some ⟨5, [noC]⟩ := by rw [hlow 1 (by omega)]; exact h1'
      have h00 : h1 0 = some ⟨5, [bc b]⟩ := by rw [hlow 0 (by omega)]; exact h0'
      cases g6 : bookBad b.accs[m].cash (q) b.book.length
      · rw [g6] at herr; simp at herr
      · rw [g6] at hr
        simp only [cond_true] at hr
        subst hr
        simp -implicitDefEqProofs [-frz, h0, h00, h0', h1', g6, show ¬ (d = 0) by omega, show ¬ (d = 1) by omega, show ¬ (d ≤ 0) by omega, show ¬ (d ≤ 1) by omega, t1, t2, t3, t4, t8]
        exact post_err _ _ _
    · rw [hmv]
      intro hok h1 d la v rows hd hlow O M
      have h0 : h1 1 = some ⟨5, [noC]⟩ := by rw [hlow 1 (by omega)]; exact h1'
      have h00 : h1 0 = some ⟨5, [bc b]⟩ := by rw [hlow 0 (by omega)]; exact h0'
      cases g6 : bookBad b.accs[m].cash (q) b.book.length
      case true => rw [g6] at hok; simp at hok
      rw [g6] at hr O
      simp only [cond_false] at hr O
      subst hr
      have hem2 : ∀ y : Acc, (b.accs.set m y)[e]? = some b.accs[e] := by intro y; rw [List.getElem?_set, if_neg (by omega)]; exact List.getElem?_eq_getElem hfl
      have hla := O.hla
      have hlt : e < rows.length := by rw [O.len]; exact he
      obtain ⟨a, vp, vl, ha, hrw, hvp, hvl⟩ := O.get he
      rw [hem2] at ha
      cases ha
      have hr' : rows[e] = [B b.accs[e].opn, I b.accs[e].cash, I b.accs[e].loan, vp, vl] := by rw [List.getElem?_eq_getElem hlt] at hrw; exact Option.some.inj hrw
      obtain ⟨sp, sl⟩ := M.get he hrw
      have lge := O.sep4.1
      have lc1 := O.sep4.2
      have q1 : ¬ (la = 0) := by omega
      have q2 : ¬ (0 = la) := by omega
      have q3 : ¬ (la = 1) := by omega
      have q4 : ¬ (1 = la) := by omega
      have hv1 := slv_cells O.bkv
      have hv2 := slv_okc O.bkv
      unfold AV.cells at hv1
      unfold okc at hv2
      obtain ⟨lq, off, n, rfl⟩ : ∃ l off n, vp = .sl l 1 off n := by
        rcases sp with h | rfl | rfl
        · exact h
        · have := congrArg List.length (Option.some.inj hvp); simp [lp] at this
        · have := congrArg List.length (Option.some.inj hvp); simp [lp] at this
      obtain ⟨BB, b1, b2, b3, b4⟩ := els_sl hvp
      have b5 : n = 4 := by simpa [lp] using b4.symm
      subst b5
      have at3 := O.sep2 e 3 lq ⟨_, _, hrw, rfl, by simp⟩
      have p1 : ¬ (lq = la) := at3.1
      have p2 : ¬ (la = lq) := fun h => p1 h.symm
      have p3 : ¬ (lq = 0) := by have := at3.2.2.1; omega
      have p4 : ¬ (0 = lq) := fun h => p3 h.symm
      have p5 : ¬ (lq = 1) := by have := at3.2.2.1; omega
      have p6 : ¬ (1 = lq) := fun h => p5 h.symm
      have r1 : 2 ≤ la := lge
      have r2 : 2 ≤ lq := at3.2.2.1
      have r3 : lq < d := at3.2.2.2
      have hbj : off + i < BB.es.length := by omega
      have hrow : BB.es[off + i].length = 1 := by
        have hip : i < b.accs[e].parts.length := by omega
        have t := congrArg (fun l => l[i]?) b3
        simp only [List.getElem?_take, List.getElem?_drop, List.getElem?_map, if_pos hi4] at t
        rw [List.getElem?_eq_getElem hbj, List.getElem?_eq_getElem hip] at t
        rw [Option.some.inj t]
        rfl
      obtain ⟨cell, hcell⟩ : ∃ x, BB.es[off + i] = [x] := by
        match hh : BB.es[off + i], hrow with
        | [x], _ => exact ⟨x, rfl⟩
      simp -implicitDefEqProofs [-frz, h0, h00, h0', h1', show ¬ (d = 0) by omega, show ¬ (d = 1) by omega, show ¬ (d ≤ 0) by omega, show ¬ (d ≤ 1) by omega, t1, t2, t3, t4, t8, t11, hla, hlt, hr', he, hei, hbj, hcell, hi4, hii, b1, q1, q2, q3, q4, p1, p2, p3, p4, p5, p6, hv1, hv2, r1, r2, r3, lc1]
      have sm : Small (b.accs.set m { b.accs[m] with cash := b.accs[m].cash + q }) := small_set (small_of vb) (by have := aok.lp; simp only; omega) (by have := vb.last _ (List.getElem_mem hml); simp only; omega)
      refine post_nrm ?_ (post_own (O.part (x := -1) (k := i) he (hem2 _) hrw b1 b2 b3 hvl hi4 ?_ (fun y hy hq hyc => ?_)) M _ _ _ (by have := vb.book; simp; omega) (small_set sm (by simp [lp]) (by have := vb.last _ (List.getElem_mem hfl); simp only; omega)))
      · rw [List.set_comm _ _ (by omega : m ≠ e)]
      · simp [p5, p6]
      · have hq' : 2 ≤ y := hq
        simp [hy, show ¬ (y = 0) by omega, show ¬ (y = 1) by omega, lay_get, hq', hyc]
  · rintro ⟨t, h, c⟩ ⟨h0, h1, hc, t1, t2, t3, t4, t8, t11⟩ hidx
    simp only at h0 h1 hc t1 t2 t3 t4 t8 t11
    rw [hidx] at hr
    simp only at hr
    subst hr
    rw [List.length_reverse, lp] at t11
    simp -implicitDefEqProofs [-frz, h0, h1, t1, t2, t3, t4, t8, t11]
    exact post_err _ _ _
end Go.Proofs.Ytdckleaemkcapaa.AM
namespace Go.Proofs.Ytdckleaemkcapaa.AM
open Go Go.Proofs
attribute [local simp] AV.cells okc AV.isBad fieldAddrA ld setCells stA skipV appendA hd makeA bnd sliceA kindA freshA killOk loadsAt newT empT lay_get allocA buildA buildRow builtinA lenA els indexAddrA isNil opA evA lit yldA binA binI unA pickA boolV intV fieldA mk flat lf lf.lfs frz
theorem law16 (b : Bnk) (w : b.Wfb) (co of k : Int) : ∃ hp c, run Try.prog (mdT tblB) 16 [b.av, I co, I of, I k] Heap.none 0 = some (B true, hp, c) := by
  have kn := known_c
  have f := far_c b w
  obtain ⟨b01, n01, w01, c01⟩ := call_post (args := [.agg (bc b), I co, I of, I k]) rfl (fun h => rfl) (rbuy_x b w co of k) rfl
  obtain ⟨b02, n02, w02, c02⟩ := call_post (args := [.agg (bc b), I co, I of, I k]) rfl (fun h => rfl) (bbuy_x b w co of k) rfl
  have s0 := same_c b02 b01 (n02.trans n01.symm) w02
  obtain ⟨b11, n11, w11, c11⟩ := call_post (args := [.agg (bc b), I co, I of, I k]) rfl (fun h => rfl) (rsell_x b w co of k) rfl
  obtain ⟨b12, n12, w12, c12⟩ := call_post (args := [.agg (bc b), I co, I of, I k]) rfl (fun h => rfl) (bsell_x b w co of k) rfl
  have s1 := same_c b12 b11 (n12.trans n11.symm) w12
  rw [run_eq, show mdT tblB 16 = some .pure from rfl, Option.bind_some, Try.func16]
  unfold Bnk.av
  cases g0 : farP b
  · simp -implicitDefEqProofs [Try.f16, g0, f, kn, c01, c02, s0, c11, c12, s1]
  · simp -implicitDefEqProofs [Try.f16, g0, f, kn]
theorem pure16 (x0 x1 x2 x3 : AV) (h0 : TyArg Try.prog 8 25 x0) (h1 : TyArg Try.prog 8 3 x1) (h2 : TyArg Try.prog 8 3 x2) (h3 : TyArg Try.prog 8 3 x3) : ∃ h c, run Try.prog (mdT tblB) 16 [x0, x1, x2, x3] Heap.none 0 = some (B true, h, c) := by
  obtain ⟨b, rfl, w⟩ := arg25 h0
  obtain ⟨n1, rfl, _⟩ := arg3 h1
  obtain ⟨n2, rfl, _⟩ := arg3 h2
  obtain ⟨n3, rfl, _⟩ := arg3 h3
  exact law16 b w n1 n2 n3
end Go.Proofs.Ytdckleaemkcapaa.AM
