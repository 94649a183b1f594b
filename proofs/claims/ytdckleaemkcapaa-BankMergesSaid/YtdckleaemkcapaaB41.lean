/- Texts of the proof: part B41. -/
import Derived.Test.YtdckleaemkcapaaB36
set_option maxHeartbeats 0
set_option linter.unusedSimpArgs false
set_option linter.unusedVariables false
set_option linter.unusedSectionVars false
namespace Go.Proofs.Ytdckleaemkcapaa.AM
open Go Go.Proofs
attribute [local simp] AV.cells okc AV.isBad fieldAddrA ld setCells stA skipV appendA hd makeA bnd sliceA kindA freshA killOk loadsAt newT empT lay_get allocA buildA buildRow builtinA lenA els indexAddrA isNil opA evA lit yldA binA binI unA pickA boolV intV fieldA mk flat lf lf.lfs frz
section
variable {P : Program} {md : Nat → Option CMode} {β α : Type} {b : Code} {K : Ex × St → Option β} {R : Option β → Prop}
/-- A loop that looks for the first one of a list that has something; what it does there may leave. -/
theorem scan_first (l : List α) (f : α → Bool) (I : Nat → St → Prop) (s : St) (h : I 0 s)
    (step : ∀ j s, I j s → ∀ hj : j < l.length, f l[j] = false → GoesOn (I (j + 1)) (exL P md b s))
    (hit : ∀ j s, I j s → ∀ hj : j < l.length, f l[j] = true → l.findIdx? f = some j → Leaves (fun e s => R (K (e, s))) (exL P md b s))
    (done : ∀ s, I l.length s → l.findIdx? f = none → Leaves (fun e s => R (K (e, s))) (exL P md b s)) :
    R ((exL P md (.loop b) s).bind K) := by
  refine count_or l.length (fun j s => I j s ∧ ∀ i (hi : i < l.length), i < j → f l[i] = false) s ⟨h, fun i _ hi => by omega⟩ ?_ ?_
  · rintro j s ⟨hI, hn⟩ hj
    cases hf : f l[j] with
    | false =>
      left
      have h1 := step j s hI hj hf
      cases he : exL P md b s with
      | none => rw [he] at h1; exact h1.elim
      | some p =>
        obtain ⟨e, s'⟩ := p
        rw [he] at h1
        cases e
        · refine ⟨h1, fun i hi hij => ?_⟩
          by_cases e : i = j
          · subst e; exact hf
          · exact hn i hi (by omega)
        · exact h1.elim
        · exact h1.elim
    | true =>
      right
      refine hit j s hI hj hf ?_
      rw [List.findIdx?_eq_some_iff_getElem]
      exact ⟨hj, hf, fun i hi => by simpa using hn i (by omega) hi⟩
  · rintro s ⟨hI, hn⟩
    refine done s hI ?_
    rw [List.findIdx?_eq_none_iff]
    intro x hx
    obtain ⟨i, hi, rfl⟩ := List.mem_iff_getElem.1 hx
    exact hn i hi hi
end
theorem set_row {es : List (List AV)} {off n k : Nat} {T : List Int} {x : Int} (h1 : off + n ≤ es.length) (h2 : (es.drop off).take n = ints T) (hk : k < n) : ((es.set (off + k) [I x]).drop off).take n = ints (T.set k x) := by
  have hn : T.length = n := by have := congrArg List.length h2; simp at this; omega
  apply List.ext_getElem?
  intro i
  have e := congrArg (fun l => l[i]?) h2
  simp only [List.getElem?_take, List.getElem?_drop, List.getElem?_map] at e ⊢
  rw [List.getElem?_set, List.getElem?_set]
  by_cases hi : i < n
  · rw [if_pos hi] at e ⊢
    by_cases e1 : k = i
    · subst e1
      rw [if_pos rfl, if_pos (by omega), if_pos rfl, if_pos (by omega)]
      rfl
    · rw [if_neg (by omega), if_neg e1, e]
  · rw [if_neg hi] at e ⊢
    by_cases e1 : k = i
    · omega
    · rw [if_neg e1]
      exact e
/-- A part is given away. -/
theorem Own.part {Q : Nat → Prop} {c : Nat} {h h' : Heap} {la : Nat} {v : AV} {accs : List Acc} {book : List Ent} {rows : List (List AV)} (O : Own Q c h la v accs book rows) {j : Nat} (hm : j < 12) {a : Acc} {lp off n : Nat} {vl : AV} {BB : Blk} {k : Nat} {x : Int}
    (ha : accs[j]? = some a) (hrw : rows[j]? = some (rw5 a.opn a.cash a.loan (.sl lp 1 off n) vl)) (hB : h lp = some BB) (b2 : off + n ≤ BB.es.length) (b3 : (BB.es.drop off).take n = ints a.parts) (hvl : els h vl = some (ints a.last)) (hk : k < n)
    (hlp : h' lp = some ⟨BB.sz, BB.es.set (off + k) [I x]⟩) (hh : ∀ y, y ≠ lp → Q y → y < c → h' y = h y) : Own Q c h' la v (accs.set j { a with parts := a.parts.set k x }) book rows := by
  have hrl : j < rows.length := by rw [O.len]; exact hm
  have at3 : At rows j 3 lp := ⟨_, _, hrw, rfl, by simp⟩
  have s3 := O.sep2 j 3 lp at3
  have same : rows.set j (rw5 a.opn a.cash a.loan (.sl lp 1 off n) vl) = rows := by
    rw [List.getElem?_eq_getElem hrl] at hrw
    have := Option.some.inj hrw
    rw [← this]
    exact List.set_getElem_self hrl
  have hla' : h' la = some ⟨5, rows⟩ := by rw [hh la (fun e => s3.1 e.symm) O.sep4.1 O.sep4.2]; exact O.hla
  have U := O.upd (h' := h') (c' := c) (a := a) (a' := { a with parts := a.parts.set k x }) (vp' := .sl lp 1 off n) (vl' := vl) hm hrw (Nat.le_refl _) (by rw [same]; exact hla') (fun l hl hin => ?_) ?_ ?_ (fun l hl => .inl hl) (fun l hl => .inl hl) (fun l h1 h2 => ?_)
  · rw [same] at U
    exact U
  · rcases hin with hin | ⟨i, f, hij, hin⟩
    · have t := O.sep3 l hin
      exact hh l (fun e => s3.2.1 (e ▸ hin)) t.2.1 t.2.2
    · have t := O.sep2 i f l hin
      exact hh l (fun e => hij (O.sep1 i f j 3 lp (e ▸ hin) at3).1) t.2.2.1 t.2.2.2
  · simp only [els, hlp, Option.bind_some]
    rw [if_pos (by simp; omega), set_row b2 b3 hk]
  · rw [els_congr fun l hl => ?_]
    · exact hvl
    · have t := O.sep2 j 4 l ⟨_, vl, hrw, rfl, hl⟩
      exact hh l (fun e => by have := (O.sep1 j 3 j 4 lp at3 ⟨_, vl, hrw, rfl, e ▸ hl⟩).2; omega) t.2.2.1 t.2.2.2
  · have := (O.sep1 j 3 j 4 l ⟨_, _, hrw, rfl, h1⟩ ⟨_, vl, hrw, rfl, h2⟩).2
    omega
def partsP (a : Acc) (k : Int) : Int := let w := worthP a k; if w < 4 then 1 else IntKind.i64.wrap (Int.tdiv w 4)
theorem worthP_small (a : Acc) (k : Int) : -1000000000000 ≤ worthP a k ∧ worthP a k ≤ 1000000000000 := by
  unfold worthP clampP
  split
  · omega
  · split <;> omega
theorem partsP_small (a : Acc) (k : Int) : 1 ≤ partsP a k ∧ partsP a k ≤ 1000000000000 := by
  have h := worthP_small a k
  unfold partsP
  generalize worthP a k = w at *
  simp only
  split
  · omega
  · rw [Int.tdiv_eq_ediv_of_nonneg (by omega), wrap_id (by omega) (by omega)]
    omega
theorem rpart_x (a : Acc) (k : Int) (h : Heap) (c : Nat) : callA (mdT tblB) (run Try.prog (mdT tblB)) 84 [.agg (ac a), I k] h c = some (I (partsP a k), h, c) := by
  obtain ⟨h', c', e⟩ : ∃ h c, run Try.prog (mdT tblB) 84 [.agg (ac a), I k] Heap.none 0 = some (I (partsP a k), h, c) := by
    have hw := fun h c => rworth_x a k h c
    have hs := worthP_small a k
    unfold partsP
    revert hw hs
    generalize worthP a k = w
    intro hw hs
    rw [run_eq, show mdT tblB 84 = some .pure from rfl, Option.bind_some, Try.func84]
    have e : (if 1 < IntKind.i64.wrap (Int.tdiv w 4) then IntKind.i64.wrap (Int.tdiv w 4) else 1) = (if w < 4 then 1 else IntKind.i64.wrap (Int.tdiv w 4)) := by
      by_cases g : 0 ≤ w
      · rw [Int.tdiv_eq_ediv_of_nonneg g, wrap_id (by omega) (by omega)]
        split <;> split <;> omega
      · have h1 : Int.tdiv w 4 ≤ 0 := by
          have := Int.tdiv_nonneg (a := -w) (b := 4) (by omega) (by omega)
          rw [Int.neg_tdiv] at this
          omega
        have h2 : -1000000000000 ≤ Int.tdiv w 4 := by
          have h3 : Int.tdiv (-w) 4 ≤ 1000000000000 := by rw [Int.tdiv_eq_ediv_of_nonneg (by omega)]; omega
          rw [Int.neg_tdiv] at h3
          omega
        rw [wrap_id (by omega) (by omega), if_neg (by omega), if_pos (by omega)]
    simp -implicitDefEqProofs [Try.f84, hw, max2, e]
  exact call_of rfl rfl e rfl rfl
theorem bpart_x (a : Acc) (k : Int) (h : Heap) (c : Nat) : callA (mdT tblB) (run Try.prog (mdT tblB)) 86 [.agg (ac a), I k] h c = some (I (partsP a k), h, c) := by
  obtain ⟨h', c', e⟩ : ∃ h c, run Try.prog (mdT tblB) 86 [.agg (ac a), I k] Heap.none 0 = some (I (partsP a k), h, c) := by
    have hw := fun h c => bworth_x a k h c
    unfold partsP
    revert hw
    generalize worthP a k = w
    intro hw
    rw [run_eq, show mdT tblB 86 = some .pure from rfl, Option.bind_some, Try.func86]
    by_cases g : w < 4
    · simp -implicitDefEqProofs [Try.f86, hw, g]
    · simp -implicitDefEqProofs [Try.f86, hw, g]
  exact call_of rfl rfl e rfl rfl
def trdP (b : Bnk) (co of k : Int) : Int := bif chkP b [co, of] == 0 then bif co == of then 8 else bif outP k 0 1000000000000 then 1 else 0 else chkP b [co, of]
theorem trade_c (b : Bnk) (w : b.Wfb) (co of k : Int) (h : Heap) (c : Nat) : callA (mdT tblB) (run Try.prog (mdT tblB)) 80 [.agg (bc b), I co, I of, I k] h c = some (E (trdP b co of k), h, c) := by
  obtain ⟨h', c', e⟩ : ∃ h c, run Try.prog (mdT tblB) 80 [.agg (bc b), I co, I of, I k] Heap.none 0 = some (E (trdP b co of k), h, c) := by
    have hk := fun v h c hv => bchk_c b w [co, of] (by simp) v h c hv
    generalize hr : trdP b co of k = r
    unfold trdP at hr
    rw [run_eq, show mdT tblB 80 = some .pure from rfl, Option.bind_some, Try.func80]
    by_cases g0 : chkP b [co, of] = 0
    · rw [g0] at hk hr
      simp only [BEq.rfl, cond_true] at hr
      cases g3 : (co == of)
      · cases g4 : outP k 0 1000000000000
        · rw [g3, g4] at hr
          simp only [cond_false] at hr
          subst hr
          simp -implicitDefEqProofs [Try.f80, hk, g3, g4, depth]
        · rw [g3, g4] at hr
          simp only [cond_false, cond_true] at hr
          subst hr
          simp -implicitDefEqProofs [Try.f80, hk, g3, g4, depth]
      · rw [g3] at hr
        simp only [cond_true] at hr
        subst hr
        simp -implicitDefEqProofs [Try.f80, hk, g3, depth]
    · have g1 : (chkP b [co, of] == 0) = false := by simpa using g0
      have g2 : (chkP b [co, of] != 0) = true := by simp [bne, g1]
      rw [g1] at hr
      simp only [cond_false] at hr
      rw [hr] at hk g2
      simp -implicitDefEqProofs [Try.f80, hk, g2, depth]
  exact call_of rfl rfl e rfl rfl
end Go.Proofs.Ytdckleaemkcapaa.AM
