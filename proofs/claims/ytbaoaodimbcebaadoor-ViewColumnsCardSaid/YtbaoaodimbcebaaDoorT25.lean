/- Texts of the proof: part T25. -/
import Derived.Test.YtbaoaodimbcebaaDoorT24
set_option maxHeartbeats 0
set_option maxRecDepth 8000
set_option linter.unusedSimpArgs false
set_option linter.unusedVariables false
set_option linter.unusedSectionVars false
namespace Go.Proofs.YtbaoaodimbcebaaDoor.AM
open Go Go.Proofs
attribute [local simp] fieldAddrA ld setCells stA skipV appendA hd makeA bnd kindA freshA killOk loadsAt newT empT lay_get allocA buildA buildRow lenA els indexAddrA isNil opA evA lit_int lit_bool lit_nil lit_nilf yldA binI unA pickA boolV intV fieldA mk eqs
theorem mapM_id {h : Heap} {n : Nat} {es : List (List AV)} (hc : ∀ r ∈ es, ∀ x ∈ r, frz h n x = some x) : es.mapM (fun (r : List AV) => r.mapM (frz h n)) = some es := by
  have one : ∀ r : List AV, (∀ x ∈ r, frz h n x = some x) → r.mapM (frz h n) = some r := by
    intro r
    induction r with
    | nil => intro _; rfl
    | cons x r ih =>
      intro hr
      rw [List.mapM_cons, hr x (by simp), ih fun y hy => hr y (by simp [hy])]
      rfl
  induction es with
  | nil => rfl
  | cons r es ih =>
    rw [List.mapM_cons, one r (hc r (by simp)), ih fun y hy => hc y (by simp [hy])]
    rfl
/-- A call that answers with a row of its own. -/
theorem call_row {f e : Nat} {args vs : List AV} {es : List (List AV)} (hm : mdT tblT f = some .pure) (ha : ∀ h, args.mapM (frz h depth) = some vs) (hl : lf.lfs args = true)
    (hr : ∃ h c v, run Tryd.prog (mdT tblT) f vs Heap.none 0 = some (v, h, c) ∧ OutG e h c v es) (hes : ∀ h : Heap, ∀ r ∈ es, ∀ x ∈ r, frz h 11 x = some x) :
    ∃ b, ∀ h c, callA (mdT tblT) (run Tryd.prog (mdT tblT)) f args h c = some (.ro b es, h, c) := by
  obtain ⟨h', c', v, er, O⟩ := hr
  obtain ⟨b, hb⟩ : ∃ b, frz h' depth v = some (.ro b es) := by
    rcases O with ⟨rfl, rfl⟩ | ⟨n, rfl, _, c1, d⟩
    · exact ⟨true, rfl⟩
    · refine ⟨false, ?_⟩
      have e : els h' (.sl n 1 0 es.length) = some es := by
        simp [els, d, List.take_of_length_le]
      show (els h' (.sl n 1 0 es.length)).bind _ = _
      rw [e, Option.bind_some, mapM_id (hes h')]
      rfl
  refine ⟨b, fun h c => ?_⟩
  rw [call_pure _ _ _ _ _ _ hm, ha, Option.bind_some, er, Option.bind_some]
  simp only
  rw [hb, Option.bind_some, hl]
  rfl
theorem widths_c (z : Bool) (rs : List Row) (hb : Bd rs) : ∃ b, ∀ h c, callA (mdT tblT) (run Tryd.prog (mdT tblT)) 26 [.ro z (rowsE rs)] h c = some (.ro b (ints (wid (txts rs))), h, c) :=
  call_row rfl (fun _ => rfl) rfl (widths_ev z rs hb) (fun h r hr x hx => by
    obtain ⟨n, _, rfl⟩ := List.mem_map.1 hr
    simp at hx
    subst hx
    rfl)
/-! ### cut -/
/-- The row of rows that is made. -/
def cutE (rs : List Row) (j : Nat) : List (List AV) := (List.range rs.length).map fun i => if i < j then [.sl (i + 1) 1 0 (rs.getD i (true, [])).2.length] else [.ro true []]
theorem cutE_zero (rs : List Row) : List.replicate rs.length [AV.ro true []] = cutE rs 0 := by
  unfold cutE
  apply List.ext_getElem?
  intro i
  simp [List.getElem?_replicate, List.getElem?_range]
  split <;> simp_all
theorem cutE_len (rs : List Row) (j : Nat) : (cutE rs j).length = rs.length := by simp [cutE]
theorem cutE_get (rs : List Row) (j i : Nat) (hi : i < rs.length) : (cutE rs j)[i]? = some (if i < j then [.sl (i + 1) 1 0 (rs.getD i (true, [])).2.length] else [.ro true []]) := by
  unfold cutE
  rw [List.getElem?_map, List.getElem?_range hi]
  rfl
theorem cutE_set (rs : List Row) (j : Nat) {r : Row} (h : rs[j]? = some r) : (cutE rs j).set j [.sl (j + 1) 1 0 r.2.length] = cutE rs (j + 1) := by
  have hj := (List.getElem?_eq_some_iff.1 h).1
  apply List.ext_getElem?
  intro i
  rw [List.getElem?_set, cutE_len]
  by_cases e : j = i
  · subst e
    rw [if_pos rfl, if_pos hj, cutE_get _ _ _ hj, if_pos (by omega), List.getD_eq_getElem?_getD, h]
    rfl
  · rw [if_neg e]
    by_cases hi : i < rs.length
    · rw [cutE_get _ _ _ hi, cutE_get _ _ _ hi]
      by_cases g : i < j
      · rw [if_pos g, if_pos (by omega)]
      · rw [if_neg g, if_neg (by omega)]
    · rw [List.getElem?_eq_none (by rw [cutE_len]; omega), List.getElem?_eq_none (by rw [cutE_len]; omega)]
/-- The rows that have been cut so far. -/
structure HC (w : Nat) (rs : List Row) (j : Nat) (h : Heap) : Prop where
  top : h 0 = some ⟨1, cutE rs j, some 23⟩
  rows : ∀ i r, i < j → rs[i]? = some r → h (i + 1) = some ⟨1, strs (cutR w r.2), some 9⟩
def CInv (z : Bool) (w : Nat) (rs : List Row) (j : Nat) (s : St) : Prop := s.t 1 = I w ∧ s.t 5 = .sl 0 1 0 rs.length ∧ s.t 13 = .ro z (rowsE rs) ∧ s.t 14 = I rs.length ∧ s.t 15 = I j ∧ s.c = j + 1 ∧ HC w rs j s.h
/-- A row that is cut up to a place. -/
def cutS (w : Nat) (row : List Str) (k : Nat) : List (List AV) := strs (cutR w (row.take k) ++ row.drop k)
theorem cutS_zero (w : Nat) (row : List Str) : cutS w row 0 = strs row := by simp [cutS]
theorem cutS_all (w : Nat) (row : List Str) : cutS w row row.length = strs (cutR w row) := by simp [cutS]
/-- .. while a row is cut. -/
structure CIn (z : Bool) (w : Nat) (rs : List Row) (j : Nat) (r : Row) (k : Nat) (s : St) : Prop where
  t1 : s.t 1 = I w
  t5 : s.t 5 = .sl 0 1 0 rs.length
  t6 : s.t 6 = I j
  t13 : s.t 13 = .ro z (rowsE rs)
  t14 : s.t 14 = I rs.length
  t15 : s.t 15 = I j
  t35 : s.t 35 = .sl (j + 1) 1 0 r.2.length
  t36 : s.t 36 = I r.2.length
  t37 : s.t 37 = I k
  hc : s.c = j + 2
  top : s.h 0 = some ⟨1, cutE rs (j + 1), some 23⟩
  rows : ∀ i r, i < j → rs[i]? = some r → s.h (i + 1) = some ⟨1, strs (cutR w r.2), some 9⟩
  row : s.h (j + 1) = some ⟨1, cutS w r.2 k, some 9⟩
theorem copy_row {h : Heap} {c m n : Nat} {b : Bool} {l : List Str} (hm : h m = some ⟨1, List.replicate n [AV.val (Value.string ⟨⟨[]⟩⟩)], some 9⟩) (hn : l.length = n) : builtinA Tryd.prog .copy [23, 23] h c [.sl m 1 0 n, .ro b (strs l)] = some (I n, h.put m (some ⟨1, strs l, some 9⟩), c) := by
  have h1 : srcA h (.ro b (strs l)) = some (strs l) := rfl
  have h2 : okSrc Tryd.prog 23 (.ro b (strs l)) = true := by simp
  unfold builtinA
  simp only [slT_23, szT_9, hm, h1, Option.bind_some]
  rw [if_pos ⟨h2, by trivial, hd_strs l, by simp, by simp [hn]⟩]
  simp [hn]
theorem cut_step (w : Nat) (row : List Str) (k : Nat) {y : Str} (h : row[k]? = some y) : cutS w row (k + 1) = (cutS w row k).set k [S (y.take w)] := by
  unfold cutS
  have hk := (List.getElem?_eq_some_iff.1 h).1
  rw [← List.map_set, List.take_add_one, h]
  have hd : row.drop k = y :: row.drop (k + 1) := by
    rw [List.drop_eq_getElem_cons hk]
    rw [List.getElem?_eq_getElem hk] at h
    cases h
    rfl
  have hl : (cutR w (row.take k)).length = k := by simp; omega
  rw [hd, List.set_append_right _ _ (by omega), hl, Nat.sub_self]
  simp
theorem cut_get (w : Nat) (row : List Str) (k : Nat) {y : Str} (h : row[k]? = some y) : (cutS w row k)[k]? = some [S y] := by
  unfold cutS
  have hk := (List.getElem?_eq_some_iff.1 h).1
  have hl : (cutR w (row.take k)).length = k := by simp; omega
  rw [List.getElem?_map, List.getElem?_append_right (by omega), hl, Nat.sub_self, List.getElem?_drop, Nat.add_zero, h]
  rfl
def CutR (w : Nat) (rs : List Row) (o : Option (AV × Heap × Nat)) : Prop := ∃ h c, o = some (.sl 0 1 0 rs.length, h, c) ∧ HC w rs rs.length h
theorem cut_ev (z : Bool) (w : Nat) (rs : List Row) (hb : Bd rs) : CutR w rs (run Tryd.prog (mdT tblT) 25 [.ro z (rowsE rs), I w] Heap.none 0) := by
  rw [run_eq (show mdT tblT 25 = some .pure from rfl) rfl, Tryd.func25]
  have hz : (rs.length : Int) * 24 ≤ room ∧ (rs.length : Int) ≤ room := by have := hb.1; unfold room; omega
  have hz2 : rs.length * 24 ≤ room ∧ rs.length ≤ room := by have := hb.1; unfold room; omega
  simp -implicitDefEqProofs [Tryd.f25, hz, hz2, cutE_zero, Option.bind_assoc, -decide_eq_true_eq, -decide_eq_false_iff_not, -List.any_eq_true, -List.any_eq_false, -bne_iff_ne, -beq_iff_eq, -beq_eq_false_iff_ne, -bne_eq_false_iff_eq]
  refine count_to (R := CutR w rs) rs.length (CInv z w rs) _ ?_ ?_ ?_
  · exact ⟨by simp, by simp, by simp, by simp, by simp, by simp, ⟨by simp, fun i r hi => by omega⟩⟩
  · rintro j ⟨t, h, c⟩ ⟨h1, h5, h13, h14, h15, hc, Q⟩ hj
    simp only at h1 h5 h13 h14 h15 hc Q
    have k0 : decide (j < rs.length) = true := by simp [hj]
    obtain ⟨r, hrj⟩ : ∃ r, rs[j] = r := ⟨rs[j], rfl⟩
    have hr : rs[j]? = some r := by rw [List.getElem?_eq_getElem hj, hrj]
    have hrb := hb.2 r (List.mem_of_getElem? hr)
    have hz : (r.2.length : Int) * 16 ≤ ((room : Nat) : Int) := by have := hrb.1; unfold room; omega
    have hz2 : r.2.length ≤ room := by have := hrb.1; unfold room; omega
    have hg := cutE_get rs j j hj
    rw [if_neg (by omega)] at hg
    have hs := cutE_set rs j hr
    have hg2 := cutE_get rs (j + 1) j hj
    rw [if_pos (by omega), List.getD_eq_getElem?_getD, hr] at hg2
    simp only [Option.getD_some] at hg2
    have htop := Q.top
    simp -implicitDefEqProofs [h1, h5, h13, h14, h15, hc, hj, k0, hrj, hz, hz2, htop, hg, hs, hg2, copy_row, Option.bind_assoc, -decide_eq_true_eq, -decide_eq_false_iff_not, -List.any_eq_true, -List.any_eq_false, -bne_iff_ne, -beq_iff_eq, -beq_eq_false_iff_ne, -bne_eq_false_iff_eq]
    have hkj : IntKind.i64.wrap ((j : Int) + 1) = ((j + 1 : Nat) : Int) := wrap_succ (by have := hb.1; omega)
    refine count_to (R := GoesOn (CInv z w rs (j + 1))) r.2.length (CIn z w rs j r) _ ?_ ?_ ?_
    · refine ⟨by simp [h1], by simp [h5], by simp, by simp [h13], by simp [h14], by simp [h15], by simp, by simp, by simp, by simp [hc], by simp, ?_, by simp [cutS_zero]⟩
      intro i r' hi hr'
      have e1 : i ≠ j := by omega
      simp [e1]
      simpa using Q.rows i r' hi hr'
    · rintro k ⟨t2, h2, c2⟩ ⟨a1, a5, a6, a13, a14, a15, a35, a36, a37, ac, atop, arows, arow⟩ hk
      simp only at a1 a5 a6 a13 a14 a15 a35 a36 a37 ac atop arows arow
      have k1 : decide (k < r.2.length) = true := by simp [hk]
      obtain ⟨y, hy⟩ : ∃ y, r.2[k]? = some y := ⟨r.2[k], by simp [hk]⟩
      have hkk : IntKind.i64.wrap ((k : Int) + 1) = ((k + 1 : Nat) : Int) := wrap_succ (by have := hrb.1; omega)
      have hyl := hrb.2 y (List.mem_of_getElem? hy)
      have gk := cut_get w r.2 k hy
      have gs := cut_step w r.2 k hy
      have hm := mnI_nat y.length w
      have hmt : y.take (min y.length w) = y.take w := by
        rw [Nat.min_comm, ← List.take_take, List.take_length]
      have hm2 : min y.length w ≤ y.length := Nat.min_le_left _ _
      generalize min y.length w = m at hm hmt hm2
      simp -implicitDefEqProofs [a1, a5, a6, a13, a14, a15, a35, a36, a37, ac, atop, arow, hk, k1, hj, hg2, gk, hm, hm2, hmt, ← gs, hkk, Option.bind_assoc, -decide_eq_true_eq, -decide_eq_false_iff_not, -List.any_eq_true, -List.any_eq_false, -bne_iff_ne, -beq_iff_eq, -beq_eq_false_iff_ne, -bne_eq_false_iff_eq]
      refine ⟨by simp [a1], by simp [a5], by simp [a6], by simp [a13], by simp [a14], by simp [a15], by simp [a35], by simp [a36], by simp, by simp, by simpa using atop, fun i r' hi hr' => ?_, by simp⟩
      have e1 : i + 1 ≠ j + 1 := by omega
      simp only [put_get, if_neg e1]
      exact arows i r' hi hr'
    · rintro ⟨t2, h2, c2⟩ ⟨a1, a5, a6, a13, a14, a15, a35, a36, a37, ac, atop, arows, arow⟩
      simp only at a1 a5 a6 a13 a14 a15 a35 a36 a37 ac atop arows arow
      simp -implicitDefEqProofs [a1, a5, a6, a13, a14, a15, a35, a36, a37, ac, hkj, -decide_eq_true_eq, -decide_eq_false_iff_not, -List.any_eq_true, -List.any_eq_false, -bne_iff_ne, -beq_iff_eq, -beq_eq_false_iff_ne, -bne_eq_false_iff_eq]
      refine ⟨by simp [a1], by simp [a5], by simp [a13], by simp [a14], by simp, by simp [ac], ⟨by simpa using atop, fun i r' hi hr' => ?_⟩⟩
      by_cases e : i = j
      · subst e
        rw [hr] at hr'
        cases hr'
        rw [cutS_all] at arow
        exact arow
      · exact arows i r' (by omega) hr'
  · rintro ⟨t, h, c⟩ ⟨h1, h5, h13, h14, h15, hc, Q⟩
    simp only at h1 h5 h13 h14 h15 hc Q
    simp -implicitDefEqProofs [h1, h5, h13, h14, h15, -decide_eq_true_eq, -decide_eq_false_iff_not, -List.any_eq_true, -List.any_eq_false, -bne_iff_ne, -beq_iff_eq, -beq_eq_false_iff_ne, -bne_eq_false_iff_eq]
    exact ⟨_, _, rfl, Q⟩
theorem cut_c (z : Bool) (w : Nat) (rs : List Row) (hb : Bd rs) (h : Heap) (c : Nat) : callA (mdT tblT) (run Tryd.prog (mdT tblT)) 25 [.ro z (rowsE rs), I w] h c = some (.ro false (rowsE (rs.map fun r => (false, cutR w r.2))), h, c) := by
  obtain ⟨h', c', er, Q⟩ := cut_ev z w rs hb
  have hf : frz h' depth (.sl 0 1 0 rs.length) = some (.ro false (rowsE (rs.map fun r => (false, cutR w r.2)))) := by
    have e : els h' (.sl 0 1 0 rs.length) = some (cutE rs rs.length) := by
      simp [els, Q.top, cutE_len, List.take_of_length_le]
    show (els h' (.sl 0 1 0 rs.length)).bind _ = _
    rw [e, Option.bind_some]
    have hm : (cutE rs rs.length).mapM (fun (e : List AV) => e.mapM (frz h' 11)) = some (rowsE (rs.map fun r => (false, cutR w r.2))) := by
      have key : ∀ (n : Nat), n ≤ rs.length → ((cutE rs rs.length).take n).mapM (fun (e : List AV) => e.mapM (frz h' 11)) = some (rowsE ((rs.take n).map fun r => (false, cutR w r.2))) := by
        intro n
        induction n with
        | zero => intro _; simp
        | succ n ih =>
          intro hn
          obtain ⟨r, hr⟩ : ∃ r, rs[n]? = some r := ⟨rs[n], by simp [show n < rs.length by omega]⟩
          have hg := cutE_get rs rs.length n (by omega)
          rw [if_pos (by omega), List.getD_eq_getElem?_getD, hr] at hg
          simp only [Option.getD_some] at hg
          rw [List.take_add_one, hg, List.take_add_one, hr, Option.toList_some, Option.toList_some, List.mapM_append, ih (by omega)]
          have he : els h' (.sl (n + 1) 1 0 r.2.length) = some (strs (cutR w r.2)) := by
            simp [els, Q.rows n r (by omega) hr]
            rw [List.take_of_length_le (by simp)]
          have h1 : frz h' 11 (.sl (n + 1) 1 0 r.2.length) = some (.ro false (strs (cutR w r.2))) := by
            show (els h' (.sl (n + 1) 1 0 r.2.length)).bind _ = _
            rw [he, Option.bind_some, mapM_id (fun r hr x hx => by
              obtain ⟨y, _, rfl⟩ := List.mem_map.1 hr
              simp at hx
              subst hx
              rfl)]
            rfl
          simp [h1, rowsE]
      have := key rs.length (Nat.le_refl _)
      rwa [List.take_of_length_le (by rw [cutE_len]; exact Nat.le_refl _), List.take_length] at this
    rw [hm]
    rfl
  rw [call_pure _ _ _ _ _ _ rfl]
  have ha : [AV.ro z (rowsE rs), I w].mapM (frz h depth) = some [.ro z (rowsE rs), I w] := rfl
  rw [ha, Option.bind_some, er, Option.bind_some]
  simp only
  rw [hf, Option.bind_some]
  rfl
end Go.Proofs.YtbaoaodimbcebaaDoor.AM
