/- Texts of the proof: part T10. -/
import Derived.Test.YtbaoaodimbcebaaDoorT9
set_option maxHeartbeats 0
set_option maxRecDepth 8000
set_option linter.unusedSimpArgs false
set_option linter.unusedVariables false
set_option linter.unusedSectionVars false
namespace Go.Proofs.YtbaoaodimbcebaaDoor.AM
open Go Go.Proofs
attribute [local simp] fieldAddrA ld setCells stA skipV appendA hd makeA bnd kindA freshA killOk loadsAt newT empT lay_get allocA buildA buildRow lenA els indexAddrA isNil opA evA lit_int lit_bool lit_nil lit_nilf yldA binI unA pickA boolV intV fieldA mk eqs
/-- What a text is wrapped to: the error and the lines. -/
def wrapO (l : Str) (n : Int) : Int × List Str := if (outP n 1 400 || l.any oddb) = true then (1, []) else if 20000 < l.length then (4, []) else (0, wrapP n.toNat l)
theorem outP_in {n : Int} (h : outP n 1 400 = false) : 1 ≤ n ∧ n ≤ 400 := by
  unfold outP at h
  simp only [Bool.or_eq_false_iff, decide_eq_false_iff_not] at h
  omega
theorem vwrap_ev (l : Str) (n : Int) (hl : l.length ≤ 30000) : ∃ h c v, run Tryd.prog (mdT tblT) 8 [S l, I n] Heap.none 0 = some (.tup [v, E (wrapO l n).1], h, c) ∧ OutL h c v (wrapO l n).2 := by
  rw [run_eq (show mdT tblT 8 = some .pure from rfl) rfl, Tryd.func8, wrapO]
  have cp := fun h c => plain_c l (by omega) h c
  cases g1 : outP n 1 400
  · obtain ⟨n1, n2⟩ := outP_in g1
    obtain ⟨w, rfl⟩ : ∃ w : Nat, n = w := ⟨n.toNat, by omega⟩
    cases g2 : l.any oddb
    · by_cases g3 : 20000 < l.length
      · have k3 : decide (20000 < (l.length : Int)) = true := by simp; omega
        simp -implicitDefEqProofs [Tryd.f8, g1, cp, g2, g3, k3, -decide_eq_true_eq, -decide_eq_false_iff_not, -List.any_eq_true, -List.any_eq_false]
        exact ⟨_, _, _, ⟨rfl, rfl, rfl⟩, .inl ⟨rfl, rfl⟩⟩
      · have k3 : decide (20000 < (l.length : Int)) = false := by simp; omega
        have hw : 0 < w := by omega
        obtain ⟨b, hb⟩ : ∃ b, ∀ h c, callA (mdT tblT) (run Tryd.prog (mdT tblT)) 19 [S l, I w] h c = some (.ro b (strs (wds w l)), h, c) := by
          obtain ⟨b, hb⟩ := words_c hw l (by omega) Heap.none 0
          refine ⟨b, fun h c => ?_⟩
          obtain ⟨b', hb'⟩ := words_c hw l (by omega) h c
          have e1 := call_pure Tryd.prog (mdT tblT) 19 [S l, I w] h c rfl
          have e2 := call_pure Tryd.prog (mdT tblT) 19 [S l, I w] Heap.none 0 rfl
          rw [e1] at hb'
          rw [e2] at hb
          have ha : ∀ h, [S l, I w].mapM (frz h depth) = some [S l, I w] := fun _ => rfl
          rw [ha, Option.bind_some] at hb hb'
          rw [e1, ha, Option.bind_some]
          cases hr : run Tryd.prog (mdT tblT) 19 [S l, I w] Heap.none 0 with
          | none => rw [hr] at hb; cases hb
          | some p =>
            rw [hr, Option.bind_some] at hb hb'
            rw [Option.bind_some]
            cases hf : frz p.2.1 depth p.1 with
            | none => rw [hf] at hb; cases hb
            | some r =>
              rw [hf, Option.bind_some] at hb hb'
              rw [Option.bind_some]
              split at hb
              · rename_i hc
                rw [if_pos hc] at hb' ⊢
                cases hb
                rfl
              · cases hb
        have hwl := wds_len hw l
        simp -implicitDefEqProofs [Tryd.f8, g1, cp, g2, g3, k3, hb, Option.bind_assoc, -decide_eq_true_eq, -decide_eq_false_iff_not, -List.any_eq_true, -List.any_eq_false]
        refine count_to (R := fun (o : Option (AV × Heap × Nat)) => ∃ h c v, o = some (AV.tup [v, E 0], h, c) ∧ OutL h c v (wrapP w l)) (wds w l).length
          (fun j s => OutL s.h s.c (s.t 6) (((wds w l).take j).foldl (jn w) []) ∧ s.t 1 = I w ∧ s.t 23 = .ro b (strs (wds w l)) ∧ s.t 24 = I (wds w l).length ∧ s.t 25 = I j) _ ?_ ?_ ?_
        · simp
          exact .inl ⟨rfl, rfl⟩
        · rintro j ⟨t, h, c⟩ ⟨O, h1, h23, h24, h25⟩ hj
          simp only at O h1 h23 h24 h25
          have k0 : decide (j < (wds w l).length) = true := by simp [hj]
          have hx : (wds w l)[j]? = some (wds w l)[j] := by simp [hj]
          have hfold : ((wds w l).take (j + 1)).foldl (jn w) [] = jn w (((wds w l).take j).foldl (jn w) []) (wds w l)[j] := by
            rw [List.take_add_one, hx, List.foldl_append]
            rfl
          rw [hfold]
          have hlen := fold_len w ((wds w l).take j) []
          have hles := fold_le (w := w) ((wds w l).take j) [] (fun z hz => by cases hz) (fun y hy => (wds_le hw l y (List.mem_of_mem_take hy)).2.1)
          have hxl := (wds_le hw l _ (List.getElem_mem hj)).2.1
          generalize ((wds w l).take j).foldl (jn w) [] = ls at O hlen hles ⊢
          generalize (wds w l)[j] = x at hx hxl ⊢
          simp at hlen
          have hj1 : IntKind.i64.wrap ((j : Int) + 1) = ((j + 1 : Nat) : Int) := wrap_succ (by omega)
          obtain ⟨v', h', e, O'⟩ := outL_append O (by omega) x
          cases hm : ls.length with
          | zero =>
            have : ls = [] := List.eq_nil_of_length_eq_zero hm
            subst this
            have kw : IntKind.i64.wrap (-1) = -1 := wrap_id (by omega) (by omega)
            rw [jn_nil]
            rcases O with ⟨hv, _⟩ | ⟨n, hv, d1, d2⟩
            · rw [hv] at e
              simp -implicitDefEqProofs [h1, h23, h24, h25, k0, hx, hv, kw, hj1, -appendA, e, -decide_eq_true_eq, -decide_eq_false_iff_not]
              exact O'
            · rw [hv] at e
              simp only [List.length_nil] at hv e
              simp -implicitDefEqProofs [h1, h23, h24, h25, k0, hx, hv, kw, hj1, -appendA, e, -decide_eq_true_eq, -decide_eq_false_iff_not]
              exact O'
          | succ m =>
            have hml : m < ls.length := by omega
            have hy : ls[m]? = some ls[m] := by simp [hml]
            rw [jn_last hm hy]
            have hyl := hles _ (List.getElem_mem hml)
            generalize ls[m] = y at hy hyl ⊢
            rcases O with ⟨hv, hn⟩ | ⟨n, hv, d1, d2⟩
            · subst hn; cases hm
            · rw [hv] at e
              rw [hm] at hv e
              have kw : IntKind.i64.wrap (m : Int) = m := wrap_id (by omega) (by omega)
              have kx : IntKind.i64.wrap ((y.length : Int) + 1) = (y.length : Int) + 1 := wrap_id (by omega) (by omega)
              have kz : IntKind.i64.wrap ((y.length : Int) + 1 + (x.length : Int)) = (y.length : Int) + 1 + (x.length : Int) := wrap_id (by omega) (by omega)
              have km : (m : Int) < (m : Int) + 1 := by omega
              by_cases g : y.length + 1 + x.length ≤ w
              · have kg : decide ((y.length : Int) + 1 + (x.length : Int) ≤ (w : Int)) = true := by simp; omega
                have kr : 1 + x.length ≤ 140737488355328 := by omega
                have kr2 : y.length + (x.length + 1) ≤ 140737488355328 := by omega
                rw [if_pos g]
                simp -implicitDefEqProofs [h1, h23, h24, h25, k0, hx, hv, kw, km, kx, kz, kg, kr, kr2, d2, hy, hj1, -decide_eq_true_eq, -decide_eq_false_iff_not]
                exact .inr ⟨n, by rw [List.length_set, hm], d1, by simp [strs, List.map_set]⟩
              · have kg : decide ((y.length : Int) + 1 + (x.length : Int) ≤ (w : Int)) = false := by simp; omega
                rw [if_neg g]
                simp -implicitDefEqProofs [h1, h23, h24, h25, k0, hx, hv, kw, km, kx, kz, kg, d2, hy, hj1, -appendA, e, -decide_eq_true_eq, -decide_eq_false_iff_not]
                exact O'
        · rintro ⟨t, h, c⟩ ⟨O, h1, h23, h24, h25⟩
          simp only at O h1 h23 h24 h25
          rw [List.take_length] at O
          simp -implicitDefEqProofs [h1, h23, h24, h25]
          exact ⟨_, _, _, ⟨rfl, rfl, rfl⟩, O⟩
    · simp -implicitDefEqProofs [Tryd.f8, g1, cp, g2, -decide_eq_true_eq, -decide_eq_false_iff_not, -List.any_eq_true, -List.any_eq_false]
      exact ⟨_, _, _, ⟨rfl, rfl, rfl⟩, .inl ⟨rfl, rfl⟩⟩
  · simp -implicitDefEqProofs [Tryd.f8, g1]
    exact ⟨_, _, _, ⟨rfl, rfl, rfl⟩, .inl ⟨rfl, rfl⟩⟩
theorem call_tup {f : Nat} {args vs : List AV} {e : Int} {ls : List Str} (hm : mdT tblT f = some .pure) (ha : ∀ h, args.mapM (frz h depth) = some vs) (hl : lf.lfs args = true)
    (hr : ∃ h c v, run Tryd.prog (mdT tblT) f vs Heap.none 0 = some (.tup [v, E e], h, c) ∧ OutL h c v ls) : ∃ b, ∀ h c, callA (mdT tblT) (run Tryd.prog (mdT tblT)) f args h c = some (.tup [.ro b (strs ls), E e], h, c) := by
  obtain ⟨h', c', v, er, O⟩ := hr
  obtain ⟨b, hb⟩ : ∃ b, frz h' 11 v = some (.ro b (strs ls)) := by
    rcases O with ⟨rfl, rfl⟩ | ⟨n, rfl, c1, d⟩
    · exact ⟨true, rfl⟩
    · refine ⟨false, ?_⟩
      have e : els h' (.sl n 1 0 ls.length) = some (strs ls) := by
        simp [els, d, List.take_of_length_le]
      show (els h' (.sl n 1 0 ls.length)).bind _ = _
      rw [e, Option.bind_some, mapM_S]
      rfl
  refine ⟨b, fun h c => ?_⟩
  rw [call_pure _ _ _ _ _ _ hm, ha, Option.bind_some, er, Option.bind_some]
  simp only
  have hf : frz h' depth (.tup [v, E e]) = some (.tup [.ro b (strs ls), E e]) := by
    show (([v, E e].mapM (frz h' 11)).map AV.tup) = _
    have h2 : frz h' 11 (E e) = some (E e) := rfl
    simp [List.mapM_cons, hb, h2]
  rw [hf, Option.bind_some, hl]
  rfl
theorem vwrap_c (l : Str) (n : Int) (hl : l.length ≤ 30000) : ∃ b, ∀ h c, callA (mdT tblT) (run Tryd.prog (mdT tblT)) 8 [S l, I n] h c = some (.tup [.ro b (strs (wrapO l n).2), E (wrapO l n).1], h, c) :=
  call_tup rfl (fun _ => rfl) rfl (vwrap_ev l n hl)
end Go.Proofs.YtbaoaodimbcebaaDoor.AM
