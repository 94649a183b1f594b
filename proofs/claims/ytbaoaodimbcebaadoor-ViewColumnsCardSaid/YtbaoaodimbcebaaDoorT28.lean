/- Texts of the proof: part T28. -/
import Derived.Test.YtbaoaodimbcebaaDoorT27
set_option maxHeartbeats 0
set_option maxRecDepth 8000
set_option linter.unusedSimpArgs false
set_option linter.unusedVariables false
set_option linter.unusedSectionVars false
namespace Go.Proofs.YtbaoaodimbcebaaDoor.AM
open Go Go.Proofs
attribute [local simp] fieldAddrA ld setCells stA skipV appendA hd makeA bnd kindA freshA killOk loadsAt newT empT lay_get allocA buildA buildRow lenA els indexAddrA isNil opA evA lit_int lit_bool lit_nil lit_nilf yldA binI unA pickA boolV intV fieldA mk eqs
def badR (r : Row) : Bool := r.2.any (·.any oddb)
def bigR (r : Row) : Bool := decide (1000 < (r.2.length : Int))
abbrev cutQ (w : Nat) (rs : List Row) : List Row := rs.map fun r => (false, cutR w r.2)
/-- What rows are written as, and the error. -/
def colsO (rs : List Row) (n : Int) : Str × Int :=
  if (outP n 1 400 || rs.any badR) = true then ([], 1) else if (decide (1000 < (rs.length : Int)) || rs.any bigR) = true then ([], 4) else (colsP (txts (cutQ n.toNat rs)), 0)
theorem outP_in {n : Int} (h : outP n 1 400 = false) : 1 ≤ n ∧ n ≤ 400 := by
  unfold outP at h
  simp only [Bool.or_eq_false_iff, decide_eq_false_iff_not] at h
  omega
theorem hasBad_c (z : Bool) (rs : List Row) (hb : Bd rs) (h : Heap) (c : Nat) : callA (mdT tblT) (run Tryd.prog (mdT tblT)) 23 [.ro z (rowsE rs), .fn 20 []] h c = some (B (rs.any badR), h, c) :=
  hasR_c z rs 20 badR (by have := hb.1; omega) (fun r hr h c => badR_c r.1 r.2 (by have := (hb.2 r hr).1; omega) (fun s hs => by have := (hb.2 r hr).2 s hs; omega) h c) h c
theorem hasBig_c (z : Bool) (rs : List Row) (hb : Bd rs) (h : Heap) (c : Nat) : callA (mdT tblT) (run Tryd.prog (mdT tblT)) 23 [.ro z (rowsE rs), .fn 24 []] h c = some (B (rs.any bigR), h, c) :=
  hasR_c z rs 24 bigR (by have := hb.1; omega) (fun r hr h c => manyR_c r.1 r.2 h c) h c
/-- Rows that are cut, few and short. -/
structure Few (qs : List Row) : Prop where
  len : qs.length ≤ 1000
  row : ∀ r ∈ qs, r.2.length ≤ 1000
  txt : ∀ r ∈ qs, ∀ s ∈ r.2, s.length ≤ 400
theorem Few.bd {qs : List Row} (h : Few qs) : Bd qs := ⟨by have := h.len; omega, fun r hr => ⟨by have := h.row r hr; omega, fun s hs => by have := h.txt r hr s hs; omega⟩⟩
theorem few_cut {w : Nat} {rs : List Row} (hw : w ≤ 400) (h1 : rs.length ≤ 1000) (h2 : rs.any bigR = false) : Few (cutQ w rs) := by
  refine ⟨by simpa using h1, fun r hr => ?_, fun r hr s hs => ?_⟩
  · obtain ⟨r', hr', rfl⟩ := List.mem_map.1 hr
    have := List.any_eq_false.1 h2 r' hr'
    simp only [bigR, decide_eq_true_eq] at this
    simp
    omega
  · obtain ⟨r', hr', rfl⟩ := List.mem_map.1 hr
    obtain ⟨y, _, rfl⟩ := List.mem_map.1 hs
    rw [List.length_take]
    omega
theorem Few.wid {qs : List Row} (h : Few qs) : ∀ x ∈ AM.wid (txts qs), x ≤ 400 := wid_le fun row hrow s hs => by
  obtain ⟨r, hr, rfl⟩ := mem_txts hrow
  exact h.txt r hr s hs
theorem Few.line {qs : List Row} (h : Few qs) {r : Row} (hr : r ∈ qs) (k : Nat) (hk : k ≤ r.2.length) : (lineK (AM.wid (txts qs)) r.2 k).length ≤ 401000 := by
  have a := lineK_len h.wid (h.txt r hr) k
  have b := h.row r hr
  have : k * 401 ≤ 1000 * 401 := Nat.mul_le_mul_right _ (by omega)
  omega
theorem Few.out {qs : List Row} (h : Few qs) (j : Nat) : ((txts (qs.take j)).flatMap (rowP (AM.wid (txts qs)))).length ≤ 401001000 := by
  have a := rows_len h.wid (rs := txts (qs.take j)) (fun row hrow => by
    obtain ⟨r, hr, rfl⟩ := mem_txts hrow
    have hr' := List.mem_of_mem_take hr
    exact ⟨h.row r hr', h.txt r hr'⟩)
  have b : (txts (qs.take j)).length ≤ 1000 := by
    have := h.len
    simp [txts]
    omega
  have : (txts (qs.take j)).length * 401001 ≤ 1000 * 401001 := Nat.mul_le_mul_right _ b
  omega
theorem out_step (qs : List Row) (wd : List Nat) (j : Nat) {r : Row} (h : qs[j]? = some r) : (txts (qs.take (j + 1))).flatMap (rowP wd) = (txts (qs.take j)).flatMap (rowP wd) ++ rowP wd r.2 := by
  have h2 : (txts qs)[j]? = some r.2 := by simp [txts, h]
  have := flat_step (rowP wd) (txts qs) j h2
  unfold txts at this ⊢
  rw [List.map_take, List.map_take]
  exact this
theorem line_step (wd : List Nat) (row : List Str) (k : Nat) {y : Str} {x : Nat} (h : row[k]? = some y) (hx : wd[k]? = some x) : lineK wd row (k + 1) = lineK wd row k ++ (if 0 < k then [32] else []) ++ fillS x y := by
  rw [lineK, List.getD_eq_getElem?_getD, List.getD_eq_getElem?_getD, h, hx]
  rfl
/-- The loop over rows. -/
structure VOut (qs : List Row) (b : Bool) (j : Nat) (s : St) : Prop where
  t7 : s.t 7 = .ro b (ints (wid (txts qs)))
  t8 : s.t 8 = .ptr 0 0 0
  t34 : s.t 34 = .ro false (rowsE qs)
  t35 : s.t 35 = I qs.length
  t36 : s.t 36 = I j
  bld : Bld s.h s.c 0 ((txts (qs.take j)).flatMap (rowP (wid (txts qs))))
/-- The loop over a row. -/
structure VIn (qs : List Row) (b : Bool) (j : Nat) (r : Row) (line : Str) (k : Nat) (s : St) : Prop where
  t7 : s.t 7 = .ro b (ints (wid (txts qs)))
  t8 : s.t 8 = .ptr 0 0 0
  t11 : s.t 11 = S line
  t34 : s.t 34 = .ro false (rowsE qs)
  t35 : s.t 35 = I qs.length
  t36 : s.t 36 = I j
  t40 : s.t 40 = rowA r
  t41 : s.t 41 = I r.2.length
  t42 : s.t 42 = I k
  bld : Bld s.h s.c 0 ((txts (qs.take j)).flatMap (rowP (wid (txts qs))))
theorem call28 {h : Heap} {c : Nat} {out : Str} (H : Bld h c 0 out) (z : Str) (hl : out.length + z.length ≤ 140737488355328) :
    ∃ v h' c', callA (mdT tblT) (run Tryd.prog (mdT tblT)) 28 [.ptr 0 0 0, S z] h c = some (v, h', c') ∧ Bld h' c' 0 (out ++ z) := by
  rw [call_heap rfl]
  exact write_ev H z hl
theorem call30 {h : Heap} {c : Nat} {out : Str} (H : Bld h c 0 out) (hl : out.length ≤ 140737488355328) : ∃ h', callA (mdT tblT) (run Tryd.prog (mdT tblT)) 30 [.ptr 0 0 0] h c = some (S out, h', c) := by
  rw [call_heap rfl]
  exact string_ev H hl
theorem vcols_ev (z : Bool) (rs : List Row) (n : Int) (hb : Bd rs) : ∃ h c, run Tryd.prog (mdT tblT) 13 [.ro z (rowsE rs), I n] Heap.none 0 = some (.tup [S (colsO rs n).1, E (colsO rs n).2], h, c) := by
  rw [run_eq (show mdT tblT 13 = some .pure from rfl) rfl, Tryd.func13, colsO]
  have c1 := fun h c => hasBad_c z rs hb h c
  have c2 := fun h c => hasBig_c z rs hb h c
  cases g1 : outP n 1 400
  · obtain ⟨n1, n2⟩ := outP_in g1
    obtain ⟨w, rfl⟩ : ∃ w : Nat, n = w := ⟨n.toNat, by omega⟩
    cases g2 : rs.any badR
    · cases g3 : decide (1000 < (rs.length : Int))
      · cases g4 : rs.any bigR
        · have hlen : rs.length ≤ 1000 := by simp at g3; omega
          have hq := few_cut (w := w) (by omega) hlen g4
          have c3 := fun h c => cut_c z w rs hb h c
          rw [Int.toNat_natCast]
          have hql : (cutQ w rs).length = rs.length := by simp
          change ∀ h c, _ = some (AV.ro false (rowsE (cutQ w rs)), h, c) at c3
          generalize cutQ w rs = qs at hq c3 hql ⊢
          obtain ⟨b, c4⟩ := widths_c false qs hq.bd
          simp -implicitDefEqProofs [Tryd.f13, g1, c1, g2, g3, c2, g4, c3, c4, Option.bind_assoc, -decide_eq_true_eq, -decide_eq_false_iff_not, -List.any_eq_true, -List.any_eq_false, -bne_iff_ne, -beq_iff_eq, -beq_eq_false_iff_ne, -bne_eq_false_iff_eq]
          refine count_to (R := fun (o : Option (AV × Heap × Nat)) => ∃ h c, o = some (.tup [S (colsP (txts qs)), E 0], h, c)) qs.length (VOut qs b) _ ?_ ?_ ?_
          · exact ⟨by simp, by simp, by simp, by simp, by simp, ⟨by simp, .val (.pointer none), .ro true [], by simp, .inl rfl, OutG.nil 5 _ _, by simp⟩⟩
          · rintro j ⟨t, h, c⟩ ⟨h7, h8, h34, h35, h36, H⟩ hj
            simp only at h7 h8 h34 h35 h36 H
            have k0 : decide (j < qs.length) = true := by simp [hj]
            obtain ⟨r, hr⟩ : ∃ r, qs[j]? = some r := ⟨qs[j], by simp [hj]⟩
            have hrm := List.mem_of_getElem? hr
            have hkj : IntKind.i64.wrap ((j : Int) + 1) = ((j + 1 : Nat) : Int) := wrap_succ (by have := hq.len; omega)
            simp -implicitDefEqProofs [h7, h8, h34, h35, h36, k0, hr, Option.bind_assoc, -decide_eq_true_eq, -decide_eq_false_iff_not, -List.any_eq_true, -List.any_eq_false, -bne_iff_ne, -beq_iff_eq, -beq_eq_false_iff_ne, -bne_eq_false_iff_eq]
            refine count_to (R := GoesOn (VOut qs b (j + 1))) r.2.length (fun k s => VIn qs b j r (lineK (wid (txts qs)) r.2 k) k s) _ ?_ ?_ ?_
            · exact ⟨by simp [h7], by simp [h8], by simp [lineK], by simp [h34], by simp [h35], by simp [h36], by simp, by simp, by simp, H⟩
            · rintro k ⟨t2, h2, c2'⟩ ⟨a7, a8, a11, a34, a35, a36, a40, a41, a42, H2⟩ hk
              simp only at a7 a8 a11 a34 a35 a36 a40 a41 a42 H2
              have k1 : decide (k < r.2.length) = true := by simp [hk]
              obtain ⟨y, hy⟩ : ∃ y, r.2[k]? = some y := ⟨r.2[k], by simp [hk]⟩
              have hym := hq.txt r hrm y (List.mem_of_getElem? hy)
              obtain ⟨x, hx, hyx⟩ := wid_cov (rs := txts qs) (row := r.2) (List.mem_map.2 ⟨r, hrm, rfl⟩) hy
              have hxl := hq.wid x (List.mem_of_getElem? hx)
              have hkk : IntKind.i64.wrap ((k : Int) + 1) = ((k + 1 : Nat) : Int) := wrap_succ (by have := hq.row r hrm; omega)
              have hsub : IntKind.i64.wrap ((x : Int) - (y.length : Int)) = ((x - y.length : Nat) : Int) := by
                rw [wrap_id (by omega) (by omega)]
                omega
              have hrep := fun h c => rep_c (x - y.length) (by omega) (run Tryd.prog (mdT tblT)) h c
              have hxi := ints_get _ k hx
              have hll := hq.line hrm k (by omega)
              rw [line_step _ _ k hy hx]
              generalize lineK (wid (txts qs)) r.2 k = line at a11 hll ⊢
              generalize hwd : ints (wid (txts qs)) = we at a7 hxi
              have b1 : y.length + (x - y.length) ≤ 140737488355328 := by omega
              cases g5 : decide (0 < k)
              · have hk0 : ¬ 0 < k := by simpa using g5
                rw [if_neg hk0, List.append_nil, fillS]
                have b2 : line.length + (y.length + (x - y.length)) ≤ 140737488355328 := by omega
                simp -implicitDefEqProofs [a7, a8, a11, a34, a35, a36, a40, a41, a42, k1, hy, g5, hxi, hsub, hrep, b1, b2, hkk, -decide_eq_true_eq, -decide_eq_false_iff_not, -List.any_eq_true, -List.any_eq_false, -bne_iff_ne, -beq_iff_eq, -beq_eq_false_iff_ne, -bne_eq_false_iff_eq]
                exact ⟨by simp [a7, hwd], by simp [a8], by simp, by simp [a34], by simp [a35], by simp [a36], by simp [a40], by simp [a41], by simp, H2⟩
              · have hk0 : 0 < k := by simpa using g5
                rw [if_pos hk0, fillS]
                have b2 : line.length + 1 ≤ 140737488355328 := by omega
                have b3 : line.length + 1 + (y.length + (x - y.length)) ≤ 140737488355328 := by omega
                simp -implicitDefEqProofs [a7, a8, a11, a34, a35, a36, a40, a41, a42, k1, hy, g5, hxi, hsub, hrep, b1, b2, b3, hkk, -decide_eq_true_eq, -decide_eq_false_iff_not, -List.any_eq_true, -List.any_eq_false, -bne_iff_ne, -beq_iff_eq, -beq_eq_false_iff_ne, -bne_eq_false_iff_eq]
                exact ⟨by simp [a7, hwd], by simp [a8], by simp, by simp [a34], by simp [a35], by simp [a36], by simp [a40], by simp [a41], by simp, H2⟩
            · rintro ⟨t2, h2, c2'⟩ ⟨a7, a8, a11, a34, a35, a36, a40, a41, a42, H2⟩
              simp only at a7 a8 a11 a34 a35 a36 a40 a41 a42 H2
              have hll := hq.line hrm r.2.length (Nat.le_refl _)
              have htl := trimR_len (lineK (wid (txts qs)) r.2 r.2.length)
              have htr := fun h c => trim_c (lineK (wid (txts qs)) r.2 r.2.length) (by omega) h c
              have hol := hq.out j
              obtain ⟨v', h', c', e28, H3⟩ := call28 H2 (rowP (wid (txts qs)) r.2) (by simp only [rowP, List.length_append, List.length_singleton]; omega)
              rw [← out_step qs _ j hr] at H3
              simp only [rowP] at e28
              generalize lineK (wid (txts qs)) r.2 r.2.length = line at a11 hll htl htr e28
              have b1 : (trimR line).length + 1 ≤ 140737488355328 := by omega
              simp -implicitDefEqProofs [a7, a8, a11, a34, a35, a36, a40, a41, a42, htr, b1, e28, hkj, -decide_eq_true_eq, -decide_eq_false_iff_not, -List.any_eq_true, -List.any_eq_false, -bne_iff_ne, -beq_iff_eq, -beq_eq_false_iff_ne, -bne_eq_false_iff_eq]
              exact ⟨by simp [a7], by simp [a8], by simp [a34], by simp [a35], by simp, H3⟩
          · rintro ⟨t, h, c⟩ ⟨h7, h8, h34, h35, h36, H⟩
            simp only at h7 h8 h34 h35 h36 H
            have hol := hq.out qs.length
            rw [List.take_length] at H hol
            obtain ⟨h', e30⟩ := call30 H (by omega)
            simp -implicitDefEqProofs [h7, h8, h34, h35, h36, e30, -decide_eq_true_eq, -decide_eq_false_iff_not, -List.any_eq_true, -List.any_eq_false, -bne_iff_ne, -beq_iff_eq, -beq_eq_false_iff_ne, -bne_eq_false_iff_eq]
            rfl
        · simp -implicitDefEqProofs [Tryd.f13, g1, c1, g2, g3, c2, g4, -decide_eq_true_eq, -decide_eq_false_iff_not, -List.any_eq_true, -List.any_eq_false, -bne_iff_ne, -beq_iff_eq, -beq_eq_false_iff_ne, -bne_eq_false_iff_eq]
      · simp -implicitDefEqProofs [Tryd.f13, g1, c1, g2, g3, -decide_eq_true_eq, -decide_eq_false_iff_not, -List.any_eq_true, -List.any_eq_false, -bne_iff_ne, -beq_iff_eq, -beq_eq_false_iff_ne, -bne_eq_false_iff_eq]
    · simp -implicitDefEqProofs [Tryd.f13, g1, c1, g2, -decide_eq_true_eq, -decide_eq_false_iff_not, -List.any_eq_true, -List.any_eq_false, -bne_iff_ne, -beq_iff_eq, -beq_eq_false_iff_ne, -bne_eq_false_iff_eq]
  · simp -implicitDefEqProofs [Tryd.f13, g1, -decide_eq_true_eq, -decide_eq_false_iff_not, -List.any_eq_true, -List.any_eq_false, -bne_iff_ne, -beq_iff_eq, -beq_eq_false_iff_ne, -bne_eq_false_iff_eq]
theorem vcols_c (z : Bool) (rs : List Row) (n : Int) (hb : Bd rs) (h : Heap) (c : Nat) : callA (mdT tblT) (run Tryd.prog (mdT tblT)) 13 [.ro z (rowsE rs), I n] h c = some (.tup [S (colsO rs n).1, E (colsO rs n).2], h, c) := by
  obtain ⟨h', c', e⟩ := vcols_ev z rs n hb
  exact call_of rfl rfl e rfl rfl
end Go.Proofs.YtbaoaodimbcebaaDoor.AM
