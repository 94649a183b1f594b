/- Texts of the proof: part T30. -/
import Derived.Test.YtbaoaodimbcebaaDoorT29
set_option maxHeartbeats 0
set_option maxRecDepth 8000
set_option linter.unusedSimpArgs false
set_option linter.unusedVariables false
set_option linter.unusedSectionVars false
namespace Go.Proofs.YtbaoaodimbcebaaDoor.AM
open Go Go.Proofs
attribute [local simp] fieldAddrA ld setCells stA skipV appendA hd makeA bnd kindA freshA killOk loadsAt newT empT lay_get allocA buildA buildRow lenA els indexAddrA isNil opA evA lit_int lit_bool lit_nil lit_nilf yldA binI unA pickA boolV intV fieldA mk eqs
theorem colsO_bad {rs : List Row} {n : Int} (h : rs.any badR = true) : colsO rs n = ([], 1) := by
  unfold colsO
  rw [if_pos (by simp [h])]
theorem colsO_big {rs : List Row} {n : Int} (h0 : outP n 1 400 = false) (h : rs.any badR = false) (h2 : (decide (1000 < (rs.length : Int)) || rs.any bigR) = true) : colsO rs n = ([], 4) := by
  unfold colsO
  rw [if_neg (by simp [h0, h]), if_pos h2]
theorem colsO_ok {rs : List Row} {w : Nat} (h0 : outP w 1 400 = false) (h : rs.any badR = false) (h2 : (decide (1000 < (rs.length : Int)) || rs.any bigR) = false) : colsO rs w = (colsP (txts (cutQ w rs)), 0) := by
  unfold colsO
  rw [if_neg (by simp [h0, h]), if_neg (by simp [h2])]
  rfl
/-- What the function answers. -/
def AnsC (rs : List Row) (n : Int) (o : Option (AV × Heap × Nat)) : Prop := ∃ h c, o = some (.tup [S (colsO rs n).1, E (colsO rs n).2], h, c)
theorem rcols_ev (z : Bool) (rs : List Row) (n : Int) (hb : Bd rs) : AnsC rs n (run Tryd.prog (mdT tblT) 12 [.ro z (rowsE rs), I n] Heap.none 0) := by
  rw [run_eq (show mdT tblT 12 = some .pure from rfl) rfl, Tryd.func12]
  cases g1 : outP n 1 400
  · obtain ⟨n1, n2⟩ := outP_in g1
    obtain ⟨w, rfl⟩ : ∃ w : Nat, n = w := ⟨n.toNat, by omega⟩
    have hrl := hb.1
    simp -implicitDefEqProofs [Tryd.f12, g1, Option.bind_assoc, -decide_eq_true_eq, -decide_eq_false_iff_not, -List.any_eq_true, -List.any_eq_false, -bne_iff_ne, -beq_iff_eq, -beq_eq_false_iff_ne, -bne_eq_false_iff_eq]
    refine scan_list (R := AnsC rs w) rs badR (fun j s => s.t 0 = .ro z (rowsE rs) ∧ s.t 1 = I w ∧ s.t 6 = I j) _ ?_ ?_ ?_ ?_
    · exact ⟨by simp, by simp, by simp⟩
    · rintro j ⟨t, h, c⟩ ⟨h0, h1, h6⟩ hj hf
      simp only at h0 h1 h6
      have k0 : decide (j < rs.length) = true := by simp [hj]
      obtain ⟨r, hrj⟩ : ∃ r, rs[j] = r := ⟨rs[j], rfl⟩
      have hr : rs[j]? = some r := by rw [List.getElem?_eq_getElem hj, hrj]
      have hrb := hb.2 r (List.mem_of_getElem? hr)
      have hr1 := hrb.1
      rw [hrj] at hf
      have hkj : IntKind.i64.wrap ((j : Int) + 1) = ((j + 1 : Nat) : Int) := wrap_succ (by omega)
      simp -implicitDefEqProofs [h0, h1, h6, k0, hr, Option.bind_assoc, -decide_eq_true_eq, -decide_eq_false_iff_not, -List.any_eq_true, -List.any_eq_false, -bne_iff_ne, -beq_iff_eq, -beq_eq_false_iff_ne, -bne_eq_false_iff_eq]
      refine scan_list (R := GoesOn (fun s => s.t 0 = .ro z (rowsE rs) ∧ s.t 1 = I w ∧ s.t 6 = I ((j : Int) + 1))) r.2 (·.any oddb) (fun i s => s.t 0 = .ro z (rowsE rs) ∧ s.t 1 = I w ∧ s.t 6 = I j ∧ s.t 7 = I i) _ ?_ ?_ ?_ ?_
      · exact ⟨by simp [h0], by simp [h1], by simp [h6], by simp⟩
      · rintro i ⟨t2, h2, c2⟩ ⟨a0, a1, a6, a7⟩ hi hfi
        simp only at a0 a1 a6 a7
        have k1 : decide (i < r.2.length) = true := by simp [hi]
        obtain ⟨y, hy⟩ : ∃ y, r.2[i] = y := ⟨r.2[i], rfl⟩
        have hy2 : r.2[i]? = some y := by rw [List.getElem?_eq_getElem hi, hy]
        rw [hy] at hfi
        have co := fun h c => odd_c y (by have := hrb.2 y (List.mem_of_getElem? hy2); omega) h c
        have hki : IntKind.i64.wrap ((i : Int) + 1) = ((i + 1 : Nat) : Int) := wrap_succ (by omega)
        simp -implicitDefEqProofs [a0, a1, a6, a7, k1, hr, hy2, co, hfi, hki, -decide_eq_true_eq, -decide_eq_false_iff_not, -List.any_eq_true, -List.any_eq_false, -bne_iff_ne, -beq_iff_eq, -beq_eq_false_iff_ne, -bne_eq_false_iff_eq]
      · rintro i ⟨t2, h2, c2⟩ _ hi hfi ha
        rw [show r.2.any (·.any oddb) = badR r from rfl, hf] at ha
        cases ha
      · rintro ⟨t2, h2, c2⟩ ⟨a0, a1, a6, a7⟩ ha
        simp only at a0 a1 a6 a7
        simp -implicitDefEqProofs [a0, a1, a6, a7, hr, hkj, -decide_eq_true_eq, -decide_eq_false_iff_not, -List.any_eq_true, -List.any_eq_false, -bne_iff_ne, -beq_iff_eq, -beq_eq_false_iff_ne, -bne_eq_false_iff_eq]
    · rintro j ⟨t, h, c⟩ ⟨h0, h1, h6⟩ hj hf hall
      simp only at h0 h1 h6
      have k0 : decide (j < rs.length) = true := by simp [hj]
      obtain ⟨r, hrj⟩ : ∃ r, rs[j] = r := ⟨rs[j], rfl⟩
      have hr : rs[j]? = some r := by rw [List.getElem?_eq_getElem hj, hrj]
      have hrb := hb.2 r (List.mem_of_getElem? hr)
      have hr1 := hrb.1
      rw [hrj] at hf
      simp -implicitDefEqProofs [h0, h1, h6, k0, hr, Option.bind_assoc, -decide_eq_true_eq, -decide_eq_false_iff_not, -List.any_eq_true, -List.any_eq_false, -bne_iff_ne, -beq_iff_eq, -beq_eq_false_iff_ne, -bne_eq_false_iff_eq]
      refine scan_list (R := Leaves _) r.2 (·.any oddb) (fun i s => s.t 0 = .ro z (rowsE rs) ∧ s.t 1 = I w ∧ s.t 6 = I j ∧ s.t 7 = I i) _ ?_ ?_ ?_ ?_
      · exact ⟨by simp [h0], by simp [h1], by simp [h6], by simp⟩
      · rintro i ⟨t2, h2, c2⟩ ⟨a0, a1, a6, a7⟩ hi hfi
        simp only at a0 a1 a6 a7
        have k1 : decide (i < r.2.length) = true := by simp [hi]
        obtain ⟨y, hy⟩ : ∃ y, r.2[i] = y := ⟨r.2[i], rfl⟩
        have hy2 : r.2[i]? = some y := by rw [List.getElem?_eq_getElem hi, hy]
        rw [hy] at hfi
        have co := fun h c => odd_c y (by have := hrb.2 y (List.mem_of_getElem? hy2); omega) h c
        have hki : IntKind.i64.wrap ((i : Int) + 1) = ((i + 1 : Nat) : Int) := wrap_succ (by omega)
        simp -implicitDefEqProofs [a0, a1, a6, a7, k1, hr, hy2, co, hfi, hki, -decide_eq_true_eq, -decide_eq_false_iff_not, -List.any_eq_true, -List.any_eq_false, -bne_iff_ne, -beq_iff_eq, -beq_eq_false_iff_ne, -bne_eq_false_iff_eq]
      · rintro i ⟨t2, h2, c2⟩ ⟨a0, a1, a6, a7⟩ hi hfi ha
        simp only at a0 a1 a6 a7
        have k1 : decide (i < r.2.length) = true := by simp [hi]
        obtain ⟨y, hy⟩ : ∃ y, r.2[i] = y := ⟨r.2[i], rfl⟩
        have hy2 : r.2[i]? = some y := by rw [List.getElem?_eq_getElem hi, hy]
        rw [hy] at hfi
        have co := fun h c => odd_c y (by have := hrb.2 y (List.mem_of_getElem? hy2); omega) h c
        simp -implicitDefEqProofs [a0, a1, a6, a7, k1, hr, hy2, co, hfi, AnsC, colsO_bad hall, -decide_eq_true_eq, -decide_eq_false_iff_not, -List.any_eq_true, -List.any_eq_false, -bne_iff_ne, -beq_iff_eq, -beq_eq_false_iff_ne, -bne_eq_false_iff_eq]
      · rintro ⟨t2, h2, c2⟩ _ ha
        rw [show r.2.any (·.any oddb) = badR r from rfl, hf] at ha
        cases ha
    · rintro ⟨t, h, c⟩ ⟨h0, h1, h6⟩ hall
      simp only at h0 h1 h6
      cases g3 : decide (1000 < (rs.length : Int))
      · simp -implicitDefEqProofs [h0, h1, h6, g3, Option.bind_assoc, -decide_eq_true_eq, -decide_eq_false_iff_not, -List.any_eq_true, -List.any_eq_false, -bne_iff_ne, -beq_iff_eq, -beq_eq_false_iff_ne, -bne_eq_false_iff_eq]
        refine scan_list (R := AnsC rs w) rs bigR (fun j s => s.t 0 = .ro z (rowsE rs) ∧ s.t 1 = I w ∧ s.t 8 = I j) _ ?_ ?_ ?_ ?_
        · exact ⟨by simp [h0], by simp [h1], by simp⟩
        · rintro j ⟨t, h, c⟩ ⟨h0, h1, h8⟩ hj hf
          simp only at h0 h1 h8
          have k0 : decide (j < rs.length) = true := by simp [hj]
          obtain ⟨r, hrj⟩ : ∃ r, rs[j] = r := ⟨rs[j], rfl⟩
          have hr : rs[j]? = some r := by rw [List.getElem?_eq_getElem hj, hrj]
          rw [hrj, bigR] at hf
          have hkj : IntKind.i64.wrap ((j : Int) + 1) = ((j + 1 : Nat) : Int) := wrap_succ (by omega)
          simp -implicitDefEqProofs [h0, h1, h8, k0, hr, hf, hkj, -decide_eq_true_eq, -decide_eq_false_iff_not, -List.any_eq_true, -List.any_eq_false, -bne_iff_ne, -beq_iff_eq, -beq_eq_false_iff_ne, -bne_eq_false_iff_eq]
        · rintro j ⟨t, h, c⟩ ⟨h0, h1, h8⟩ hj hf hall2
          simp only at h0 h1 h8
          have k0 : decide (j < rs.length) = true := by simp [hj]
          obtain ⟨r, hrj⟩ : ∃ r, rs[j] = r := ⟨rs[j], rfl⟩
          have hr : rs[j]? = some r := by rw [List.getElem?_eq_getElem hj, hrj]
          rw [hrj, bigR] at hf
          have hbig := colsO_big g1 hall (by rw [hall2]; simp)
          simp -implicitDefEqProofs [h0, h1, h8, k0, hr, hf, AnsC, hbig, -decide_eq_true_eq, -decide_eq_false_iff_not, -List.any_eq_true, -List.any_eq_false, -bne_iff_ne, -beq_iff_eq, -beq_eq_false_iff_ne, -bne_eq_false_iff_eq]
        · rintro ⟨t, h, c⟩ ⟨h0, h1, h8⟩ hall2
          simp only at h0 h1 h8
          simp -implicitDefEqProofs [h0, h1, h8, Option.bind_assoc, -decide_eq_true_eq, -decide_eq_false_iff_not, -List.any_eq_true, -List.any_eq_false, -bne_iff_ne, -beq_iff_eq, -beq_eq_false_iff_ne, -bne_eq_false_iff_eq]
          refine count_to (R := AnsC rs w) rs.length (RW z rs w) _ ?_ ?_ ?_
          · exact ⟨by simp [h0], by simp [h1], by simp, by simpa using OutG.nil 3 _ _⟩
          · rintro j ⟨t, h, c⟩ ⟨h0, h1, h10, O⟩ hj
            simp only at h0 h1 h10 O
            have k0 : decide (j < rs.length) = true := by simp [hj]
            obtain ⟨r, hr⟩ : ∃ r, rs[j]? = some r := ⟨rs[j], by simp [hj]⟩
            have hrb := hb.2 r (List.mem_of_getElem? hr)
            have hr1 := hrb.1
            have hws := wid_step (cutQ w rs) j (r := (false, cutR w r.2)) (by simp [hr])
            have hkj : IntKind.i64.wrap ((j : Int) + 1) = ((j + 1 : Nat) : Int) := wrap_succ (by omega)
            have hwl : (wid (txts ((cutQ w rs).take j))).length ≤ 1200 := wid_len fun row hrow => by
              obtain ⟨r', h1, rfl⟩ := mem_txts hrow
              obtain ⟨r2, h2, rfl⟩ := List.mem_map.1 (List.mem_of_mem_take h1)
              have := (hb.2 r2 h2).1
              simpa using this
            simp -implicitDefEqProofs [h0, h1, h10, k0, hr, Option.bind_assoc, -decide_eq_true_eq, -decide_eq_false_iff_not, -List.any_eq_true, -List.any_eq_false, -bne_iff_ne, -beq_iff_eq, -beq_eq_false_iff_ne, -bne_eq_false_iff_eq]
            refine count_to (R := GoesOn (RW z rs w (j + 1))) r.2.length (RWi z rs w j r (wid (txts ((cutQ w rs).take j)))) _ ?_ ?_ ?_
            · exact ⟨by simp [h0], by simp [h1], by simp [h10], by simp, by simp only [List.take_zero, widR_nil]; simpa using O⟩
            · clear hws
              generalize wid (txts ((cutQ w rs).take j)) = wd at O hwl ⊢
              rintro k ⟨t2, h2, c2⟩ ⟨a0, a1, a10, a11, O2⟩ hk
              simp only at a0 a1 a10 a11 O2
              have k1 : decide (k < r.2.length) = true := by simp [hk]
              obtain ⟨y, hy⟩ : ∃ y, r.2[k]? = some y := ⟨r.2[k], by simp [hk]⟩
              have hly : (lens (cutR w r.2))[k]? = some (min w y.length) := by simp [hy]
              have hkk : IntKind.i64.wrap ((k : Int) + 1) = ((k + 1 : Nat) : Int) := wrap_succ (by omega)
              have hge := widR_ge wd (lens (cutR w r.2)) k (by simpa using hk)
              have hlen2 : (widR wd ((lens (cutR w r.2)).take k)).length ≤ 1200 := by
                rw [widR_len, List.length_take]
                have h2 : (lens (cutR w r.2)).length = r.2.length := by simp
                omega
              have hst := wid_ints wd (lens (cutR w r.2)) k (min w y.length) hly
              have hmn := mnI_nat w y.length
              generalize min w y.length = x at hst hmn
              unfold RWi
              rw [hst]
              generalize widR wd ((lens (cutR w r.2)).take k) = cur at O2 hge hlen2 ⊢
              have hlen : ∀ h c, builtinA Tryd.prog .len [39] h c [t2 9] = some (I cur.length, h, c) := by
                rcases O2 with ⟨e1, e2⟩ | ⟨n, e1, _⟩
                · have : cur = [] := by simpa using e2
                  subst this
                  rw [e1]
                  simp
                · rw [e1]; simp
              by_cases g : k = cur.length
              · rw [if_pos g]
                have k2 : ((k : Int) == (cur.length : Int)) = true := by rw [beq_iff_eq]; omega
                obtain ⟨v', h', c', e, O3, G⟩ := outG_one (t := 39) (by_ := 8) (z := [I 0]) O2 (I 0) (some 3) (by simp) (by simp) (by simp) (by simp) rfl (by simp; omega) (by simp; omega)
                obtain ⟨n, rfl, hn, hhn⟩ := outG_get O3 (k := cur.length) (r := [I 0]) (by simp)
                simp only [List.length_append, List.length_map, List.length_singleton] at e O3
                have kl : (k : Int) < ((cur.length : Int) + 1) := by omega
                have hgk : (ints cur ++ [[I 0]])[k]? = some [I 0] := by rw [g]; simp
                rw [show max 0 x = x by omega]
                have hm : mxI 0 (x : Int) = (x : Int) := by unfold mxI; split <;> omega
                simp -implicitDefEqProofs [a0, a1, a10, a11, k1, hr, hy, hlen, k2, -appendA, e, kl, hhn, hgk, hmn, hm, hkk, -decide_eq_true_eq, -decide_eq_false_iff_not, -List.any_eq_true, -List.any_eq_false, -bne_iff_ne, -beq_iff_eq, -beq_eq_false_iff_ne, -bne_eq_false_iff_eq]
                exact ⟨by simp [a0], by simp [a1], by simp [a10], by simp, by simpa using outG_set (by simp) (by simp) hn k [I (x : Nat)]⟩
              · rw [if_neg g]
                have k2 : ((k : Int) == (cur.length : Int)) = false := by rw [beq_eq_false_iff_ne]; omega
                have hkc : k < cur.length := by omega
                obtain ⟨x0, hx⟩ : ∃ x, cur[k]? = some x := ⟨cur[k], by simp [hkc]⟩
                obtain ⟨n, e3, hn, hhn⟩ := outG_get O2 (ints_get cur k hx)
                have kl : (k : Int) < (cur.length : Int) := by omega
                have hgk := ints_get cur k hx
                have hm := mxI_nat x0 x
                have hgd : cur.getD k 0 = x0 := by rw [List.getD_eq_getElem?_getD, hx]; rfl
                rw [hgd]
                generalize max x0 x = m at hm ⊢
                rw [e3] at hlen
                simp -implicitDefEqProofs [a0, a1, a10, a11, k1, hr, hy, e3, hlen, k2, kl, hhn, hgk, hmn, hm, hkk, -decide_eq_true_eq, -decide_eq_false_iff_not, -List.any_eq_true, -List.any_eq_false, -bne_iff_ne, -beq_iff_eq, -beq_eq_false_iff_ne, -bne_eq_false_iff_eq]
                exact ⟨by simp [a0], by simp [a1], by simp [a10], by simp, by simpa [e3] using outG_set (by simp) (by intro e; simp at e; subst e; simp at hkc) hn k [I (m : Nat)]⟩
            · rintro ⟨t2, h2, c2⟩ ⟨a0, a1, a10, a11, O2⟩
              simp only at a0 a1 a10 a11 O2
              rw [show (lens (cutR w r.2)).take r.2.length = lens (cutR w r.2) from List.take_of_length_le (by simp), ← hws] at O2
              simp -implicitDefEqProofs [a0, a1, a10, a11, hr, hkj, -decide_eq_true_eq, -decide_eq_false_iff_not, -List.any_eq_true, -List.any_eq_false, -bne_iff_ne, -beq_iff_eq, -beq_eq_false_iff_ne, -bne_eq_false_iff_eq]
              exact ⟨by simp [a0], by simp [a1], by simp, by simpa using O2⟩
          · rintro ⟨t, h, c⟩ ⟨h0, h1, h10, O⟩
            simp only at h0 h1 h10 O
            rw [show (cutQ w rs).take rs.length = cutQ w rs from List.take_of_length_le (by simp)] at O
            have hok : (decide (1000 < (rs.length : Int)) || rs.any bigR) = false := by rw [g3, hall2]; rfl
            have hans := colsO_ok g1 hall hok
            have hlen : rs.length ≤ 1000 := by simp at g3; omega
            have hq := few_cut (w := w) (by omega) hlen hall2
            have hqw := wid_le (w := w) (rs := txts (cutQ w rs)) (fun row hrow s hs => by
              obtain ⟨r, hr, rfl⟩ := mem_txts hrow
              obtain ⟨r2, hr2, rfl⟩ := List.mem_map.1 hr
              obtain ⟨y, _, rfl⟩ := List.mem_map.1 hs
              rw [List.length_take]
              omega)
            rw [colsP] at hans
            have hcov : ∀ (r : Row) (j k : Nat) (y : Str), rs[j]? = some r → r.2[k]? = some y → ∃ x, (wid (txts (cutQ w rs)))[k]? = some x ∧ (y.take w).length ≤ x ∧ x ≤ w := by
              intro r j k y hr hy
              obtain ⟨x, hx, hl⟩ := wid_cov (rs := txts (cutQ w rs)) (row := cutR w r.2) (k := k) (s := y.take w) (List.mem_map.2 ⟨(false, cutR w r.2), List.mem_map.2 ⟨r, List.mem_of_getElem? hr, rfl⟩, rfl⟩) (by simp [hy])
              exact ⟨x, hx, hl, hqw x (List.mem_of_getElem? hx)⟩
            have hline : ∀ (r : Row) (j k : Nat), rs[j]? = some r → k ≤ r.2.length → (lineK (wid (txts (cutQ w rs))) (cutR w r.2) k).length ≤ 401000 := by
              intro r j k hr hk
              exact hq.line (r := (false, cutR w r.2)) (List.mem_map.2 ⟨r, List.mem_of_getElem? hr, rfl⟩) k (by simpa using hk)
            have hout := hq.out
            have hstep : ∀ (j : Nat) (r : Row), rs[j]? = some r → (txts ((cutQ w rs).take (j + 1))).flatMap (rowP (wid (txts (cutQ w rs)))) = (txts ((cutQ w rs).take j)).flatMap (rowP (wid (txts (cutQ w rs)))) ++ rowP (wid (txts (cutQ w rs))) (cutR w r.2) := by
              intro j r hr
              exact out_step (cutQ w rs) _ j (r := (false, cutR w r.2)) (by simp [hr])
            have hfin : (cutQ w rs).take rs.length = cutQ w rs := List.take_of_length_le (by simp)
            generalize cutQ w rs = qs at O hans hcov hline hout hstep hfin
            generalize wid (txts qs) = wd at O hans hcov hline hout hstep
            simp -implicitDefEqProofs [h0, h1, h10, Option.bind_assoc, -decide_eq_true_eq, -decide_eq_false_iff_not, -List.any_eq_true, -List.any_eq_false, -bne_iff_ne, -beq_iff_eq, -beq_eq_false_iff_ne, -bne_eq_false_iff_eq]
            refine count_to (R := AnsC rs w) rs.length (fun j s => RO z rs wd ((txts (qs.take j)).flatMap (rowP wd)) j s) _ ?_ ?_ ?_
            · exact ⟨by simp [h0], by simpa using O, by simpa using OutG.nil 5 _ _, by simpa using (Dj.none _ _ _).symm, by simp⟩
            · rintro j ⟨t, h, c⟩ ⟨h0, O9, O12, d, h13⟩ hj
              simp only at h0 O9 O12 d h13
              have k0 : decide (j < rs.length) = true := by simp [hj]
              obtain ⟨r, hr⟩ : ∃ r, rs[j]? = some r := ⟨rs[j], by simp [hj]⟩
              have hrb := hb.2 r (List.mem_of_getElem? hr)
              have hr1 := hrb.1
              have hkj : IntKind.i64.wrap ((j : Int) + 1) = ((j + 1 : Nat) : Int) := wrap_succ (by omega)
              have hol := hout j
              rw [hstep j r hr]
              generalize (txts (qs.take j)).flatMap (rowP wd) = out at O12 hol ⊢
              simp -implicitDefEqProofs [h0, h13, k0, hr, Option.bind_assoc, -decide_eq_true_eq, -decide_eq_false_iff_not, -List.any_eq_true, -List.any_eq_false, -bne_iff_ne, -beq_iff_eq, -beq_eq_false_iff_ne, -bne_eq_false_iff_eq]
              refine count_to (R := GoesOn (RO z rs wd (out ++ rowP wd (cutR w r.2)) (j + 1))) r.2.length (fun k s => RM z rs wd out j (lineK wd (cutR w r.2) k) k s) _ ?_ ?_ ?_
              · exact ⟨by simp [h0], by simpa using O9, by simpa using O12, by simpa [lineK] using OutG.nil 5 _ _, by simpa using d, by simpa using (Dj.none _ _ _).symm, by simpa using (Dj.none _ _ _).symm, by simp [h13], by simp⟩
              · rintro k ⟨t2, h2, c2⟩ ⟨a0, A9, A12, A14, ad, ad9, ad12, a13, a15⟩ hk
                simp only at a0 A9 A12 A14 ad ad9 ad12 a13 a15
                have k1 : decide (k < r.2.length) = true := by simp [hk]
                obtain ⟨y, hy⟩ : ∃ y, r.2[k]? = some y := ⟨r.2[k], by simp [hk]⟩
                obtain ⟨x, hx, hyx, hxw⟩ := hcov r j k y hr hy
                have hkk : IntKind.i64.wrap ((k : Int) + 1) = ((k + 1 : Nat) : Int) := wrap_succ (by omega)
                have hkl : k < wd.length := (List.getElem?_eq_some_iff.1 hx).1
                have hll := hline r j k hr (by omega)
                have hstep := line_step wd (cutR w r.2) k (y := y.take w) (x := x) (by simp [hy]) hx
                cases g5 : decide (0 < k)
                · have hk0 : ¬ 0 < k := by simpa using g5
                  rw [if_neg hk0, List.append_nil] at hstep
                  simp -implicitDefEqProofs [a0, a13, a15, k1, hr, g5, Option.bind_assoc, -decide_eq_true_eq, -decide_eq_false_iff_not, -List.any_eq_true, -List.any_eq_false, -bne_iff_ne, -beq_iff_eq, -beq_eq_false_iff_ne, -bne_eq_false_iff_eq]
                  refine count_to (R := GoesOn (RM z rs wd out j (lineK wd (cutR w r.2) (k + 1)) (k + 1))) x (fun m s => RI z rs wd out j (lineK wd (cutR w r.2) k ++ (fillS x (y.take w)).take m) k m s) _ ?_ ?_ ?_
                  · exact ⟨⟨by simp [a0], by simpa using A9, by simpa using A12, by simpa using A14, by simpa using ad, by simpa using ad9, by simpa using ad12, by simp [a13], by simp [a15]⟩, by simp⟩
                  · rintro m ⟨t4, h4, c4⟩ ⟨⟨b0, B9, B12, B14, bd, bd9, bd12, b13, b15⟩, b16⟩ hm
                    simp only at b0 B9 B12 B14 bd bd9 bd12 b13 b15 b16
                    obtain ⟨n9, e9, hn9, hh9⟩ := outG_get B9 (ints_get wd k hx)
                    rw [len_ints] at e9
                    have hxi := ints_get wd k hx
                    generalize hwe : ints wd = we at B9 hh9 hxi
                    have km : decide (m < x) = true := by simp [hm]
                    have hkm : IntKind.i64.wrap ((m : Int) + 1) = ((m + 1 : Nat) : Int) := wrap_succ (by omega)
                    have hF := fill_get (w := w) (y := y) (by omega) hm
                    by_cases g6 : m < y.length
                    · rw [dif_pos g6] at hF
                      have kg : decide (m < y.length) = true := by simp [g6]
                      have hyg : y[m]? = some y[m] := by simp [g6]
                      have hT : lineK wd (cutR w r.2) k ++ (fillS x (y.take w)).take (m + 1) = lineK wd (cutR w r.2) k ++ (fillS x (y.take w)).take m ++ [y[m]] := by rw [List.take_add_one, hF, ← List.append_assoc]; rfl
                      rw [hT]
                      have haccl : (lineK wd (cutR w r.2) k ++ (fillS x (y.take w)).take m).length ≤ 500000 := by
                        simp only [List.length_append, List.length_take, List.length_singleton]
                        omega
                      generalize lineK wd (cutR w r.2) k ++ (fillS x (y.take w)).take m = acc at B14 haccl ⊢
                      generalize y[m] = yb at hyg ⊢
                      obtain ⟨v', h', c', ea, O', G⟩ := outB_one B14 yb (by omega)
                      obtain ⟨B9', bd9'⟩ := G.other B9 bd9
                      obtain ⟨B12', bd12'⟩ := G.other B12 bd12
                      simp -implicitDefEqProofs [b0, b13, b15, b16, e9, hh9, hkl, hxi, km, hr, hy, kg, hyg, -appendA, ea, hkm, -decide_eq_true_eq, -decide_eq_false_iff_not, -List.any_eq_true, -List.any_eq_false, -bne_iff_ne, -beq_iff_eq, -beq_eq_false_iff_ne, -bne_eq_false_iff_eq]
                      exact ⟨⟨by simp [b0], by simpa [hwe] using B9', by simpa using B12', by simpa using O', by simpa using bd, by simpa using bd9', by simpa using bd12', by simp [b13], by simp [b15]⟩, by simp⟩
                    · rw [dif_neg g6] at hF
                      have kg : decide (m < y.length) = false := by simp; omega
                      have hT : lineK wd (cutR w r.2) k ++ (fillS x (y.take w)).take (m + 1) = lineK wd (cutR w r.2) k ++ (fillS x (y.take w)).take m ++ [32] := by rw [List.take_add_one, hF, ← List.append_assoc]; rfl
                      rw [hT]
                      have haccl : (lineK wd (cutR w r.2) k ++ (fillS x (y.take w)).take m).length ≤ 500000 := by
                        simp only [List.length_append, List.length_take, List.length_singleton]
                        omega
                      generalize lineK wd (cutR w r.2) k ++ (fillS x (y.take w)).take m = acc at B14 haccl ⊢
                      obtain ⟨v', h', c', ea, O', G⟩ := outB_32 B14 (by omega)
                      obtain ⟨B9', bd9'⟩ := G.other B9 bd9
                      obtain ⟨B12', bd12'⟩ := G.other B12 bd12
                      simp -implicitDefEqProofs [b0, b13, b15, b16, e9, hh9, hkl, hxi, km, hr, hy, kg, -appendA, ea, hkm, -decide_eq_true_eq, -decide_eq_false_iff_not, -List.any_eq_true, -List.any_eq_false, -bne_iff_ne, -beq_iff_eq, -beq_eq_false_iff_ne, -bne_eq_false_iff_eq]
                      exact ⟨⟨by simp [b0], by simpa [hwe] using B9', by simpa using B12', by simpa using O', by simpa using bd, by simpa using bd9', by simpa using bd12', by simp [b13], by simp [b15]⟩, by simp⟩
                  · rintro ⟨t4, h4, c4⟩ ⟨⟨b0, B9, B12, B14, bd, bd9, bd12, b13, b15⟩, b16⟩
                    simp only at b0 B9 B12 B14 bd bd9 bd12 b13 b15 b16
                    obtain ⟨n9, e9, hn9, hh9⟩ := outG_get B9 (ints_get wd k hx)
                    rw [len_ints] at e9
                    have hxi := ints_get wd k hx
                    rw [List.take_of_length_le (by rw [fill_len hyx]; exact Nat.le_refl _)] at B14
                    rw [hstep]
                    generalize lineK wd (cutR w r.2) k ++ fillS x (y.take w) = acc at B14 ⊢
                    generalize hwe : ints wd = we at B9 hh9 hxi
                    simp -implicitDefEqProofs [b0, b13, b15, b16, e9, hh9, hkl, hxi, hkk, -decide_eq_true_eq, -decide_eq_false_iff_not, -List.any_eq_true, -List.any_eq_false, -bne_iff_ne, -beq_iff_eq, -beq_eq_false_iff_ne, -bne_eq_false_iff_eq]
                    exact ⟨by simp [b0], by simpa [hwe] using B9, by simpa using B12, by simpa using B14, by simpa using bd, by simpa using bd9, by simpa using bd12, by simp [b13], by simp⟩
                · have hk0 : 0 < k := by simpa using g5
                  rw [if_pos hk0] at hstep
                  obtain ⟨v', h', c', ea, O', G⟩ := outB_32 A14 (by omega)
                  obtain ⟨A9', ad9'⟩ := G.other A9 ad9
                  obtain ⟨A12', ad12'⟩ := G.other A12 ad12
                  simp -implicitDefEqProofs [a0, a13, a15, k1, hr, g5, -appendA, ea, Option.bind_assoc, -decide_eq_true_eq, -decide_eq_false_iff_not, -List.any_eq_true, -List.any_eq_false, -bne_iff_ne, -beq_iff_eq, -beq_eq_false_iff_ne, -bne_eq_false_iff_eq]
                  refine count_to (R := GoesOn (RM z rs wd out j (lineK wd (cutR w r.2) (k + 1)) (k + 1))) x (fun m s => RI z rs wd out j ((lineK wd (cutR w r.2) k ++ [32]) ++ (fillS x (y.take w)).take m) k m s) _ ?_ ?_ ?_
                  · exact ⟨⟨by simp [a0], by simpa using A9', by simpa using A12', by simpa using O', by simpa using ad, by simpa using ad9', by simpa using ad12', by simp [a13], by simp [a15]⟩, by simp⟩
                  · rintro m ⟨t4, h4, c4⟩ ⟨⟨b0, B9, B12, B14, bd, bd9, bd12, b13, b15⟩, b16⟩ hm
                    simp only at b0 B9 B12 B14 bd bd9 bd12 b13 b15 b16
                    obtain ⟨n9, e9, hn9, hh9⟩ := outG_get B9 (ints_get wd k hx)
                    rw [len_ints] at e9
                    have hxi := ints_get wd k hx
                    generalize hwe : ints wd = we at B9 hh9 hxi
                    have km : decide (m < x) = true := by simp [hm]
                    have hkm : IntKind.i64.wrap ((m : Int) + 1) = ((m + 1 : Nat) : Int) := wrap_succ (by omega)
                    have hF := fill_get (w := w) (y := y) (by omega) hm
                    by_cases g6 : m < y.length
                    · rw [dif_pos g6] at hF
                      have kg : decide (m < y.length) = true := by simp [g6]
                      have hyg : y[m]? = some y[m] := by simp [g6]
                      have hT : (lineK wd (cutR w r.2) k ++ [32]) ++ (fillS x (y.take w)).take (m + 1) = (lineK wd (cutR w r.2) k ++ [32]) ++ (fillS x (y.take w)).take m ++ [y[m]] := by rw [List.take_add_one, hF, ← List.append_assoc]; rfl
                      rw [hT]
                      have haccl : ((lineK wd (cutR w r.2) k ++ [32]) ++ (fillS x (y.take w)).take m).length ≤ 500000 := by
                        simp only [List.length_append, List.length_take, List.length_singleton]
                        omega
                      generalize (lineK wd (cutR w r.2) k ++ [32]) ++ (fillS x (y.take w)).take m = acc at B14 haccl ⊢
                      generalize y[m] = yb at hyg ⊢
                      obtain ⟨v', h', c', ea, O', G⟩ := outB_one B14 yb (by omega)
                      obtain ⟨B9', bd9'⟩ := G.other B9 bd9
                      obtain ⟨B12', bd12'⟩ := G.other B12 bd12
                      simp -implicitDefEqProofs [b0, b13, b15, b16, e9, hh9, hkl, hxi, km, hr, hy, kg, hyg, -appendA, ea, hkm, -decide_eq_true_eq, -decide_eq_false_iff_not, -List.any_eq_true, -List.any_eq_false, -bne_iff_ne, -beq_iff_eq, -beq_eq_false_iff_ne, -bne_eq_false_iff_eq]
                      exact ⟨⟨by simp [b0], by simpa [hwe] using B9', by simpa using B12', by simpa using O', by simpa using bd, by simpa using bd9', by simpa using bd12', by simp [b13], by simp [b15]⟩, by simp⟩
                    · rw [dif_neg g6] at hF
                      have kg : decide (m < y.length) = false := by simp; omega
                      have hT : (lineK wd (cutR w r.2) k ++ [32]) ++ (fillS x (y.take w)).take (m + 1) = (lineK wd (cutR w r.2) k ++ [32]) ++ (fillS x (y.take w)).take m ++ [32] := by rw [List.take_add_one, hF, ← List.append_assoc]; rfl
                      rw [hT]
                      have haccl : ((lineK wd (cutR w r.2) k ++ [32]) ++ (fillS x (y.take w)).take m).length ≤ 500000 := by
                        simp only [List.length_append, List.length_take, List.length_singleton]
                        omega
                      generalize (lineK wd (cutR w r.2) k ++ [32]) ++ (fillS x (y.take w)).take m = acc at B14 haccl ⊢
                      obtain ⟨v', h', c', ea, O', G⟩ := outB_32 B14 (by omega)
                      obtain ⟨B9', bd9'⟩ := G.other B9 bd9
                      obtain ⟨B12', bd12'⟩ := G.other B12 bd12
                      simp -implicitDefEqProofs [b0, b13, b15, b16, e9, hh9, hkl, hxi, km, hr, hy, kg, -appendA, ea, hkm, -decide_eq_true_eq, -decide_eq_false_iff_not, -List.any_eq_true, -List.any_eq_false, -bne_iff_ne, -beq_iff_eq, -beq_eq_false_iff_ne, -bne_eq_false_iff_eq]
                      exact ⟨⟨by simp [b0], by simpa [hwe] using B9', by simpa using B12', by simpa using O', by simpa using bd, by simpa using bd9', by simpa using bd12', by simp [b13], by simp [b15]⟩, by simp⟩
                  · rintro ⟨t4, h4, c4⟩ ⟨⟨b0, B9, B12, B14, bd, bd9, bd12, b13, b15⟩, b16⟩
                    simp only at b0 B9 B12 B14 bd bd9 bd12 b13 b15 b16
                    obtain ⟨n9, e9, hn9, hh9⟩ := outG_get B9 (ints_get wd k hx)
                    rw [len_ints] at e9
                    have hxi := ints_get wd k hx
                    rw [List.take_of_length_le (by rw [fill_len hyx]; exact Nat.le_refl _)] at B14
                    rw [hstep]
                    generalize (lineK wd (cutR w r.2) k ++ [32]) ++ fillS x (y.take w) = acc at B14 ⊢
                    generalize hwe : ints wd = we at B9 hh9 hxi
                    simp -implicitDefEqProofs [b0, b13, b15, b16, e9, hh9, hkl, hxi, hkk, -decide_eq_true_eq, -decide_eq_false_iff_not, -List.any_eq_true, -List.any_eq_false, -bne_iff_ne, -beq_iff_eq, -beq_eq_false_iff_ne, -bne_eq_false_iff_eq]
                    exact ⟨by simp [b0], by simpa [hwe] using B9, by simpa using B12, by simpa using B14, by simpa using bd, by simpa using bd9, by simpa using bd12, by simp [b13], by simp⟩
              · rintro ⟨t2, h2, c2⟩ ⟨a0, A9, A12, A14, ad, ad9, ad12, a13, a15⟩
                simp only at a0 A9 A12 A14 ad ad9 ad12 a13 a15
                have hll := hline r j r.2.length hr (Nat.le_refl _)
                have hcl : (cutR w r.2).length = r.2.length := by simp
                have hrow : rowP wd (cutR w r.2) = trimR (lineK wd (cutR w r.2) r.2.length) ++ [10] := by rw [rowP, hcl]
                rw [hrow]
                have htl := trimR_len (lineK wd (cutR w r.2) r.2.length)
                generalize lineK wd (cutR w r.2) r.2.length = line at A14 hll htl ⊢
                have T14 := A14.toT
                simp -implicitDefEqProofs [a0, a13, a15, hr, Option.bind_assoc, -decide_eq_true_eq, -decide_eq_false_iff_not, -List.any_eq_true, -List.any_eq_false, -bne_iff_ne, -beq_iff_eq, -beq_eq_false_iff_ne, -bne_eq_false_iff_eq]
                refine loop_to (R := GoesOn (RO z rs wd (out ++ (trimR line ++ [10])) (j + 1)))
                  (fun k s => ∃ y : Str, k = y.length ∧ s.t 0 = .ro z (rowsE rs) ∧ s.t 9 = t2 9 ∧ s.t 12 = t2 12 ∧ s.t 13 = I j ∧ s.h = h2 ∧ s.c = c2 ∧ OutT h2 c2 (s.t 14) y ∧ trimR y = trimR line ∧ y.length ≤ line.length)
                  (fun e s => e = .exit 16 ∧ s.t 0 = .ro z (rowsE rs) ∧ s.t 9 = t2 9 ∧ s.t 12 = t2 12 ∧ s.t 13 = I j ∧ s.h = h2 ∧ s.c = c2 ∧ OutT h2 c2 (s.t 14) (trimR line)) ?_ ?_ line.length _ ?_
                · rintro k ⟨t3, h3, c3⟩ ⟨y, rfl, b0, b9, b12, b13, bh, bc, T, ht, hle⟩
                  simp only at b0 b9 b12 b13 bh bc T
                  subst bh
                  subst bc
                  rcases last_cases y with rfl | ⟨zs, x, rfl⟩
                  · have hl0 : ∀ h c, builtinA Tryd.prog .len [29] h c [t3 14] = some (I 0, h, c) := by
                      intro h c
                      rcases T with ⟨b, e, _⟩ | ⟨n, rest, e, _⟩ <;> rw [e] <;> simp
                    simp -implicitDefEqProofs [b0, b9, b12, b13, hl0, to_normal, to_exit, to_ret, -decide_eq_true_eq, -decide_eq_false_iff_not, -List.any_eq_true, -List.any_eq_false, -bne_iff_ne, -beq_iff_eq, -beq_eq_false_iff_ne, -bne_eq_false_iff_eq]
                    rw [← ht]
                    exact T
                  · obtain ⟨n, rest, e, hn, hg, T2⟩ := outT_last T
                    have hle2 : zs.length + 1 ≤ line.length := by simpa using hle
                    have k2 : IntKind.i64.wrap (zs.length : Int) = (zs.length : Int) := wrap_id (by omega) (by omega)
                    have k3 : IntKind.i64.wrap ((zs.length : Int) + 1 - 1) = (zs.length : Int) := by rw [Int.add_sub_cancel]; exact k2
                    have kp : decide ((0 : Int) < (zs.length : Int) + 1) = true := by rw [decide_eq_true_eq]; omega
                    have kq : (zs.length : Int) < (zs.length : Int) + 1 := by omega
                    have kr : (zs.length : Int) ≤ (zs.length : Int) + 1 := by omega
                    generalize hes : byts (zs ++ [x]) ++ rest = es at hn hg
                    cases g : (x == (32 : UInt8))
                    · have ex : x ≠ 32 := by simpa using g
                      simp -implicitDefEqProofs [b0, b9, b12, b13, e, k2, k3, kp, kq, hn, hg, u_32, g, to_normal, to_exit, to_ret, -decide_eq_true_eq, -decide_eq_false_iff_not, -List.any_eq_true, -List.any_eq_false, -bne_iff_ne, -beq_iff_eq, -beq_eq_false_iff_ne, -bne_eq_false_iff_eq]
                      rw [← ht, trimR_other zs ex]
                      rw [e] at T
                      exact T
                    · have ex : x = 32 := beq_iff_eq.1 g
                      subst ex
                      rw [trimR_blank] at ht
                      simp -implicitDefEqProofs [b0, b9, b12, b13, e, k2, k3, kp, kq, kr, slice_cut, hn, hg, u_32, g, to_normal, to_exit, to_ret, -decide_eq_true_eq, -decide_eq_false_iff_not, -List.any_eq_true, -List.any_eq_false, -bne_iff_ne, -beq_iff_eq, -beq_eq_false_iff_ne, -bne_eq_false_iff_eq]
                      exact ⟨zs.length, by omega, zs, rfl, T2, ht, by omega⟩
                · rintro e ⟨t3, h3, c3⟩ ⟨rfl, b0, b9, b12, b13, bh, bc, T⟩
                  simp only at b0 b9 b12 b13 bh bc T
                  subst bh
                  subst bc
                  obtain ⟨hsrc, hoks⟩ := T.src
                  generalize trimR line = tl at T hsrc htl ⊢
                  obtain ⟨v', h', c', ea, O', G⟩ := outG_app (t := 29) (by_ := 1) (z := [.val (.int .u8 0)]) A12 (by simp) (by simp) (by simp) (by simp) rfl hsrc (hd_byts tl) (by simp; omega) (by simp; omega)
                  obtain ⟨A9', ad'⟩ := G.other A9 ad
                  rw [show byts out ++ byts tl = byts (out ++ tl) by simp [byts]] at O'
                  obtain ⟨v2, h5, c5, ea2, O2, G2⟩ := outB_10 O' (by simp; omega)
                  obtain ⟨A92, ad2⟩ := G2.other A9' ad'
                  simp -implicitDefEqProofs [b0, b9, b12, b13, hoks, -appendA, ea, ea2, hkj, -decide_eq_true_eq, -decide_eq_false_iff_not, -List.any_eq_true, -List.any_eq_false, -bne_iff_ne, -beq_iff_eq, -beq_eq_false_iff_ne, -bne_eq_false_iff_eq]
                  exact ⟨by simp [b0], by simpa [b9] using A92, by simpa using O2, by simpa [b9] using ad2, by simp⟩
                · exact ⟨line, rfl, by simp [a0], by simp, by simp, by simp [a13], rfl, rfl, by simpa using T14, rfl, Nat.le_refl _⟩
            · rintro ⟨t, h, c⟩ ⟨h0, O9, O12, d, h13⟩
              simp only at h0 O9 O12 d h13
              rw [hfin] at O12
              have ec := conv_G O12
              simp -implicitDefEqProofs [h0, h13, ec, AnsC, hans, -decide_eq_true_eq, -decide_eq_false_iff_not, -List.any_eq_true, -List.any_eq_false, -bne_iff_ne, -beq_iff_eq, -beq_eq_false_iff_ne, -bne_eq_false_iff_eq]
      · have hbig := colsO_big g1 hall (by rw [g3]; simp)
        simp -implicitDefEqProofs [h0, h1, h6, g3, AnsC, hbig, -decide_eq_true_eq, -decide_eq_false_iff_not, -List.any_eq_true, -List.any_eq_false, -bne_iff_ne, -beq_iff_eq, -beq_eq_false_iff_ne, -bne_eq_false_iff_eq]
  · simp -implicitDefEqProofs [Tryd.f12, g1, AnsC, colsO, -decide_eq_true_eq, -decide_eq_false_iff_not, -List.any_eq_true, -List.any_eq_false, -bne_iff_ne, -beq_iff_eq, -beq_eq_false_iff_ne, -bne_eq_false_iff_eq]
theorem rcols_c (z : Bool) (rs : List Row) (n : Int) (hb : Bd rs) (h : Heap) (c : Nat) : callA (mdT tblT) (run Tryd.prog (mdT tblT)) 12 [.ro z (rowsE rs), I n] h c = some (.tup [S (colsO rs n).1, E (colsO rs n).2], h, c) := by
  obtain ⟨h', c', e⟩ := rcols_ev z rs n hb
  exact call_of rfl rfl e rfl rfl
end Go.Proofs.YtbaoaodimbcebaaDoor.AM
