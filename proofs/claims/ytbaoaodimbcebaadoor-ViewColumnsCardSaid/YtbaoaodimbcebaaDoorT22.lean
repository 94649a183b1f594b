/- Texts of the proof: part T22. -/
import Derived.Test.YtbaoaodimbcebaaDoorT21
set_option maxHeartbeats 0
set_option maxRecDepth 8000
set_option linter.unusedSimpArgs false
set_option linter.unusedVariables false
set_option linter.unusedSectionVars false
namespace Go.Proofs.YtbaoaodimbcebaaDoor.AM
open Go Go.Proofs
attribute [local simp] fieldAddrA ld setCells stA skipV appendA hd makeA bnd kindA freshA killOk loadsAt newT empT lay_get allocA buildA buildRow lenA els indexAddrA isNil opA evA lit_int lit_bool lit_nil lit_nilf yldA binI unA pickA boolV intV fieldA mk eqs
@[simp] theorem frz_fn (h : Heap) (f : Nat) : frz h depth (.fn f []) = some (.fn f []) := rfl
/-- A row of texts; whether it is nil. -/
abbrev Row := Bool × List Str
abbrev rowA (r : Row) : AV := .ro r.1 (strs r.2)
abbrev rowsE (rs : List Row) : List (List AV) := rs.map fun r => [rowA r]
theorem badS_ev (l : Str) (hl : l.length ≤ 9000000000000) : ∃ h c, run Tryd.prog (mdT tblT) 22 [S l] Heap.none 0 = some (B (l.any oddb), h, c) := by
  rw [run_eq (show mdT tblT 22 = some .pure from rfl) rfl, Tryd.func22]
  have cp := fun h c => plain_c l hl h c
  simp -implicitDefEqProofs [Tryd.f22, cp, -decide_eq_true_eq, -decide_eq_false_iff_not, -List.any_eq_true, -List.any_eq_false, -bne_iff_ne, -beq_iff_eq, -beq_eq_false_iff_ne, -bne_eq_false_iff_eq]
theorem badS_c (l : Str) (hl : l.length ≤ 9000000000000) (h : Heap) (c : Nat) : callA (mdT tblT) (run Tryd.prog (mdT tblT)) 22 [S l] h c = some (B (l.any oddb), h, c) := by
  obtain ⟨h', c', e⟩ := badS_ev l hl
  exact call_of rfl rfl e rfl rfl
theorem badL_ev (z : Bool) (l : List Str) (hn : l.length ≤ 9000000000000) (hl : ∀ s ∈ l, s.length ≤ 9000000000000) :
    ∃ h c, ∃ n : Int, run Tryd.prog (mdT tblT) 37 [.ro z (strs l), .fn 22 []] Heap.none 0 = some (I n, h, c) ∧ decide (0 ≤ n) = l.any (·.any oddb) := by
  rw [run_eq (show mdT tblT 37 = some .pure from rfl) rfl, Tryd.func37]
  simp -implicitDefEqProofs [Tryd.f37, Option.bind_assoc, -List.any_eq_true, -List.any_eq_false]
  refine scan_list (R := fun o => ∃ h c, ∃ n : Int, o = some (I n, h, c) ∧ decide (0 ≤ n) = l.any (·.any oddb)) l (·.any oddb) (fun j s => s.t 0 = .ro z (strs l) ∧ s.t 1 = .fn 22 [] ∧ s.t 7 = I l.length ∧ s.t 8 = I j) _ ?_ ?_ ?_ ?_
  · simp
  · rintro j ⟨t, h, c⟩ ⟨h0, h1, h7, h8⟩ hj hf
    simp only at h0 h1 h7 h8
    have k0 : decide ((j : Int) < (l.length : Int)) = true := by simp; omega
    have kc := badS_c l[j] (hl _ (List.getElem_mem hj))
    rw [hf] at kc
    simp -implicitDefEqProofs [h0, h1, h7, h8, k0, hj, kc, -decide_eq_true_eq, -decide_eq_false_iff_not, -List.any_eq_true, -List.any_eq_false, -bne_iff_ne, -beq_iff_eq, -beq_eq_false_iff_ne, -bne_eq_false_iff_eq]
    exact wrap_succ (by omega)
  · rintro j ⟨t, h, c⟩ ⟨h0, h1, h7, h8⟩ hj hf ha
    simp only at h0 h1 h7 h8
    have k0 : decide ((j : Int) < (l.length : Int)) = true := by simp; omega
    have kc := badS_c l[j] (hl _ (List.getElem_mem hj))
    rw [hf] at kc
    simp -implicitDefEqProofs [h0, h1, h7, h8, k0, hj, kc, -decide_eq_true_eq, -decide_eq_false_iff_not, -List.any_eq_true, -List.any_eq_false, -bne_iff_ne, -beq_iff_eq, -beq_eq_false_iff_ne, -bne_eq_false_iff_eq]
    exact ⟨_, _, _, ⟨rfl, rfl, rfl⟩, by rw [ha]; simp⟩
  · rintro ⟨t, h, c⟩ ⟨h0, h1, h7, h8⟩ ha
    simp only at h0 h1 h7 h8
    simp -implicitDefEqProofs [h0, h1, h7, h8, -decide_eq_true_eq, -decide_eq_false_iff_not, -List.any_eq_true, -List.any_eq_false, -bne_iff_ne, -beq_iff_eq, -beq_eq_false_iff_ne, -bne_eq_false_iff_eq]
    exact ⟨_, _, _, ⟨rfl, rfl, rfl⟩, by rw [ha]; simp⟩
theorem badL_c (z : Bool) (l : List Str) (hn : l.length ≤ 9000000000000) (hl : ∀ s ∈ l, s.length ≤ 9000000000000) :
    ∃ n : Int, (∀ h c, callA (mdT tblT) (run Tryd.prog (mdT tblT)) 37 [.ro z (strs l), .fn 22 []] h c = some (I n, h, c)) ∧ decide (0 ≤ n) = l.any (·.any oddb) := by
  obtain ⟨h', c', n, e, e2⟩ := badL_ev z l hn hl
  exact ⟨n, fun h c => call_of rfl rfl e rfl rfl, e2⟩
theorem hasL_ev (z : Bool) (l : List Str) (hn : l.length ≤ 9000000000000) (hl : ∀ s ∈ l, s.length ≤ 9000000000000) : ∃ h c, run Tryd.prog (mdT tblT) 21 [.ro z (strs l), .fn 22 []] Heap.none 0 = some (B (l.any (·.any oddb)), h, c) := by
  rw [run_eq (show mdT tblT 21 = some .pure from rfl) rfl, Tryd.func21]
  obtain ⟨n, e1, e2⟩ := badL_c z l hn hl
  simp -implicitDefEqProofs [Tryd.f21, e1, e2, -decide_eq_true_eq, -decide_eq_false_iff_not, -List.any_eq_true, -List.any_eq_false, -bne_iff_ne, -beq_iff_eq, -beq_eq_false_iff_ne, -bne_eq_false_iff_eq]
theorem hasL_c (z : Bool) (l : List Str) (hn : l.length ≤ 9000000000000) (hl : ∀ s ∈ l, s.length ≤ 9000000000000) (h : Heap) (c : Nat) : callA (mdT tblT) (run Tryd.prog (mdT tblT)) 21 [.ro z (strs l), .fn 22 []] h c = some (B (l.any (·.any oddb)), h, c) := by
  obtain ⟨h', c', e⟩ := hasL_ev z l hn hl
  exact call_of rfl rfl e rfl rfl
theorem badR_ev (z : Bool) (l : List Str) (hn : l.length ≤ 9000000000000) (hl : ∀ s ∈ l, s.length ≤ 9000000000000) : ∃ h c, run Tryd.prog (mdT tblT) 20 [.ro z (strs l)] Heap.none 0 = some (B (l.any (·.any oddb)), h, c) := by
  rw [run_eq (show mdT tblT 20 = some .pure from rfl) rfl, Tryd.func20]
  have e := fun h c => hasL_c z l hn hl h c
  simp -implicitDefEqProofs [Tryd.f20, e, -decide_eq_true_eq, -decide_eq_false_iff_not, -List.any_eq_true, -List.any_eq_false, -bne_iff_ne, -beq_iff_eq, -beq_eq_false_iff_ne, -bne_eq_false_iff_eq]
theorem badR_c (z : Bool) (l : List Str) (hn : l.length ≤ 9000000000000) (hl : ∀ s ∈ l, s.length ≤ 9000000000000) (h : Heap) (c : Nat) : callA (mdT tblT) (run Tryd.prog (mdT tblT)) 20 [.ro z (strs l)] h c = some (B (l.any (·.any oddb)), h, c) := by
  obtain ⟨h', c', e⟩ := badR_ev z l hn hl
  exact call_of rfl rfl e rfl rfl
theorem manyR_ev (z : Bool) (l : List Str) : ∃ h c, run Tryd.prog (mdT tblT) 24 [.ro z (strs l)] Heap.none 0 = some (B (decide (1000 < (l.length : Int))), h, c) := by
  rw [run_eq (show mdT tblT 24 = some .pure from rfl) rfl, Tryd.func24]
  simp -implicitDefEqProofs [Tryd.f24, -decide_eq_true_eq, -decide_eq_false_iff_not, -List.any_eq_true, -List.any_eq_false, -bne_iff_ne, -beq_iff_eq, -beq_eq_false_iff_ne, -bne_eq_false_iff_eq]
theorem manyR_c (z : Bool) (l : List Str) (h : Heap) (c : Nat) : callA (mdT tblT) (run Tryd.prog (mdT tblT)) 24 [.ro z (strs l)] h c = some (B (decide (1000 < (l.length : Int))), h, c) := by
  obtain ⟨h', c', e⟩ := manyR_ev z l
  exact call_of rfl rfl e rfl rfl
theorem findR_ev (z : Bool) (rs : List Row) (f : Nat) (g : Row → Bool) (hn : rs.length ≤ 9000000000000) (hg : ∀ r ∈ rs, ∀ h c, callA (mdT tblT) (run Tryd.prog (mdT tblT)) f [rowA r] h c = some (B (g r), h, c)) :
    ∃ h c, ∃ n : Int, run Tryd.prog (mdT tblT) 38 [.ro z (rowsE rs), .fn f []] Heap.none 0 = some (I n, h, c) ∧ decide (0 ≤ n) = rs.any g := by
  rw [run_eq (show mdT tblT 38 = some .pure from rfl) rfl, Tryd.func38]
  simp -implicitDefEqProofs [Tryd.f38, Option.bind_assoc, -List.any_eq_true, -List.any_eq_false]
  refine scan_list (R := fun o => ∃ h c, ∃ n : Int, o = some (I n, h, c) ∧ decide (0 ≤ n) = rs.any g) rs g (fun j s => s.t 0 = .ro z (rowsE rs) ∧ s.t 1 = .fn f [] ∧ s.t 7 = I rs.length ∧ s.t 8 = I j) _ ?_ ?_ ?_ ?_
  · simp
  · rintro j ⟨t, h, c⟩ ⟨h0, h1, h7, h8⟩ hj hf
    simp only at h0 h1 h7 h8
    have k0 : decide ((j : Int) < (rs.length : Int)) = true := by simp; omega
    have kc := hg rs[j] (List.getElem_mem hj)
    rw [hf] at kc
    simp -implicitDefEqProofs [h0, h1, h7, h8, k0, hj, kc, -decide_eq_true_eq, -decide_eq_false_iff_not, -List.any_eq_true, -List.any_eq_false, -bne_iff_ne, -beq_iff_eq, -beq_eq_false_iff_ne, -bne_eq_false_iff_eq]
    exact wrap_succ (by omega)
  · rintro j ⟨t, h, c⟩ ⟨h0, h1, h7, h8⟩ hj hf ha
    simp only at h0 h1 h7 h8
    have k0 : decide ((j : Int) < (rs.length : Int)) = true := by simp; omega
    have kc := hg rs[j] (List.getElem_mem hj)
    rw [hf] at kc
    simp -implicitDefEqProofs [h0, h1, h7, h8, k0, hj, kc, -decide_eq_true_eq, -decide_eq_false_iff_not, -List.any_eq_true, -List.any_eq_false, -bne_iff_ne, -beq_iff_eq, -beq_eq_false_iff_ne, -bne_eq_false_iff_eq]
    exact ⟨_, _, _, ⟨rfl, rfl, rfl⟩, by rw [ha]; simp⟩
  · rintro ⟨t, h, c⟩ ⟨h0, h1, h7, h8⟩ ha
    simp only at h0 h1 h7 h8
    simp -implicitDefEqProofs [h0, h1, h7, h8, -decide_eq_true_eq, -decide_eq_false_iff_not, -List.any_eq_true, -List.any_eq_false, -bne_iff_ne, -beq_iff_eq, -beq_eq_false_iff_ne, -bne_eq_false_iff_eq]
    exact ⟨_, _, _, ⟨rfl, rfl, rfl⟩, by rw [ha]; simp⟩
theorem findR_c (z : Bool) (rs : List Row) (f : Nat) (g : Row → Bool) (hn : rs.length ≤ 9000000000000) (hg : ∀ r ∈ rs, ∀ h c, callA (mdT tblT) (run Tryd.prog (mdT tblT)) f [rowA r] h c = some (B (g r), h, c)) :
    ∃ n : Int, (∀ h c, callA (mdT tblT) (run Tryd.prog (mdT tblT)) 38 [.ro z (rowsE rs), .fn f []] h c = some (I n, h, c)) ∧ decide (0 ≤ n) = rs.any g := by
  obtain ⟨h', c', n, e, e2⟩ := findR_ev z rs f g hn hg
  exact ⟨n, fun h c => call_of rfl rfl e rfl rfl, e2⟩
theorem hasR_c (z : Bool) (rs : List Row) (f : Nat) (g : Row → Bool) (hn : rs.length ≤ 9000000000000) (hg : ∀ r ∈ rs, ∀ h c, callA (mdT tblT) (run Tryd.prog (mdT tblT)) f [rowA r] h c = some (B (g r), h, c)) (h : Heap) (c : Nat) :
    callA (mdT tblT) (run Tryd.prog (mdT tblT)) 23 [.ro z (rowsE rs), .fn f []] h c = some (B (rs.any g), h, c) := by
  have : ∃ h c, run Tryd.prog (mdT tblT) 23 [.ro z (rowsE rs), .fn f []] Heap.none 0 = some (B (rs.any g), h, c) := by
    rw [run_eq (show mdT tblT 23 = some .pure from rfl) rfl, Tryd.func23]
    obtain ⟨n, e1, e2⟩ := findR_c z rs f g hn hg
    simp -implicitDefEqProofs [Tryd.f23, e1, e2, -decide_eq_true_eq, -decide_eq_false_iff_not, -List.any_eq_true, -List.any_eq_false, -bne_iff_ne, -beq_iff_eq, -beq_eq_false_iff_ne, -bne_eq_false_iff_eq]
  obtain ⟨h', c', e⟩ := this
  exact call_of rfl rfl e rfl rfl
end Go.Proofs.YtbaoaodimbcebaaDoor.AM
