/- Texts of the proof: part T31. -/
import Derived.Test.YtbaoaodimbcebaaDoorT30
set_option maxHeartbeats 0
set_option maxRecDepth 8000
set_option linter.unusedSimpArgs false
set_option linter.unusedVariables false
set_option linter.unusedSectionVars false
namespace Go.Proofs.YtbaoaodimbcebaaDoor.AM
open Go Go.Proofs
attribute [local simp] fieldAddrA ld setCells stA skipV appendA hd makeA bnd kindA freshA killOk loadsAt newT empT lay_get allocA buildA buildRow lenA els indexAddrA isNil opA evA lit_int lit_bool lit_nil lit_nilf yldA binI unA pickA boolV intV fieldA mk eqs
theorem ty9 {n : Nat} {avs : List AV} (h : TyOk Tryd.prog (n + 1) 9 avs) : ∃ l : Str, avs = [S l] := by
  unfold TyOk at h
  rw [Tryd.underlying9] at h
  obtain ⟨s, e, _⟩ := h
  exact ⟨s.data.toList, by rw [e, S_of s]⟩
theorem ty23 {n : Nat} {avs : List AV} (h : TyOk Tryd.prog (n + 2) 23 avs) : ∃ r : Row, avs = [rowA r] := by
  unfold TyOk at h
  rw [Tryd.underlying23] at h
  obtain ⟨z, es, h1, h2, h3, h4⟩ := h
  have : ∃ ls : List Str, es = strs ls := by
    clear h1 h2 h3
    induction es with
    | nil => exact ⟨[], rfl⟩
    | cons e es ih =>
      obtain ⟨bs, hb⟩ := ih fun r hr => h4 r (List.mem_cons_of_mem _ hr)
      obtain ⟨b, e1⟩ := ty9 (n := n) (h4 e List.mem_cons_self).2
      exact ⟨b :: bs, by rw [e1, hb]; rfl⟩
  obtain ⟨ls, rfl⟩ := this
  exact ⟨(z, ls), h1⟩
theorem arg31 {n : Nat} {x : AV} (h : TyArg Tryd.prog (n + 3) 31 x) : ∃ (z : Bool) (rs : List Row), x = .ro z (rowsE rs) := by
  unfold TyArg at h
  rw [Tryd.underlying31] at h
  unfold TyOk at h
  rw [Tryd.underlying31] at h
  obtain ⟨z, es, h1, h2, h3, h4⟩ := h
  cases h1
  have : ∃ rs : List Row, es = rowsE rs := by
    clear h2 h3
    induction es with
    | nil => exact ⟨[], rfl⟩
    | cons e es ih =>
      obtain ⟨bs, hb⟩ := ih fun r hr => h4 r (List.mem_cons_of_mem _ hr)
      obtain ⟨b, e1⟩ := ty23 (n := n) (h4 e List.mem_cons_self).2
      exact ⟨b :: bs, by rw [e1, hb]; rfl⟩
  obtain ⟨rs, rfl⟩ := this
  exact ⟨z, rs, rfl⟩
theorem arg3 {n : Nat} {x : AV} (h : TyArg Tryd.prog (n + 1) 3 x) : ∃ i : Int, x = I i := by
  unfold TyArg at h
  rw [Tryd.underlying3] at h
  unfold TyOk at h
  rw [Tryd.underlying3] at h
  obtain ⟨i, e, _⟩ := h
  cases e
  exact ⟨i, rfl⟩
theorem law5 (z : Bool) (rs : List Row) (n : Int) : ∃ h c, run Tryd.prog (mdT tblT) 5 [.ro z (rowsE rs), I n] Heap.none 0 = some (B true, h, c) := by
  rw [run_eq (show mdT tblT 5 = some .pure from rfl) rfl, Tryd.func5]
  obtain ⟨b, e, hb⟩ := long_c z rs
  cases b
  · have e1 := fun h c => rcols_c z rs n (hb rfl) h c
    have e2 := fun h c => vcols_c z rs n (hb rfl) h c
    simp -implicitDefEqProofs [Tryd.f5, e, e1, e2]
  · simp -implicitDefEqProofs [Tryd.f5, e]
theorem pure5 (x0 x1 : AV) (h0 : TyArg Tryd.prog 8 31 x0) (h1 : TyArg Tryd.prog 8 3 x1) : ∃ h c, run Tryd.prog (mdT tblT) 5 [x0, x1] Heap.none 0 = some (B true, h, c) := by
  obtain ⟨z, rs, rfl⟩ := arg31 (n := 5) h0
  obtain ⟨n, rfl⟩ := arg3 (n := 7) h1
  exact law5 z rs n
end Go.Proofs.YtbaoaodimbcebaaDoor.AM
