/- Texts of the proof: part V6. -/
import Derived.Test.YtkdmhlmaeccekaaV5
namespace Go.Proofs.Ytkdmhlmaeccekaa.AM
open Go Go.Proofs
def Wf (n : Int) : Prop := -9223372036854775808 ≤ n ∧ n ≤ 9223372036854775807
theorem ty3 {n : Nat} {avs : List AV} (h : TyOk Try.prog (n + 1) 3 avs) : ∃ i, avs = [I i] ∧ Wf i := by
  unfold TyOk at h
  rw [Try.underlying3] at h
  exact h
theorem arg3 {n : Nat} {x : AV} (h : TyArg Try.prog (n + 1) 3 x) : ∃ i, x = I i ∧ Wf i := by
  unfold TyArg at h
  rw [Try.underlying3] at h
  obtain ⟨i, h1, h2⟩ := ty3 h
  cases h1
  exact ⟨i, rfl, h2⟩
theorem cells32 : Try.prog.cellsOf 32 = 7 := by kernel_rfl
theorem cells3 : Try.prog.cellsOf 3 = 1 := by kernel_rfl
theorem ty32 {n : Nat} {avs : List AV} (h : TyOk Try.prog (n + 2) 32 avs) : ∃ b : Bx, avs = b.av.cells ∧ Wf b.x := by
  unfold TyOk at h
  rw [Try.underlying32, cells32] at h
  simp only at h
  obtain ⟨h0, h⟩ := h
  match avs, h0 with
  | [x0, x1, x2, x3, x4, x5, x6], _ =>
  simp [cells3] at h
  obtain ⟨g0, g1, g2, g3, g4, g5, g6⟩ := h
  obtain ⟨i0, e0, w0⟩ := ty3 g0
  obtain ⟨i1, e1, w1⟩ := ty3 g1
  obtain ⟨i2, e2, w2⟩ := ty3 g2
  obtain ⟨i3, e3, w3⟩ := ty3 g3
  obtain ⟨i4, e4, w4⟩ := ty3 g4
  obtain ⟨i5, e5, w5⟩ := ty3 g5
  obtain ⟨i6, e6, w6⟩ := ty3 g6
  cases e0; cases e1; cases e2; cases e3; cases e4; cases e5; cases e6
  exact ⟨⟨i0, i1, i2, i3, i4, i5, i6⟩, rfl, w0⟩
theorem arg32 {n : Nat} {x : AV} (h : TyArg Try.prog (n + 2) 32 x) : ∃ b : Bx, x = b.av ∧ Wf b.x := by
  unfold TyArg at h
  rw [Try.underlying32] at h
  obtain ⟨avs, rfl, h⟩ := h
  obtain ⟨b, rfl, hb⟩ := ty32 h
  exact ⟨b, rfl, hb⟩
theorem arg22 {n : Nat} {x : AV} (h : TyArg Try.prog (n + 3) 22 x) : ∃ (z : Bool) (bs : List Bx), x = .ro z (bs.map fun b => b.av.cells) ∧ (z = true → bs = []) ∧ bs.length ≤ maxLen ∧ ∀ b ∈ bs, Wf b.x := by
  unfold TyArg at h
  rw [Try.underlying22] at h
  unfold TyOk at h
  rw [Try.underlying22] at h
  obtain ⟨z, es, h1, h2, h3, h4⟩ := h
  cases h1
  have : ∃ bs : List Bx, es = bs.map (fun b => b.av.cells) ∧ ∀ b ∈ bs, Wf b.x := by
    clear h2 h3
    induction es with
    | nil => exact ⟨[], rfl, by simp⟩
    | cons e es ih =>
      obtain ⟨bs, hb, hw⟩ := ih fun r hr => h4 r (List.mem_cons_of_mem _ hr)
      obtain ⟨b, e1, w⟩ := ty32 (h4 e List.mem_cons_self).2
      refine ⟨b :: bs, by rw [e1, hb]; rfl, ?_⟩
      intro b' h'
      rcases List.mem_cons.mp h' with rfl | h'
      · exact w
      · exact hw _ h'
  obtain ⟨bs, rfl, hw⟩ := this
  refine ⟨z, bs, rfl, fun hz => ?_, by simpa using h3, hw⟩
  have := h2 hz
  simpa using this
theorem pure5 (x0 x1 : AV) (h0 : TyArg Try.prog 8 32 x0) (h1 : TyArg Try.prog 8 32 x1) : ∃ h c, run Try.prog (mdT tblV) 5 [x0, x1] Heap.none 0 = some (B true, h, c) := by
  obtain ⟨a, rfl, _⟩ := arg32 h0
  obtain ⟨b, rfl, _⟩ := arg32 h1
  exact law5 a b
end Go.Proofs.Ytkdmhlmaeccekaa.AM
