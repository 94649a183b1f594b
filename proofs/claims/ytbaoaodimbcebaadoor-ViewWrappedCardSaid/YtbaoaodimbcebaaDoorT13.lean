/- The arguments of the law on the lines of a text. -/
import Derived.Test.YtbaoaodimbcebaaDoorT12
set_option linter.unusedVariables false
set_option maxRecDepth 100000
namespace Go.Proofs.YtbaoaodimbcebaaDoor.AM
open Go Go.Proofs
theorem arg9 {n : Nat} {x : AV} (h : TyArg Tryd.prog (n + 1) 9 x) : ∃ l : Str, x = S l := by
  unfold TyArg at h
  rw [Tryd.underlying9] at h
  unfold TyOk at h
  rw [Tryd.underlying9] at h
  obtain ⟨s, e, _⟩ := h
  cases e
  exact ⟨s.data.toList, S_of s⟩
theorem arg3 {n : Nat} {x : AV} (h : TyArg Tryd.prog (n + 1) 3 x) : ∃ i : Int, x = I i := by
  unfold TyArg at h
  rw [Tryd.underlying3] at h
  unfold TyOk at h
  rw [Tryd.underlying3] at h
  obtain ⟨i, e, _⟩ := h
  cases e
  exact ⟨i, rfl⟩
theorem pure3 (x0 x1 : AV) (h0 : TyArg Tryd.prog 8 9 x0) (h1 : TyArg Tryd.prog 8 3 x1) : ∃ h c, run Tryd.prog (mdT tblT) 3 [x0, x1] Heap.none 0 = some (B true, h, c) := by
  obtain ⟨l, rfl⟩ := arg9 (n := 7) h0
  obtain ⟨n, rfl⟩ := arg3 (n := 7) h1
  exact law3 l n
end Go.Proofs.YtbaoaodimbcebaaDoor.AM
