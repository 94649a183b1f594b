/- What package variables read, as far as this seat's functions ask: the table of powers of ten, and the two errors of strconv. -/
import Derived.Test.YtmpcjfkfgjpebaaGreatDoorAmRel
import Derived.Lib.LaidTab
import Derived.Lib.ItoaNum
namespace Go.Proofs.YtmpcjfkfgjpebaaGreatDoor.AM
open Go
/-- The blocks that the program's variables fill. -/
def glN : Nat := 8
def glOk (H : Array Obj) : Prop := (∃ T fz, H[1]? = some (Obj.cells (Lib.pow10Tab.map fun z => Value.int .u64 z).toArray T fz)) ∧
  (∃ t v T fz, H[4]? = some (Obj.cells #[.iface t v] T fz)) ∧ ∃ t v T fz, H[5]? = some (Obj.cells #[.iface t v] T fz)
theorem glOk_stable {H H' : Array Obj} (h : ∀ k, k < glN → (∃ cs T fz, H[k]? = some (Obj.cells cs T fz)) → H'[k]? = H[k]?) (g : glOk H) : glOk H' := by
  unfold glOk at g ⊢
  obtain ⟨⟨T1, z1, h1⟩, ⟨t4, v4, T4, z4, h4⟩, t5, v5, T5, z5, h5⟩ := g
  refine ⟨⟨T1, z1, ?_⟩, ⟨t4, v4, T4, z4, ?_⟩, t5, v5, T5, z5, ?_⟩
  · rw [h 1 (by decide) ⟨_, _, _, h1⟩]; exact h1
  · rw [h 4 (by decide) ⟨_, _, _, h4⟩]; exact h4
  · rw [h 5 (by decide) ⟨_, _, _, h5⟩]; exact h5
end Go.Proofs.YtmpcjfkfgjpebaaGreatDoor.AM
