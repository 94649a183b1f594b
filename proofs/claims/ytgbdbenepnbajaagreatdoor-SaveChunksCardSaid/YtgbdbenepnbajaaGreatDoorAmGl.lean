/- What package variables read, as far as this seat's functions ask: nothing. -/
import Derived.Test.YtgbdbenepnbajaaGreatDoorAmRel
set_option linter.unusedVariables false
namespace Go.Proofs.YtgbdbenepnbajaaGreatDoor.AM
open Go
/-- The blocks that the program's variables fill. -/
def glN : Nat := 0
def glOk (_ : Array Obj) : Prop := True
theorem glOk_stable {H H' : Array Obj} (h : ∀ k, k < glN → (∃ cs T fz, H[k]? = some (Obj.cells cs T fz)) → H'[k]? = H[k]?) (g : glOk H) : glOk H' := trivial
end Go.Proofs.YtgbdbenepnbajaaGreatDoor.AM
