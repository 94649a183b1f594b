/- The table of this seat's functions, and the one that the model answers by itself. -/
import Derived.Test.YtbaoaodimbcebaaDoorTextFacts
import Derived.Lib.Bytealg
namespace Go.Proofs.YtbaoaodimbcebaaDoor.AM
open Go Go.Proofs
set_option linter.unusedVariables false
/-- The first place of a byte in a string. -/
def idxG : List AV → Option AV
  | [.val (.string s), .val (.int .u8 c)] => some (.val (.int .i64 (Lib.indexByte s.data.toList c.toNat.toUInt8)))
  | _ => none
def tblT : List (Nat × CMode) := [(3, .pure), (4, .pure), (6, .pure), (7, .pure), (8, .pure), (9, .pure), (10, .pure), (14, .pure), (15, .pure), (16, .pure), (17, .pure), (18, .pure), (19, .pure), (31, .pure), (32, .heap), (33, .pure), (34, .heap), (35, .pure), (36, .heap), (48, .pure), (49, .heap), (58, .pure), (59, .pure), (60, .heap), (62, .pure), (67, .pure), (72, .pure), (74, .ext idxG), (rndF, .rnd)]
theorem mixT : Tryd.prog.follows .mixedOrders = true := by kernel_rfl
theorem chkT : tblChk Tryd.prog tblT = true := by kernel_rfl
theorem ext74 : ExtOk Tryd.prog 74 idxG := by
  intro xs r e w vs hl
  unfold idxG at e
  split at e
  · rename_i s c
    cases e
    obtain ⟨v1, vs, rfl, h1, hl⟩ := hl.uncons
    obtain ⟨v2, vs, rfl, h2, hl⟩ := hl.uncons
    obtain rfl : vs = [] := by have := hl.1; simpa using this
    cases h1
    cases h2
    have hr : (callFunc 74 #[.string s, .int .u8 c]).run Tryd.prog w = .ok (.value (.int .i64 (Lib.indexByte s.data.toList c.toNat.toUInt8))) w := by
      rw [run_callFunc_extern Tryd.func74 (by kernel_rfl) (by kernel_rfl) (by kernel_rfl) (e := Extern.BytealgIndexByte.indexByte) (by kernel_rfl), Lib.run_indexByteString]
      rfl
    unfold Hits
    rw [hr]
    exact ⟨fun H F ρ => .val _ _ rfl, RowKit.Below.refl _ _⟩
  · cases e
theorem mdext {f : Nat} {g : List AV → Option AV} (h : mdT tblT f = some (.ext g)) : f = 74 ∧ g = idxG := by
  have := lookup_mem2 h
  simp [tblT] at this
  exact this
theorem fnsT : FnsOk Tryd.prog (mdT tblT) := fnsOk_of chkT fun f g h => by
  obtain ⟨rfl, rfl⟩ := mdext h
  exact ext74
end Go.Proofs.YtbaoaodimbcebaaDoor.AM
