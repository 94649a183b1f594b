/- The table of this seat's functions, and those that are told of. -/
import Derived.Test.YtbaoaodimbcebaaDoorTextFacts
import Derived.Test.YtbaoaodimbcebaaDoorT0
import Derived.Lib.Bytealg
namespace Go.Proofs.YtbaoaodimbcebaaDoor.AM
open Go Go.Proofs
set_option linter.unusedVariables false
/-- The first place of a byte in a string. -/
def idxG : List AV → Option AV
  | [.val (.string s), .val (.int .u8 c)] => some (.val (.int .i64 (Lib.indexByte s.data.toList c.toNat.toUInt8)))
  | _ => none
/-- A string, some times. -/
def repG : List AV → Option AV
  | [.val (.string s), .val (.int .i64 n)] => if 0 ≤ n ∧ n ≤ 9223372036854775807 ∧ s.size * n.toNat ≤ 140737488355328 then some (.val (.string ⟨(Lib.repeatL s.data.toList n.toNat).toArray⟩)) else none
  | _ => none
def tblT : List (Nat × CMode) := [(3, .pure), (4, .pure), (6, .pure), (7, .pure), (8, .pure), (9, .pure), (10, .pure), (14, .pure), (15, .pure), (16, .pure), (17, .pure), (18, .pure), (19, .pure), (31, .pure), (32, .heap), (33, .pure), (34, .heap), (35, .pure), (36, .heap), (48, .pure), (49, .heap), (58, .pure), (59, .pure), (60, .heap), (62, .pure), (67, .pure), (72, .pure), (74, .ext idxG), (rndF, .rnd),
  (5, .pure), (11, .pure), (12, .pure), (13, .pure), (20, .pure), (21, .pure), (22, .pure), (23, .pure), (24, .pure), (25, .pure), (26, .pure), (37, .pure), (38, .pure), (29, .pure), (44, .pure), (27, .ext repG), (28, .heap), (30, .heap), (43, .heap), (54, .idt)]
theorem mixT : Tryd.prog.follows .mixedOrders = true := by kernel_rfl
theorem chkT : tblChk Tryd.prog tblT = true := by kernel_rfl
theorem ext74 : ExtOk Tryd.prog 74 idxG := by
  intro xs r e w vs hl
  unfold idxG at e
  split at e
  · rename_i s c
    cases e
    obtain ⟨v1, vs, rfl, h1, hl⟩ := hl.uncons
    obtain ⟨v2, vs, rfl, h2, hl⟩ := hl.uncons
    obtain rfl : vs = [] := by have := hl.1; simpa using this
    cases h1
    cases h2
    have hr : (callFunc 74 #[.string s, .int .u8 c]).run Tryd.prog w = .ok (.value (.int .i64 (Lib.indexByte s.data.toList c.toNat.toUInt8))) w := by
      rw [run_callFunc_extern Tryd.func74 (by kernel_rfl) (by kernel_rfl) (by kernel_rfl) (e := Extern.BytealgIndexByte.indexByte) (by kernel_rfl), Lib.run_indexByteString]
      rfl
    unfold Hits
    rw [hr]
    exact ⟨fun H F ρ => .val _ _ rfl, RowKit.Below.refl _ _⟩
  · cases e
theorem ext27 : ExtOk Tryd.prog 27 repG := by
  intro xs r e w vs hl
  unfold repG at e
  split at e
  · rename_i s n
    split at e
    · rename_i hn
      cases e
      obtain ⟨v1, vs, rfl, h1, hl⟩ := hl.uncons
      obtain ⟨v2, vs, rfl, h2, hl⟩ := hl.uncons
      obtain rfl : vs = [] := by have := hl.1; simpa using this
      cases h1
      cases h2
      have hc := rep_run s n.toNat w (by omega) hn.2.2
      have hnn : ((n.toNat : Nat) : Int) = n := by omega
      rw [hnn] at hc
      have hr : (callFunc 27 #[.string s, .int .i64 n]).run Tryd.prog w = .ok (.enter 27 #[.string s, .int .i64 n]) w := by
        unfold callFunc
        simp [Tryd.func27]
        rfl
      unfold Hits
      rw [hr]
      refine Calls.mono hc ?_
      rintro e w' ⟨rfl, hb⟩
      exact ⟨_, rfl, fun H F ρ => .val _ _ rfl, hb⟩
    · cases e
  · cases e
theorem idt54 (v : Value) (w : World) : (callFunc 54 #[v]).run Tryd.prog w = .ok (.value v) w := by
  rw [run_callFunc_extern Tryd.func54 (by kernel_rfl) (by kernel_rfl) (by kernel_rfl) (e := Extern.AbiNoEscape.same) (by kernel_rfl), Lib.run_noEscape]
  rfl
theorem mdext {f : Nat} {g : List AV → Option AV} (h : mdT tblT f = some (.ext g)) : (f = 74 ∧ g = idxG) ∨ (f = 27 ∧ g = repG) := by
  have := lookup_mem2 h
  simp [tblT] at this
  exact this
theorem mdidt {f : Nat} (h : mdT tblT f = some .idt) : f = 54 := by
  have := lookup_mem2 h
  simp [tblT] at this
  exact this
theorem fnsT : FnsOk Tryd.prog (mdT tblT) := fnsOk_of chkT (fun f g h => by
  rcases mdext h with ⟨rfl, rfl⟩ | ⟨rfl, rfl⟩
  · exact ext74
  · exact ext27) (fun f h => by
  obtain rfl := mdidt h
  exact idt54)
end Go.Proofs.YtbaoaodimbcebaaDoor.AM
