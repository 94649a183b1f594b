/- Texts of the proof: part B1. -/
import Derived.Test.YtdckleaemkcapaaBankFacts
namespace Go.Proofs.Ytdckleaemkcapaa.AM
open Go Go.Proofs
def tblB : List (Nat × CMode) := [(3, .pure), (4, .pure), (5, .pure), (6, .pure), (7, .pure), (8, .pure), (9, .pure), (10, .pure), (11, .pure), (12, .pure), (13, .pure), (14, .pure), (15, .pure), (16, .pure), (17, .pure), (18, .pure), (19, .pure), (20, .pure), (21, .pure), (22, .pure), (23, .pure), (24, .pure), (25, .pure), (26, .pure), (27, .pure), (28, .pure), (29, .pure), (30, .pure), (31, .pure), (32, .pure), (33, .pure), (34, .pure), (35, .pure), (36, .own), (37, .pure), (38, .pure), (39, .pure), (40, .own), (41, .pure), (42, .pure), (43, .pure), (44, .pure), (45, .pure), (46, .pure), (47, .pure), (48, .pure), (49, .pure), (50, .pure), (51, .pure), (52, .pure), (53, .pure), (54, .pure), (55, .pure), (56, .pure), (57, .pure), (58, .pure), (59, .pure), (60, .pure), (61, .pure), (62, .pure), (63, .pure), (64, .pure), (65, .pure), (66, .pure), (67, .own), (68, .heap), (69, .own), (70, .own), (71, .pure), (72, .pure), (73, .pure), (74, .pure), (75, .pure), (76, .pure), (77, .pure), (78, .own), (79, .heap), (80, .pure), (81, .heap), (82, .heap), (83, .heap), (84, .pure), (85, .pure), (86, .pure), (87, .pure), (88, .own), (89, .own), (90, .own), (91, .heap), (92, .heap)]
theorem mixB : Try.prog.follows .mixedOrders = true := by kernel_rfl
theorem fnsB : FnsOk Try.prog (mdT tblB) := fnsOk_of (by kernel_rfl)
theorem known_n : (callN Try.prog (mdT tblB) 60 20 [] Heap.none 0).map Prod.fst = some (boolV true) := by kernel_rfl
theorem known_B : ∃ h c, run Try.prog (mdT tblB) 20 [] Heap.none 0 = some (boolV true, h, c) := by
  have h := known_n
  cases e : callN Try.prog (mdT tblB) 60 20 [] Heap.none 0 with
  | none => rw [e] at h; cases h
  | some p =>
    rw [e] at h
    obtain ⟨r, h', c'⟩ := p
    cases h
    exact ⟨h', c', run_some.mpr ⟨60, e⟩⟩
end Go.Proofs.Ytdckleaemkcapaa.AM
