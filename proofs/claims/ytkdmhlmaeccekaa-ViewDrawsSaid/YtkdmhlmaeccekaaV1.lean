/- Texts of the proof: part V1. -/
import Derived.Test.YtkdmhlmaeccekaaViewFacts
namespace Go.Proofs.Ytkdmhlmaeccekaa.AM
open Go Go.Proofs
def tblV : List (Nat × CMode) := [(3, .pure), (4, .pure), (5, .pure), (6, .pure), (7, .pure), (8, .pure), (9, .pure), (10, .pure), (11, .pure), (12, .pure), (13, .pure), (14, .pure), (15, .pure), (16, .pure), (17, .pure), (18, .pure), (19, .pure), (20, .pure), (21, .pure), (22, .pure), (23, .pure), (24, .pure), (25, .heap), (26, .pure), (27, .heap), (28, .pure), (29, .pure), (30, .pure), (31, .pure), (32, .pure), (33, .pure), (34, .pure)]
theorem fnsV : FnsOk Try.prog (mdT tblV) := fnsOk_of (by kernel_rfl)
theorem mixV : Try.prog.follows .mixedOrders = true := by kernel_rfl
end Go.Proofs.Ytkdmhlmaeccekaa.AM
