/- The table of this seat's functions. -/
import Derived.Test.YtmpcjfkfgjpebaaGreatDoorZ12
import Derived.Test.YtmpcjfkfgjpebaaGreatDoorZJ
set_option maxHeartbeats 0
set_option maxRecDepth 8000
set_option linter.unusedVariables false
namespace Go.Proofs.YtmpcjfkfgjpebaaGreatDoor.AM
open Go Go.Proofs
/-- What the known script is told to answer. -/
def gKnown : List AV → Option AV
  | [] => some (.val (.bool true))
  | _ => none
def tblOf (m6 : CMode) (g : List AV → Heap → Nat → Option (AV × Heap × Nat)) : List (Nat × CMode) := [(6, m6), (7, .pure), (8, .pure), (9, .pure), (10, .pure), (11, .pure), (12, .pure), (13, .pure), (14, .pure), (15, .pure), (16, .pure), (17, .pure), (18, .pure), (19, .pure), (20, .pure), (21, .pure), (22, .pure), (23, .heap), (24, .heap), (25, .pure), (26, .pure), (27, .pure), (28, .pure), (29, .pure), (30, .pure), (31, .heap), (32, .pure), (33, .pure), (34, .heap), (35, .pure), (36, .heap), (37, .pure), (38, .pure), (39, .pure),
  (40, .ext gItoa), (41, .ext gJoin), (42, .heap), (43, .pure), (44, .heap), (45, .ext gSuffix), (46, .ext gTrim), (47, .heap), (48, .pure), (49, .heap), (50, .heap), (51, .heap), (52, .pure), (53, .heap), (54, .heap), (55, .heap), (56, .heap), (57, .pure), (58, .pure), (59, .pure), (60, .pure), (61, .pure), (62, .pure), (63, .heap), (64, .pure), (65, .pure), (66, .pure), (67, .pure), (68, .pure), (69, .pure),
  (74, .heap), (75, .ext gAtoi), (76, .heap), (82, .pure), (83, .ext gHas), (84, .pure), (85, .heap), (86, .heap), (87, .heap), (88, .heap), (89, .ext gCutP), (90, .pure), (91, .pure), (92, .pure), (93, .pure), (94, .pure), (95, .pure), (96, .pure), (97, .pure), (98, .pure), (99, .heap), (100, .pure), (101, .pure), (102, .pure), (103, .pure), (104, .pure), (108, .heap), (110, .ext gIndex), (114, .ext gCount), (119, .ext gIndex),
  (120, .pure), (121, .heap), (122, .heap), (124, .pure), (125, .pure), (126, .pure), (127, .pure), (128, .pure), (129, .pure), (130, .pure), (131, .pure), (132, .pure), (152, .pure), (153, .told g), (155, .pure), (156, .pure), (157, .pure), (158, .pure), (185, .pure), (186, .pure), (3, .pure), (4, .pure), (5, .pure), (rndF, .rnd)]
noncomputable def tblZ : List (Nat × CMode) := tblOf (.ext gKnown) gWhole
noncomputable def tblK : List (Nat × CMode) := tblOf .pure (gWholeN 60)
noncomputable abbrev mZ : Nat → Option CMode := mdT tblZ
noncomputable abbrev mK : Nat → Option CMode := mdT tblK
theorem chkZ : tblChk Tryz.prog tblZ = true := by kernel_rfl
theorem chkK : tblChk Tryz.prog tblK = true := by kernel_rfl
end Go.Proofs.YtmpcjfkfgjpebaaGreatDoor.AM
