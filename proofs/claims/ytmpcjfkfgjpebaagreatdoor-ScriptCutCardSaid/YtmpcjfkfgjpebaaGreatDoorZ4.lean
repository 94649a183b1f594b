/- Texts of the proof: part Z4. -/
import Derived.Test.YtmpcjfkfgjpebaaGreatDoorZ3
set_option maxHeartbeats 0
set_option maxRecDepth 8000
set_option linter.unusedSimpArgs false
set_option linter.unusedVariables false
set_option linter.unusedSectionVars false
namespace Go.Proofs.YtmpcjfkfgjpebaaGreatDoor.AM
open Go Go.Proofs
attribute [local simp] fieldAddrA ld setCells stA skipV appendA hd makeA bnd kindA freshA killOk loadsAt edgesOn Region.binds newT empT lay_get allocA buildA buildRow lenA els indexAddrA isNil opA evA lit_int lit_bool lit_nil lit_nilf yldA binI unA pickA boolV intV fieldA mk eqs nilC mayP
def tblA : List (Nat × CMode) := [(75, .ext gAtoi), (100, .pure), (181, .heap), (182, .heap), (183, .heap), (184, .heap), (185, .pure), (187, .heap), (195, .heap), (196, .heap), (197, .heap), (198, .heap), (199, .heap), (200, .heap), (201, .heap), (202, .heap), (203, .heap), (204, .heap), (205, .heap)]
abbrev mA : Nat → Option CMode := mdT tblA
theorem mixA : Tryz.prog.follows .mixedOrders = true := by kernel_rfl
theorem chkA : tblChk Tryz.prog tblA = true := by kernel_rfl
theorem fnsA : FnsOk Tryz.prog mA := fnsOk_of chkA (fun f g h => by
  have := lookup_mem2 h
  simp [tblA] at this
  obtain ⟨rfl, rfl⟩ := this
  exact ext75) (fun f h => by
  have := lookup_mem2 h
  simp [tblA] at this) (fun f g h => by
  have := lookup_mem2 h
  simp [tblA] at this)
/-- What a reader works at. -/
structure Cx where
  s : Str
  ml : Nat
  nb : Nat
  z : Nat
  rows : List (List AV)
  zb : Blk
abbrev opsE (l : List (Int × Int)) : List (List AV) := l.map fun p => [I p.1, I p.2]
/-- The reader's cells. -/
abbrev rdB (X : Cx) (i : Int) (v : AV) (a b : Int) : Blk := ⟨7, [[S X.s, I i, .ro true [], .mp X.ml, v, I a, I b]], some 236⟩
/-- A reader at a place, with the steps that it has put down. -/
structure Rd (X : Cx) (h : Heap) (c : Nat) (i : Nat) (ops : List (Int × Int)) : Prop where
  nbc : X.nb < c
  mlc : X.ml < c
  zc : X.z < c
  d1 : X.ml ≠ X.nb
  d2 : X.z ≠ X.nb
  sl : X.s.length ≤ 1000
  le : i ≤ X.s.length
  ol : ops.length ≤ i
  mp : h X.ml = some (mpBlk X.rows)
  hz : h X.z = some X.zb
  blk : ∃ v a b, h X.nb = some (rdB X i v a b) ∧ OutG 2 108 h c v (opsE ops) ∧ nm v ≠ some X.nb ∧ nm v ≠ some X.ml ∧ nm v ≠ some X.z
theorem Rd.turn {X : Cx} {h : Heap} {c : Nat} {i : Nat} {ops : List (Int × Int)} (R : Rd X h c i ops) {v : AV} {a b : Int} (hb : h X.nb = some (rdB X i v a b)) (j : Nat) (a' b' : Int) (hj : j ≤ X.s.length) (ho : ops.length ≤ j) : Rd X (h.put X.nb (some (rdB X j v a' b'))) c j ops := by
  obtain ⟨v', a2, b2, h1, h2, h3, h4, h5⟩ := R.blk
  rw [hb] at h1
  have e := congrArg (fun o : Option Blk => o.map (·.es)) h1
  simp at e
  obtain ⟨rfl, _⟩ := e
  refine ⟨R.nbc, R.mlc, R.zc, R.d1, R.d2, R.sl, hj, ho, by simp [R.d1, R.mp], by simp [R.d2, R.hz], v, a', b', by simp, h2.frame (Nat.le_refl _) fun m hm _ => ?_, h3, h4, h5⟩
  have : m ≠ X.nb := fun e => h3 (by rw [hm, e])
  simp [this]
def nx (s : Str) (i : Nat) : UInt8 := (s[i]?).getD 0
theorem next_ev {X : Cx} {h : Heap} {c : Nat} {i : Nat} {ops : List (Int × Int)} (R : Rd X h c i ops) : run Tryz.prog mA 195 [.ptr X.nb 0 0] h c = some (U (nx X.s i), h, c) := by
  rw [run_eq (show mA 195 = some .heap from rfl) rfl, Tryz.func195]
  obtain ⟨v, a, b, hb, _⟩ := R.blk
  by_cases g : i < X.s.length
  · have k : decide (i < X.s.length) = true := by simp [g]
    obtain ⟨x, hx⟩ : ∃ x, X.s[i]? = some x := ⟨X.s[i], by simp [g]⟩
    have hn : nx X.s i = x := by rw [nx, hx]; rfl
    simp -implicitDefEqProofs [Tryz.f195, hb, k, hx, hn, -decide_eq_true_eq, -decide_eq_false_iff_not, -List.any_eq_true, -List.any_eq_false, -bne_iff_ne, -beq_iff_eq, -beq_eq_false_iff_ne, -bne_eq_false_iff_eq]
  · have k : decide (i < X.s.length) = false := by simp; omega
    have hn : nx X.s i = 0 := by rw [nx, List.getElem?_eq_none (by omega)]; rfl
    simp -implicitDefEqProofs [Tryz.f195, hb, k, hn, -decide_eq_true_eq, -decide_eq_false_iff_not, -List.any_eq_true, -List.any_eq_false, -bne_iff_ne, -beq_iff_eq, -beq_eq_false_iff_ne, -bne_eq_false_iff_eq]
theorem next_c {X : Cx} {h : Heap} {c : Nat} {i : Nat} {ops : List (Int × Int)} (R : Rd X h c i ops) : callA mA (run Tryz.prog mA) 195 [.ptr X.nb 0 0] h c = some (U (nx X.s i), h, c) := by
  rw [call_heap rfl, next_ev R]
theorem fail_c (n : Int) (h : Heap) (c : Nat) : callA mA (run Tryz.prog mA) 183 [E n] h c = some (.pan 27 .i64 n, h, c) := by
  rw [call_heap rfl, run_eq (show mA 183 = some .heap from rfl) rfl, Tryz.func183]
  simp -implicitDefEqProofs [Tryz.f183, -decide_eq_true_eq, -decide_eq_false_iff_not, -List.any_eq_true, -List.any_eq_false, -bne_iff_ne, -beq_iff_eq, -beq_eq_false_iff_ne, -bne_eq_false_iff_eq]
theorem take_drop (s : Str) (i n : Nat) : (s.take (i + n)).drop i = (s.drop i).take n := by
  rw [List.drop_take]
  congr 1
  omega
/-- A word that must stand next. -/
theorem want_ev {X : Cx} {h : Heap} {c : Nat} {i : Nat} {ops : List (Int × Int)} (R : Rd X h c i ops) (w : Str) (hw : w.length ≤ 100) :
    (∃ h', callA mA (run Tryz.prog mA) 201 [.ptr X.nb 0 0, S w] h c = some (.tup [], h', c) ∧ (X.s.drop i).take w.length = w ∧ i + w.length ≤ X.s.length ∧ Rd X h' c (i + w.length) ops) ∨
    callA mA (run Tryz.prog mA) 201 [.ptr X.nb 0 0, S w] h c = some (.pan 27 .i64 14, h, c) := by
  rw [call_heap rfl, run_eq (show mA 201 = some .heap from rfl) rfl, Tryz.func201]
  obtain ⟨v, a, b, hb, _⟩ := R.blk
  have hsl := R.sl
  have hle := R.le
  obtain ⟨j, hj⟩ : ∃ j, j = i + w.length := ⟨_, rfl⟩
  have kw : IntKind.i64.wrap ((i : Int) + (w.length : Int)) = (j : Int) := by rw [wrap_id (by omega) (by omega)]; omega
  have ht := take_drop X.s i w.length
  rw [← hj] at ht ⊢
  by_cases g : j ≤ X.s.length
  · have k : decide (X.s.length < j) = false := by simp; omega
    have hi : i ≤ j := by omega
    have hi2 : (i : Int) ≤ (j : Int) := by omega
    cases g2 : ((X.s.drop i).take w.length != w)
    · left
      have g3 : (X.s.drop i).take w.length = w := by simpa using g2
      simp -implicitDefEqProofs [Tryz.f201, hb, kw, k, g, hi, hi2, ht, g2, -decide_eq_true_eq, -decide_eq_false_iff_not, -List.any_eq_true, -List.any_eq_false, -bne_iff_ne, -beq_iff_eq, -beq_eq_false_iff_ne, -bne_eq_false_iff_eq]
      first | exact R.turn hb j a b g (by have := R.ol; omega) | exact ⟨g3, R.turn hb j a b g (by have := R.ol; omega)⟩ | exact ⟨_, rfl, g3, R.turn hb j a b g (by have := R.ol; omega)⟩
    · right
      simp -implicitDefEqProofs [Tryz.f201, hb, kw, k, g, hi, hi2, ht, g2, fail_c, -decide_eq_true_eq, -decide_eq_false_iff_not, -List.any_eq_true, -List.any_eq_false, -bne_iff_ne, -beq_iff_eq, -beq_eq_false_iff_ne, -bne_eq_false_iff_eq]
  · right
    have k : decide (X.s.length < j) = true := by simp; omega
    simp -implicitDefEqProofs [Tryz.f201, hb, kw, k, fail_c, -decide_eq_true_eq, -decide_eq_false_iff_not, -List.any_eq_true, -List.any_eq_false, -bne_iff_ne, -beq_iff_eq, -beq_eq_false_iff_ne, -bne_eq_false_iff_eq]
end Go.Proofs.YtmpcjfkfgjpebaaGreatDoor.AM
