/- Texts of the proof: part T29. -/
import Derived.Test.YtbaoaodimbcebaaDoorT28
set_option maxHeartbeats 0
set_option maxRecDepth 8000
set_option linter.unusedSimpArgs false
set_option linter.unusedVariables false
set_option linter.unusedSectionVars false
namespace Go.Proofs.YtbaoaodimbcebaaDoor.AM
open Go Go.Proofs
attribute [local simp] fieldAddrA ld setCells stA skipV appendA hd makeA bnd kindA freshA killOk loadsAt newT empT lay_get allocA buildA buildRow lenA els indexAddrA isNil opA evA lit_int lit_bool lit_nil lit_nilf yldA binI unA pickA boolV intV fieldA mk eqs
@[simp] theorem un9 : Tryd.prog.underlying 5 = some (.int .u8) := by kernel_rfl
theorem conv_G {h : Heap} {c : Nat} {v : AV} {bs : Str} (O : OutG 5 h c v (byts bs)) : convA Tryd.prog 29 9 h v = some (S bs) := by
  have e : els h v = some (byts bs) := by
    rcases O with ⟨rfl, e⟩ | ⟨n, rfl, _, h2, h3⟩
    · rw [e]; rfl
    · simp [h3, List.take_of_length_le]
  have key : convA Tryd.prog 29 9 h v = (slT Tryd.prog 29).bind fun e => match Tryd.prog.underlying e with
    | some (.int .u8) => if stT Tryd.prog 9 then (els h v).bind fun es => (es.mapM byteA).map fun bs => .val (.string ⟨bs.toArray⟩) else none
    | _ => none := by
    rcases O with ⟨rfl, e⟩ | ⟨n, rfl, _, h2, h3⟩ <;> rfl
  rw [key]
  simp only [slT_29, Option.bind_some, un9, stT_9, if_true, e, bytesM, Option.map_some]
  rfl
theorem U32 : AV.val (.int .u8 32) = U 32 := rfl
theorem U10 : AV.val (.int .u8 10) = U 10 := rfl
/-- A byte more. -/
theorem outB_one {h : Heap} {c : Nat} {v : AV} {bs : Str} (O : OutG 5 h c v (byts bs)) (b : UInt8) (hl : bs.length + 1 ≤ 140737488355328) :
    ∃ v' h' c', appendA Tryd.prog 29 (h.put c (some ⟨1, [[U b]], some 5⟩)) (c + 1) v (.sl c 1 0 1) = some (v', h', c') ∧ OutG 5 h' c' v' (byts (bs ++ [b])) ∧ Grown h c v h' c' v' := by
  obtain ⟨v', h', c', e, O', G⟩ := outG_one (t := 29) (by_ := 1) (z := [.val (.int .u8 0)]) O (U b) (some 5) (by simp) (by simp) (by simp) (by simp) rfl (by simp; omega) (by simp; omega)
  exact ⟨v', h', c', e, by rw [show byts (bs ++ [b]) = byts bs ++ [[U b]] by simp [byts]]; exact O', G⟩
theorem outB_32 {h : Heap} {c : Nat} {v : AV} {bs : Str} (O : OutG 5 h c v (byts bs)) (hl : bs.length + 1 ≤ 140737488355328) :
    ∃ v' h' c', appendA Tryd.prog 29 (h.put c (some ⟨1, [[.val (.int .u8 32)]], some 5⟩)) (c + 1) v (.sl c 1 0 1) = some (v', h', c') ∧ OutG 5 h' c' v' (byts (bs ++ [32])) ∧ Grown h c v h' c' v' := outB_one O 32 hl
theorem outB_10 {h : Heap} {c : Nat} {v : AV} {bs : Str} (O : OutG 5 h c v (byts bs)) (hl : bs.length + 1 ≤ 140737488355328) :
    ∃ v' h' c', appendA Tryd.prog 29 (h.put c (some ⟨1, [[.val (.int .u8 10)]], some 5⟩)) (c + 1) v (.sl c 1 0 1) = some (v', h', c') ∧ OutG 5 h' c' v' (byts (bs ++ [10])) ∧ Grown h c v h' c' v' := outB_one O 10 hl
/-- A row that is read from its head on. -/
def OutT (h : Heap) (c : Nat) (v : AV) (y : Str) : Prop := (∃ b, v = .ro b [] ∧ y = []) ∨ ∃ n rest, v = .sl n 1 0 y.length ∧ h n = some ⟨1, byts y ++ rest, some 5⟩
theorem OutG.toT {h : Heap} {c : Nat} {v : AV} {y : Str} (O : OutG 5 h c v (byts y)) : OutT h c v y := by
  rcases O with ⟨rfl, e⟩ | ⟨n, rfl, _, h2, h3⟩
  · exact .inl ⟨true, rfl, by simpa using e⟩
  · exact .inr ⟨n, [], by simp, by simpa using h3⟩
theorem OutT.src {h : Heap} {c : Nat} {v : AV} {y : Str} (O : OutT h c v y) : srcA h v = some (byts y) ∧ okSrc Tryd.prog 29 v = true := by
  rcases O with ⟨b, rfl, rfl⟩ | ⟨n, rest, rfl, h2⟩
  · exact ⟨rfl, by simp⟩
  · refine ⟨?_, by simp⟩
    have hl : y.length = (byts y).length := by simp
    show (h n).bind _ = _
    rw [h2]
    simp [List.take_append_of_le_length]
theorem outT_last {h : Heap} {c : Nat} {z : Str} {x : UInt8} {v : AV} (O : OutT h c v (z ++ [x])) : ∃ n rest, v = .sl n 1 0 (z.length + 1) ∧ h n = some ⟨1, byts (z ++ [x]) ++ rest, some 5⟩ ∧ (byts (z ++ [x]) ++ rest)[z.length]? = some [U x] ∧ OutT h c (if 0 < z.length then .sl n 1 0 z.length else .ro false []) z := by
  rcases O with ⟨b, rfl, e⟩ | ⟨n, rest, rfl, h2⟩
  · simp at e
  · refine ⟨n, rest, by simp, h2, ?_, ?_⟩
    · rw [List.getElem?_append_left (by simp)]
      simp
    · split
      · exact .inr ⟨n, [U x] :: rest, rfl, by rw [h2]; simp [byts]⟩
      · have : z = [] := List.eq_nil_of_length_eq_zero (by omega)
        exact .inl ⟨false, rfl, this⟩
theorem slice_cut (n m : Nat) : sliceA Tryd.prog 29 (.sl n 1 0 (m + 1)) none (some (.val (.int .i64 (m : Int)))) none = some (if 0 < m then .sl n 1 0 m else .ro false []) := by
  unfold sliceA
  have h : (0 : Int) ≤ (m : Int) ∧ (m : Int) ≤ ((m + 1 : Nat) : Int) := by omega
  simp only [slT_29, szT_5, Option.bind_some, if_true, bnd, h, and_self, Int.toNat_natCast, Nat.zero_add, Nat.sub_zero]
/-- What a filled text has at a place. -/
theorem fill_get {w x m : Nat} {y : Str} (hx : x ≤ w) (hm : m < x) : (fillS x (y.take w))[m]? = some (if h : m < y.length then y[m] else 32) := by
  unfold fillS
  by_cases h : m < y.length
  · rw [dif_pos h, List.getElem?_append_left (by rw [List.length_take]; omega), List.getElem?_take, if_pos (by omega), List.getElem?_eq_getElem h]
  · rw [dif_neg h, List.getElem?_append_right (by rw [List.length_take]; omega), List.getElem?_replicate, if_pos]
    rw [List.length_take]
    omega
theorem fill_len {w x : Nat} {y : Str} (h : (y.take w).length ≤ x) : (fillS x (y.take w)).length = x := by
  unfold fillS
  simp only [List.length_append, List.length_replicate]
  omega
/-- The widths, with what the rest of the function holds. -/
structure RW (z : Bool) (rs : List Row) (w : Nat) (j : Nat) (s : St) : Prop where
  t0 : s.t 0 = .ro z (rowsE rs)
  t1 : s.t 1 = I w
  t10 : s.t 10 = I j
  O : OutG 3 s.h s.c (s.t 9) (ints (wid (txts ((cutQ w rs).take j))))
structure RWx (z : Bool) (rs : List Row) (w : Nat) (j : Nat) (es : List (List AV)) (k : Nat) (s : St) : Prop where
  t0 : s.t 0 = .ro z (rowsE rs)
  t1 : s.t 1 = I w
  t10 : s.t 10 = I j
  t11 : s.t 11 = I k
  O : OutG 3 s.h s.c (s.t 9) es
def RWi (z : Bool) (rs : List Row) (w : Nat) (j : Nat) (r : Row) (wd : List Nat) (k : Nat) (s : St) : Prop := RWx z rs w j (ints (widR wd ((lens (cutR w r.2)).take k))) k s
/-- The rows. -/
structure RO (z : Bool) (rs : List Row) (wd : List Nat) (out : Str) (j : Nat) (s : St) : Prop where
  t0 : s.t 0 = .ro z (rowsE rs)
  O9 : OutG 3 s.h s.c (s.t 9) (ints wd)
  O12 : OutG 5 s.h s.c (s.t 12) (byts out)
  d : Dj (s.t 9) (s.t 12)
  t13 : s.t 13 = I j
/-- A row. -/
structure RM (z : Bool) (rs : List Row) (wd : List Nat) (out : Str) (j : Nat) (line : Str) (k : Nat) (s : St) : Prop where
  t0 : s.t 0 = .ro z (rowsE rs)
  O9 : OutG 3 s.h s.c (s.t 9) (ints wd)
  O12 : OutG 5 s.h s.c (s.t 12) (byts out)
  O14 : OutG 5 s.h s.c (s.t 14) (byts line)
  d : Dj (s.t 9) (s.t 12)
  d9 : Dj (s.t 9) (s.t 14)
  d12 : Dj (s.t 12) (s.t 14)
  t13 : s.t 13 = I j
  t15 : s.t 15 = I k
/-- A text. -/
structure RI (z : Bool) (rs : List Row) (wd : List Nat) (out : Str) (j : Nat) (line : Str) (k m : Nat) (s : St) : Prop where
  M : RM z rs wd out j line k s
  t16 : s.t 16 = I m
end Go.Proofs.YtbaoaodimbcebaaDoor.AM
