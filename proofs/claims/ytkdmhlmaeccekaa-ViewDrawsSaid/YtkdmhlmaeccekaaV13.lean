/- Texts of the proof: part V13. -/
import Derived.Test.YtkdmhlmaeccekaaV12
set_option maxHeartbeats 0
namespace Go.Proofs.Ytkdmhlmaeccekaa.AM
open Go Go.Proofs
attribute [local simp] AV.cells okc AV.isBad fieldAddrA ld setCells stA skipV kindA freshA lay_get allocA buildA buildRow builtinA lenA els indexAddrA isNil opA evA lit yldA binA binI unA pickA boolV intV fieldA mk flat lf lf.lfs frz
abbrev roi (z : Bool) (ws : List Int) : AV := .ro z (ws.map fun w => [I w])
abbrev rob (z : Bool) (ws : List Bool) : AV := .ro z (ws.map fun w => [B w])
def fstP (a b : Bx) : Bool := behP a b && !behP b a
theorem first_ev (h : Heap) (c : Nat) (z : Bool) (bs : List Bx) (p : Nat) (hp : h p = some ⟨1, [[ros z bs]]⟩) (i j : Nat) (hi : i < bs.length) (hj : j < bs.length) :
    run Try.prog (mdT tblV) 25 [I i, I j, .ptr p 0 0] h c = some (B (fstP bs[i] bs[j]), h, c) := by
  rw [run_eq, show mdT tblV 25 = some .heap from rfl, Option.bind_some, Try.func25]
  unfold fstP
  cases g : behP bs[i] bs[j]
  · simp -implicitDefEqProofs [Try.f25, hp, hi, hj, g, Bx.av]
  · simp -implicitDefEqProofs [Try.f25, hp, hi, hj, g, Bx.av]
theorem first_c (h : Heap) (c : Nat) (z : Bool) (bs : List Bx) (p : Nat) (hp : h p = some ⟨1, [[ros z bs]]⟩) (i j : Nat) (hi : i < bs.length) (hj : j < bs.length) :
    callA (mdT tblV) (run Try.prog (mdT tblV)) 25 [I i, I j, .ptr p 0 0] h c = some (B (fstP bs[i] bs[j]), h, c) := by
  rw [call_heap rfl]
  exact first_ev h c z bs p hp i j hi hj
def leastP (ts : List Bool) (j : Nat) : Int := match (List.range j).find? (fun i => ts[i]? == some false) with
  | some i => i
  | none => -1
def nextT (ws : List Int) (ts : List Bool) : AV := match (List.range ws.length).find? (fun i => ts[i]? == some false && ws[i]? == some 0) with
  | some i => .tup [I i, B true]
  | none => .tup [I (leastP ts ws.length), B false]
theorem least_lt (ts : List Bool) (j : Nat) : leastP ts j < 0 ↔ (List.range j).find? (fun i => ts[i]? == some false) = none := by
  unfold leastP
  split
  · rename_i i hi; rw [hi]; simp
  · rename_i hi; rw [hi]; simp
theorem least_succ_t (ts : List Bool) (j : Nat) (h : ts[j]? = some true) : leastP ts (j + 1) = leastP ts j := by
  unfold leastP
  rw [List.range_succ, List.find?_append]
  cases (List.range j).find? (fun i => ts[i]? == some false) with
  | none => simp [List.find?, h]
  | some i => rfl
theorem least_succ_f (ts : List Bool) (j : Nat) (h : ts[j]? = some false) : leastP ts (j + 1) = if leastP ts j < 0 then (j : Int) else leastP ts j := by
  unfold leastP
  rw [List.range_succ, List.find?_append]
  cases (List.range j).find? (fun i => ts[i]? == some false) with
  | none => simp [List.find?, h]
  | some i => simp; intro h; omega
theorem next_ev (z z' : Bool) (ws : List Int) (ts : List Bool) (hl : ts.length = ws.length) (hn : ws.length ≤ 4000) : ∃ h c, run Try.prog (mdT tblV) 28 [roi z ws, rob z' ts] Heap.none 0 = some (nextT ws ts, h, c) := by
  rw [run_eq, show mdT tblV 28 = some .pure from rfl, Option.bind_some, Try.func28]
  generalize hv : nextT ws ts = v
  simp -implicitDefEqProofs [Try.f28, Option.bind_assoc]
  refine loop_to (R := fun o => ∃ h c, o = some (v, h, c)) (fun k s => ∃ j : Nat, k = ws.length - j ∧ j ≤ ws.length ∧ s.t 9 = roi z ws ∧ s.t 1 = rob z' ts ∧ s.t 10 = I ws.length ∧ s.t 11 = I j ∧ s.t 6 = I (leastP ts j) ∧ (List.range j).find? (fun i => ts[i]? == some false && ws[i]? == some 0) = none)
    (fun e s => (e = .exit 0 ∧ s.t 6 = I (leastP ts ws.length) ∧ v = .tup [I (leastP ts ws.length), B false]) ∨ (e = .ret ∧ v = .tup [s.t 4, s.t 5])) ?_ ?_ ws.length _ ⟨0, ?_⟩
  · rintro k ⟨t, h, c⟩ ⟨j, hk, hj, h9, h1, h10, h11, h6, hf⟩
    simp only at h9 h1 h10 h11 h6
    by_cases g1 : j < ws.length
    · have g2 : j < ts.length := by omega
      cases g3 : ts[j]
      · have q1 : ts[j]? = some false := by rw [List.getElem?_eq_getElem g2, g3]
        by_cases g4 : ws[j] = 0
        · have q2 : ws[j]? = some 0 := by rw [List.getElem?_eq_getElem g1, g4]
          have hv1 : v = .tup [I j, B true] := by
            rw [← hv]; unfold nextT
            rw [find_at _ hf g1 (by simp [q1, q2])]
          simp -implicitDefEqProofs [h9, h1, h10, h11, h6, g1, g2, g3, g4, hv1, to_normal, to_exit, to_ret]
        · have q4 : (ws[j] == 0) = false := by simpa using g4
          have hs := find_succ _ j hf
          rw [if_neg (by simp [q1, g4, g1])] at hs
          have e6 := least_succ_f ts j q1
          cases g5 : decide (leastP ts j < 0)
          · rw [if_neg (by simpa using g5)] at e6
            simp -implicitDefEqProofs [h9, h1, h10, h11, h6, g1, g2, g3, q4, g5, to_normal, to_exit, to_ret]
            exact ⟨ws.length - (j + 1), by omega, j + 1, by omega, by omega, wrap_succ (by omega), e6.symm, by simpa using hs⟩
          · rw [if_pos (by simpa using g5)] at e6
            simp -implicitDefEqProofs [h9, h1, h10, h11, h6, g1, g2, g3, q4, g5, to_normal, to_exit, to_ret]
            exact ⟨ws.length - (j + 1), by omega, j + 1, by omega, by omega, wrap_succ (by omega), e6.symm, by simpa using hs⟩
      · have q1 : ts[j]? = some true := by rw [List.getElem?_eq_getElem g2, g3]
        have hs := find_succ _ j hf
        rw [if_neg (by simp [q1])] at hs
        have e6 := least_succ_t ts j q1
        simp -implicitDefEqProofs [h9, h1, h10, h11, h6, g1, g2, g3, to_normal, to_exit, to_ret]
        exact ⟨ws.length - (j + 1), by omega, j + 1, by omega, by omega, wrap_succ (by omega), e6.symm, by simpa using hs⟩
    · have hj' : j = ws.length := by omega
      subst hj'
      have hv1 : v = .tup [I (leastP ts ws.length), B false] := by
        rw [← hv]; unfold nextT; rw [hf]
      simp -implicitDefEqProofs [h9, h1, h10, h11, h6, hv1, to_normal, to_exit, to_ret]
  · rintro e ⟨t, h, c⟩ (⟨rfl, h6, hv⟩ | ⟨rfl, hv⟩)
    · simp only at h6
      simp -implicitDefEqProofs [h6, hv]
    · simp only at hv
      simp -implicitDefEqProofs [hv]
  · simp [leastP]
end Go.Proofs.Ytkdmhlmaeccekaa.AM
