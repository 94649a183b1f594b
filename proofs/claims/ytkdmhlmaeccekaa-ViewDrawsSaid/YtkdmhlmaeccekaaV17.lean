/- Texts of the proof: part V17. -/
import Derived.Test.YtkdmhlmaeccekaaV16
set_option maxHeartbeats 0
set_option linter.unusedSimpArgs false
namespace Go.Proofs.Ytkdmhlmaeccekaa.AM
open Go Go.Proofs
attribute [local simp] AV.cells okc AV.isBad fieldAddrA ld setCells stA skipV appendA hd makeA bnd sliceA kindA freshA lay_get allocA buildA buildRow builtinA lenA els indexAddrA isNil opA evA lit yldA binA binI unA pickA boolV intV fieldA mk flat lf lf.lfs frz
def OutR (lo : Nat) (h : Heap) (c : Nat) (o : List Nat) (outv : AV) : Prop :=
  (o = [] ∧ outv = .ro true []) ∨ ∃ l, lo ≤ l ∧ l < c ∧ outv = .sl l 1 0 o.length ∧ h l = some ⟨1, o.map fun (i : Nat) => [I (i : Int)]⟩
def leastR (o : List Nat) (j : Nat) : Int := match (List.range j).find? (fun i => !tkOf o i) with
  | some i => i
  | none => -1
theorem leastR_t (o : List Nat) (j : Nat) (h : tkOf o j = true) : leastR o (j + 1) = leastR o j := by
  unfold leastR
  rw [List.range_succ, List.find?_append]
  cases (List.range j).find? (fun i => !tkOf o i) with
  | none => simp [List.find?, h]
  | some i => rfl
theorem leastR_f (o : List Nat) (j : Nat) (h : tkOf o j = false) : leastR o (j + 1) = if leastR o j < 0 then (j : Int) else leastR o j := by
  unfold leastR
  rw [List.range_succ, List.find?_append]
  cases (List.range j).find? (fun i => !tkOf o i) with
  | none => simp [List.find?, h]
  | some i => simp; intro h; omega
def frT (bs : List Bx) (o : List Nat) (i k : Nat) : Bool := (List.range k).all fun k => tkOf o k || !fstI bs k i
theorem frT_succ (bs : List Bx) (o : List Nat) (i k : Nat) : frT bs o i (k + 1) = (frT bs o i k && (tkOf o k || !fstI bs k i)) := by
  unfold frT
  rw [List.range_succ, List.all_append]
  simp
theorem frT_false {bs : List Bx} {o : List Nat} {i k : Nat} (h : frT bs o i k = false) (hk : k ≤ bs.length) : freeP bs o i = false := by
  unfold frT at h
  unfold freeP
  rw [List.all_eq_false] at h ⊢
  obtain ⟨x, hx, hp⟩ := h
  exact ⟨x, by simp at hx ⊢; omega, hp⟩
theorem ok_all {bs : List Bx} (v : valP bs = 0) : ∀ (i : Nat) (h : i < bs.length), bs[i].ok = true := by
  unfold valP at v
  split at v
  · cases v
  · split at v
    · rename_i h; exact fun i hi => List.all_eq_true.mp h _ (List.getElem_mem hi)
    · cases v
/-- What the middle loop looks for. -/
def midI (z : Bool) (bs : List Bx) (o : List Nat) (j : Nat) (best : Int) : Prop :=
  (best = -1 ∧ (List.range j).find? (fun i => !tkOf o i && freeP bs o i) = none) ∨ ∃ b : Nat, best = b ∧ (List.range bs.length).find? (fun i => !tkOf o i && freeP bs o i) = some b
theorem rsort_ev (z : Bool) (bs : List Bx) (R : Option (AV × Heap × Nat) → Prop) (R1 : valP bs ≠ 0 → ∀ h c, R (some (.tup [.ro true [], B false, E (valP bs)], h, c)))
    (R2 : valP bs = 0 → ∀ h c outv, OutR 1 h c (srtP bs bs.length).1 outv → R (some (.tup [outv, B (srtP bs bs.length).2, E 0], h, c))) : R (run Try.prog (mdT tblV) 13 [ros z bs] Heap.none 0) := by
  rw [run_eq, show mdT tblV 13 = some .pure from rfl, Option.bind_some, Try.func13]
  by_cases v : valP bs = 0
  · have hn : bs.length ≤ 4000 := by
      unfold valP at v
      by_cases q : 4000 < bs.length
      · rw [if_pos q] at v; cases v
      · omega
    replace R2 := R2 v
    clear R1
    have r1 := room_ok hn
    have r2 : (bs.length : Int) * 8 ≤ (room : Int) ∧ (bs.length : Int) ≤ (room : Int) := by omega
    have r3 : (bs.length : Int) * 1 ≤ (room : Int) := by omega
    simp -implicitDefEqProofs [Try.f13, Option.bind_assoc, v, r1, r2, r3]
    refine loop_to (fun k s => ∃ r outv, k = bs.length - r ∧ r ≤ bs.length ∧ s.t 0 = ros z bs ∧ s.t 6 = .sl 0 1 0 bs.length ∧ s.t 7 = outv ∧ s.t 8 = B (srtP bs r).2 ∧ s.h 0 = some ⟨1, rowB bs.length (tkOf (srtP bs r).1)⟩ ∧ OutR 1 s.h s.c (srtP bs r).1 outv ∧ 1 ≤ s.c)
      (fun e s => ∃ outv, e = .exit 0 ∧ s.t 7 = outv ∧ s.t 8 = B (srtP bs bs.length).2 ∧ OutR 1 s.h s.c (srtP bs bs.length).1 outv) ?_ ?_ bs.length _ ⟨0, .ro true [], ?_⟩
    · rintro k ⟨t, h, c⟩ ⟨r, outv, hk, hr, t0, t6, t7, t8, h0, oo, hc⟩
      simp only at t0 t6 t7 t8 h0 oo hc
      have h0k := h0
      have hl0 := srt_len bs r
      by_cases g1 : r < bs.length
      · have r4 := room_ok (n := r + 1) (by omega)
        have r5 := room_ok (n := 1) (by omega)
        have n0 : ¬ c = 0 := by omega
        have m0 : ¬ 0 = c := by omega
        rcases oo with ⟨ho, rfl⟩ | ⟨l, hl1, hl2, rfl, hl⟩
        · have hr0 : r = 0 := by rw [ho] at hl0; exact hl0.symm
          have g1' : 0 < bs.length := by omega
          simp -implicitDefEqProofs [t0, t6, t7, t8, h0, g1, Option.bind_assoc , g1']
          refine loop_to (R := RoundTo _ _ k) (fun k s => ∃ (j : Nat) (best : Int), k = bs.length - j ∧ j ≤ bs.length ∧ s.t 0 = ros z bs ∧ s.t 6 = .sl 0 1 0 bs.length ∧ s.t 7 = .ro true [] ∧ s.t 8 = B (srtP bs r).2 ∧ s.t 9 = I (leastR (srtP bs r).1 j) ∧ s.t 10 = I best ∧ s.t 11 = I j ∧ midI z bs (srtP bs r).1 j best ∧ s.h = h ∧ s.c = c)
            (fun e s => ∃ best least : Int, e = .exit 2 ∧ s.t 0 = ros z bs ∧ s.t 6 = .sl 0 1 0 bs.length ∧ s.t 7 = .ro true [] ∧ s.t 8 = B (srtP bs r).2 ∧ s.t 9 = I least ∧ s.t 10 = I best ∧ s.h = h ∧ s.c = c ∧
              ((best = ((pickP bs (srtP bs r).1).1 : Nat) ∧ (pickP bs (srtP bs r).1).2 = true) ∨ (best = -1 ∧ least = ((pickP bs (srtP bs r).1).1 : Nat) ∧ (pickP bs (srtP bs r).1).2 = false))) ?_ ?_ bs.length _ ⟨0, -1, ?_⟩
          · clear h0
            rintro k ⟨t, h', c'⟩ ⟨j, best, hk, hj, t0, t6, t7, t8, t9, t10, t11, hm, hh, hc'⟩
            simp only at t0 t6 t7 t8 t9 t10 t11 hh hc'
            subst hh hc'
            have h0 := h0k
            by_cases g2 : j < bs.length
            · rcases hm with ⟨rfl, hf⟩ | ⟨b, rfl, hf⟩
              · cases g3 : tkOf (srtP bs r).1 j
                · have ef := leastR_f (srtP bs r).1 j g3
                  cases g4 : decide (leastR (srtP bs r).1 j < 0)
                  · rw [if_neg (by simpa using g4)] at ef
                    simp -implicitDefEqProofs [t0, t6, t7, t8, t9, t10, t11, h0, g2, g3, g4, Option.bind_assoc]
                    refine loop_to (R := RoundTo _ _ k) (fun k s => ∃ m : Nat, k = bs.length - m ∧ m ≤ bs.length ∧ s.t 0 = ros z bs ∧ s.t 6 = .sl 0 1 0 bs.length ∧ s.t 7 = .ro true [] ∧ s.t 8 = B (srtP bs r).2 ∧ s.t 9 = I (leastR (srtP bs r).1 (j + 1)) ∧ s.t 10 = I (-1) ∧ s.t 11 = I j ∧ s.t 12 = B (frT bs (srtP bs r).1 j m) ∧ s.t 13 = I m ∧ s.h = h' ∧ s.c = c')
                      (fun e s => e = .exit 4 ∧ s.t 0 = ros z bs ∧ s.t 6 = .sl 0 1 0 bs.length ∧ s.t 7 = .ro true [] ∧ s.t 8 = B (srtP bs r).2 ∧ s.t 9 = I (leastR (srtP bs r).1 (j + 1)) ∧ s.t 10 = I (-1) ∧ s.t 11 = I j ∧ s.t 12 = B (freeP bs (srtP bs r).1 j) ∧ s.h = h' ∧ s.c = c') ?_ ?_ bs.length _ ⟨0, ?_⟩
                    · clear t0 t6 t7 t8 t9 t10 t11
                      rintro k ⟨t, h2, c2⟩ ⟨m, hk, hm, t0, t6, t7, t8, t9, t10, t11, t12, t13, hh, hc'⟩
                      simp only at t0 t6 t7 t8 t9 t10 t11 t12 t13 hh hc'
                      subst hh hc'
                      cases q0 : frT bs (srtP bs r).1 j m
                      · rw [q0] at t12
                        have q1 := frT_false q0 hm
                        by_cases g5 : m < bs.length
                        · simp -implicitDefEqProofs [t0, t6, t7, t8, t9, t10, t11, t12, t13, h0, g5, q1, to_normal, to_exit, to_ret]
                        · simp -implicitDefEqProofs [t0, t6, t7, t8, t9, t10, t11, t12, t13, h0, g5, q1, to_normal, to_exit, to_ret]
                      · rw [q0] at t12
                        by_cases g5 : m < bs.length
                        · have fs := frT_succ bs (srtP bs r).1 j m
                          rw [q0, Bool.true_and] at fs
                          have b1 := beh_same bs[m] bs[j] (ok_all v m g5) (ok_all v j g2)
                          have b2 := beh_same bs[j] bs[m] (ok_all v j g2) (ok_all v m g5)
                          have fi := fstI_of (bs := bs) g5 g2
                          unfold fstP at fi
                          cases q2 : tkOf (srtP bs r).1 m
                          · by_cases q3 : m = j
                            · subst q3
                              rw [fi, q2] at fs
                              have fs' : frT bs (srtP bs r).1 m (m + 1) = true := by rw [fs]; cases behP bs[m] bs[m] <;> rfl
                              simp -implicitDefEqProofs [t0, t6, t7, t8, t9, t10, t11, t12, t13, h0, g5, q2, to_normal, to_exit, to_ret]
                              exact ⟨bs.length - (m + 1), by omega, m + 1, by omega, by omega, fs', wrap_succ (by omega)⟩
                            · have q3' : ((m : Int) == (j : Int)) = false := by simp; omega
                              rw [q2, fi] at fs
                              cases q4 : behP bs[m] bs[j]
                              · rw [q4] at fs b1
                                simp -implicitDefEqProofs [t0, t6, t7, t8, t9, t10, t11, t12, t13, h0, g5, g2, Bx.av, q2, q3', q4, b1, to_normal, to_exit, to_ret]
                                exact ⟨bs.length - (m + 1), by omega, m + 1, by omega, by omega, by rw [fs]; rfl, wrap_succ (by omega)⟩
                              · rw [q4] at fs b1
                                cases q5 : behP bs[j] bs[m]
                                · rw [q5] at fs b2
                                  simp -implicitDefEqProofs [t0, t6, t7, t8, t9, t10, t11, t12, t13, h0, g5, g2, Bx.av, q2, q3', q4, q5, b1, b2, to_normal, to_exit, to_ret]
                                  exact ⟨bs.length - (m + 1), by omega, m + 1, by omega, by omega, by rw [fs]; rfl, wrap_succ (by omega)⟩
                                · rw [q5] at fs b2
                                  simp -implicitDefEqProofs [t0, t6, t7, t8, t9, t10, t11, t12, t13, h0, g5, g2, Bx.av, q2, q3', q4, q5, b1, b2, to_normal, to_exit, to_ret]
                                  exact ⟨bs.length - (m + 1), by omega, m + 1, by omega, by omega, by rw [fs]; rfl, wrap_succ (by omega)⟩
                          · rw [q2] at fs
                            simp -implicitDefEqProofs [t0, t6, t7, t8, t9, t10, t11, t12, t13, h0, g5, q2, to_normal, to_exit, to_ret]
                            exact ⟨bs.length - (m + 1), by omega, m + 1, by omega, by omega, by rw [fs]; rfl, wrap_succ (by omega)⟩
                        · have hm2 : m = bs.length := by omega
                          subst hm2
                          have q1 : freeP bs (srtP bs r).1 j = true := q0
                          simp -implicitDefEqProofs [t0, t6, t7, t8, t9, t10, t11, t12, t13, h0, q1, to_normal, to_exit, to_ret]
                    · clear t0 t6 t7 t8 t9 t10 t11
                      rintro e ⟨t, h2, c2⟩ ⟨rfl, t0, t6, t7, t8, t9, t10, t11, t12, hh, hc'⟩
                      simp only at t0 t6 t7 t8 t9 t10 t11 t12 hh hc'
                      subst hh hc'
                      cases q0 : freeP bs (srtP bs r).1 j
                      · rw [q0] at t12
                        have hs := find_succ _ j hf
                        rw [if_neg (by simp [q0])] at hs
                        simp -implicitDefEqProofs [t0, t6, t7, t8, t9, t10, t11, t12, to_normal, to_exit, to_ret]
                        exact ⟨bs.length - (j + 1), by omega, j + 1, by omega, by omega, rfl, wrap_succ (by omega), .inl ⟨rfl, hs⟩⟩
                      · rw [q0] at t12
                        have hs := find_at _ hf g2 (by simp [q0, g3])
                        simp -implicitDefEqProofs [t0, t6, t7, t8, t9, t10, t11, t12, to_normal, to_exit, to_ret]
                        exact ⟨bs.length - (j + 1), by omega, j + 1, by omega, by omega, rfl, wrap_succ (by omega), .inr ⟨j, rfl, hs⟩⟩
                    · simp [t0, t6, t7, t8, t9, t10, t11, frT, ef]
                  · rw [if_pos (by simpa using g4)] at ef
                    simp -implicitDefEqProofs [t0, t6, t7, t8, t9, t10, t11, h0, g2, g3, g4, Option.bind_assoc]
                    refine loop_to (R := RoundTo _ _ k) (fun k s => ∃ m : Nat, k = bs.length - m ∧ m ≤ bs.length ∧ s.t 0 = ros z bs ∧ s.t 6 = .sl 0 1 0 bs.length ∧ s.t 7 = .ro true [] ∧ s.t 8 = B (srtP bs r).2 ∧ s.t 9 = I (leastR (srtP bs r).1 (j + 1)) ∧ s.t 10 = I (-1) ∧ s.t 11 = I j ∧ s.t 12 = B (frT bs (srtP bs r).1 j m) ∧ s.t 13 = I m ∧ s.h = h' ∧ s.c = c')
                      (fun e s => e = .exit 4 ∧ s.t 0 = ros z bs ∧ s.t 6 = .sl 0 1 0 bs.length ∧ s.t 7 = .ro true [] ∧ s.t 8 = B (srtP bs r).2 ∧ s.t 9 = I (leastR (srtP bs r).1 (j + 1)) ∧ s.t 10 = I (-1) ∧ s.t 11 = I j ∧ s.t 12 = B (freeP bs (srtP bs r).1 j) ∧ s.h = h' ∧ s.c = c') ?_ ?_ bs.length _ ⟨0, ?_⟩
                    · clear t0 t6 t7 t8 t9 t10 t11
                      rintro k ⟨t, h2, c2⟩ ⟨m, hk, hm, t0, t6, t7, t8, t9, t10, t11, t12, t13, hh, hc'⟩
                      simp only at t0 t6 t7 t8 t9 t10 t11 t12 t13 hh hc'
                      subst hh hc'
                      cases q0 : frT bs (srtP bs r).1 j m
                      · rw [q0] at t12
                        have q1 := frT_false q0 hm
                        by_cases g5 : m < bs.length
                        · simp -implicitDefEqProofs [t0, t6, t7, t8, t9, t10, t11, t12, t13, h0, g5, q1, to_normal, to_exit, to_ret]
                        · simp -implicitDefEqProofs [t0, t6, t7, t8, t9, t10, t11, t12, t13, h0, g5, q1, to_normal, to_exit, to_ret]
                      · rw [q0] at t12
                        by_cases g5 : m < bs.length
                        · have fs := frT_succ bs (srtP bs r).1 j m
                          rw [q0, Bool.true_and] at fs
                          have b1 := beh_same bs[m] bs[j] (ok_all v m g5) (ok_all v j g2)
                          have b2 := beh_same bs[j] bs[m] (ok_all v j g2) (ok_all v m g5)
                          have fi := fstI_of (bs := bs) g5 g2
                          unfold fstP at fi
                          cases q2 : tkOf (srtP bs r).1 m
                          · by_cases q3 : m = j
                            · subst q3
                              rw [fi, q2] at fs
                              have fs' : frT bs (srtP bs r).1 m (m + 1) = true := by rw [fs]; cases behP bs[m] bs[m] <;> rfl
                              simp -implicitDefEqProofs [t0, t6, t7, t8, t9, t10, t11, t12, t13, h0, g5, q2, to_normal, to_exit, to_ret]
                              exact ⟨bs.length - (m + 1), by omega, m + 1, by omega, by omega, fs', wrap_succ (by omega)⟩
                            · have q3' : ((m : Int) == (j : Int)) = false := by simp; omega
                              rw [q2, fi] at fs
                              cases q4 : behP bs[m] bs[j]
                              · rw [q4] at fs b1
                                simp -implicitDefEqProofs [t0, t6, t7, t8, t9, t10, t11, t12, t13, h0, g5, g2, Bx.av, q2, q3', q4, b1, to_normal, to_exit, to_ret]
                                exact ⟨bs.length - (m + 1), by omega, m + 1, by omega, by omega, by rw [fs]; rfl, wrap_succ (by omega)⟩
                              · rw [q4] at fs b1
                                cases q5 : behP bs[j] bs[m]
                                · rw [q5] at fs b2
                                  simp -implicitDefEqProofs [t0, t6, t7, t8, t9, t10, t11, t12, t13, h0, g5, g2, Bx.av, q2, q3', q4, q5, b1, b2, to_normal, to_exit, to_ret]
                                  exact ⟨bs.length - (m + 1), by omega, m + 1, by omega, by omega, by rw [fs]; rfl, wrap_succ (by omega)⟩
                                · rw [q5] at fs b2
                                  simp -implicitDefEqProofs [t0, t6, t7, t8, t9, t10, t11, t12, t13, h0, g5, g2, Bx.av, q2, q3', q4, q5, b1, b2, to_normal, to_exit, to_ret]
                                  exact ⟨bs.length - (m + 1), by omega, m + 1, by omega, by omega, by rw [fs]; rfl, wrap_succ (by omega)⟩
                          · rw [q2] at fs
                            simp -implicitDefEqProofs [t0, t6, t7, t8, t9, t10, t11, t12, t13, h0, g5, q2, to_normal, to_exit, to_ret]
                            exact ⟨bs.length - (m + 1), by omega, m + 1, by omega, by omega, by rw [fs]; rfl, wrap_succ (by omega)⟩
                        · have hm2 : m = bs.length := by omega
                          subst hm2
                          have q1 : freeP bs (srtP bs r).1 j = true := q0
                          simp -implicitDefEqProofs [t0, t6, t7, t8, t9, t10, t11, t12, t13, h0, q1, to_normal, to_exit, to_ret]
                    · clear t0 t6 t7 t8 t9 t10 t11
                      rintro e ⟨t, h2, c2⟩ ⟨rfl, t0, t6, t7, t8, t9, t10, t11, t12, hh, hc'⟩
                      simp only at t0 t6 t7 t8 t9 t10 t11 t12 hh hc'
                      subst hh hc'
                      cases q0 : freeP bs (srtP bs r).1 j
                      · rw [q0] at t12
                        have hs := find_succ _ j hf
                        rw [if_neg (by simp [q0])] at hs
                        simp -implicitDefEqProofs [t0, t6, t7, t8, t9, t10, t11, t12, to_normal, to_exit, to_ret]
                        exact ⟨bs.length - (j + 1), by omega, j + 1, by omega, by omega, rfl, wrap_succ (by omega), .inl ⟨rfl, hs⟩⟩
                      · rw [q0] at t12
                        have hs := find_at _ hf g2 (by simp [q0, g3])
                        simp -implicitDefEqProofs [t0, t6, t7, t8, t9, t10, t11, t12, to_normal, to_exit, to_ret]
                        exact ⟨bs.length - (j + 1), by omega, j + 1, by omega, by omega, rfl, wrap_succ (by omega), .inr ⟨j, rfl, hs⟩⟩
                    · simp [t0, t6, t7, t8, t9, t10, t11, frT, ef]
                · have ef := leastR_t (srtP bs r).1 j g3
                  have hs := find_succ _ j hf
                  rw [if_neg (by simp [g3])] at hs
                  simp -implicitDefEqProofs [t0, t6, t7, t8, t9, t10, t11, h0, g2, g3, to_normal, to_exit, to_ret]
                  exact ⟨bs.length - (j + 1), by omega, j + 1, by omega, by omega, ef.symm, wrap_succ (by omega), .inl ⟨rfl, hs⟩⟩
              · have hb0 : decide ((b : Int) < 0) = false := decide_eq_false (by omega)
                have hb1 : (pickP bs (srtP bs r).1) = (b, true) := by unfold pickP; rw [hf]
                simp -implicitDefEqProofs [t0, t6, t7, t8, t9, t10, t11, h0, g2, hb0, hb1, -decide_eq_true_eq, -decide_eq_false_iff_not, to_normal, to_exit, to_ret]
            · have hj2 : j = bs.length := by omega
              subst hj2
              have hq : (((best = ((pickP bs (srtP bs r).1).1 : Nat) ∧ (pickP bs (srtP bs r).1).2 = true) ∨ (best = -1 ∧ leastR (srtP bs r).1 bs.length = ((pickP bs (srtP bs r).1).1 : Nat) ∧ (pickP bs (srtP bs r).1).2 = false))) := by
                rcases hm with ⟨rfl, hf⟩ | ⟨b, rfl, hf⟩
                · obtain ⟨i, hi⟩ := left_one (bs := bs) (o := (srtP bs r).1) (by omega)
                  refine .inr ⟨rfl, ?_, ?_⟩
                  · unfold leastR pickP; rw [hf, hi]
                  · unfold pickP; rw [hf, hi]
                · refine .inl ⟨?_, ?_⟩
                  · unfold pickP; rw [hf]
                  · unfold pickP; rw [hf]
              simp -implicitDefEqProofs [t0, t6, t7, t8, t9, t10, t11, h0, to_normal, to_exit, to_ret]
              exact hq
          · clear t0 t6 t7 t8
            rintro e ⟨t, h', c'⟩ ⟨best, least, rfl, t0, t6, t7, t8, t9, t10, hh, hc', hb⟩
            simp only at t0 t6 t7 t8 t9 t10 hh hc'
            subst hh hc'
            have hp := pick_ok (bs := bs) (o := (srtP bs r).1) (by omega)
            rcases hb with ⟨rfl, hb⟩ | ⟨rfl, rfl, hb⟩
            · have hb0 : decide ((((pickP bs (srtP bs r).1).1 : Nat) : Int) < 0) = false := decide_eq_false (by omega)
              simp -implicitDefEqProofs [t0, t6, t7, t8, t9, t10, h0, hp.1, hb0, r1, r2, r4, r5, n0, m0, to_normal, to_exit, to_ret]
              exact ⟨bs.length - (r + 1), by omega, r + 1, by omega, by omega, by simp [srtP, hb], tk_set bs.length _ _ _ rfl, .inr ⟨c' + 1, by omega, by omega, by rw [srt_len, hr0], by simp [put_get, srtP, ho]⟩⟩
            · simp -implicitDefEqProofs [t0, t6, t7, t8, t9, t10, h0, hp.1, r1, r2, r4, r5, n0, m0, to_normal, to_exit, to_ret]
              exact ⟨bs.length - (r + 1), by omega, r + 1, by omega, by omega, by simp [srtP, hb], tk_set bs.length _ _ _ rfl, .inr ⟨c' + 1, by omega, by omega, by rw [srt_len, hr0], by simp [put_get, srtP, ho]⟩⟩
          · exact ⟨by omega, by omega, by simp [t0], by simp [t6], by simp [t7], by simp [t8], by simp [leastR], by simp, by simp, .inl ⟨rfl, rfl⟩, by simp, by simp⟩
        · have l0 : ¬ l = 0 := by omega
          have k0 : ¬ 0 = l := by omega
          have l1 : ¬ c = l := by omega
          have k1 : ¬ l = c := by omega
          simp -implicitDefEqProofs [t0, t6, t7, t8, h0, g1, Option.bind_assoc , hl0, hl]
          refine loop_to (R := RoundTo _ _ k) (fun k s => ∃ (j : Nat) (best : Int), k = bs.length - j ∧ j ≤ bs.length ∧ s.t 0 = ros z bs ∧ s.t 6 = .sl 0 1 0 bs.length ∧ s.t 7 = .sl l 1 0 (srtP bs r).1.length ∧ s.t 8 = B (srtP bs r).2 ∧ s.t 9 = I (leastR (srtP bs r).1 j) ∧ s.t 10 = I best ∧ s.t 11 = I j ∧ midI z bs (srtP bs r).1 j best ∧ s.h = h ∧ s.c = c)
            (fun e s => ∃ best least : Int, e = .exit 2 ∧ s.t 0 = ros z bs ∧ s.t 6 = .sl 0 1 0 bs.length ∧ s.t 7 = .sl l 1 0 (srtP bs r).1.length ∧ s.t 8 = B (srtP bs r).2 ∧ s.t 9 = I least ∧ s.t 10 = I best ∧ s.h = h ∧ s.c = c ∧
              ((best = ((pickP bs (srtP bs r).1).1 : Nat) ∧ (pickP bs (srtP bs r).1).2 = true) ∨ (best = -1 ∧ least = ((pickP bs (srtP bs r).1).1 : Nat) ∧ (pickP bs (srtP bs r).1).2 = false))) ?_ ?_ bs.length _ ⟨0, -1, ?_⟩
          · clear h0
            rintro k ⟨t, h', c'⟩ ⟨j, best, hk, hj, t0, t6, t7, t8, t9, t10, t11, hm, hh, hc'⟩
            simp only at t0 t6 t7 t8 t9 t10 t11 hh hc'
            subst hh hc'
            have h0 := h0k
            by_cases g2 : j < bs.length
            · rcases hm with ⟨rfl, hf⟩ | ⟨b, rfl, hf⟩
              · cases g3 : tkOf (srtP bs r).1 j
                · have ef := leastR_f (srtP bs r).1 j g3
                  cases g4 : decide (leastR (srtP bs r).1 j < 0)
                  · rw [if_neg (by simpa using g4)] at ef
                    simp -implicitDefEqProofs [t0, t6, t7, t8, t9, t10, t11, h0, g2, g3, g4, Option.bind_assoc]
                    refine loop_to (R := RoundTo _ _ k) (fun k s => ∃ m : Nat, k = bs.length - m ∧ m ≤ bs.length ∧ s.t 0 = ros z bs ∧ s.t 6 = .sl 0 1 0 bs.length ∧ s.t 7 = .sl l 1 0 (srtP bs r).1.length ∧ s.t 8 = B (srtP bs r).2 ∧ s.t 9 = I (leastR (srtP bs r).1 (j + 1)) ∧ s.t 10 = I (-1) ∧ s.t 11 = I j ∧ s.t 12 = B (frT bs (srtP bs r).1 j m) ∧ s.t 13 = I m ∧ s.h = h' ∧ s.c = c')
                      (fun e s => e = .exit 4 ∧ s.t 0 = ros z bs ∧ s.t 6 = .sl 0 1 0 bs.length ∧ s.t 7 = .sl l 1 0 (srtP bs r).1.length ∧ s.t 8 = B (srtP bs r).2 ∧ s.t 9 = I (leastR (srtP bs r).1 (j + 1)) ∧ s.t 10 = I (-1) ∧ s.t 11 = I j ∧ s.t 12 = B (freeP bs (srtP bs r).1 j) ∧ s.h = h' ∧ s.c = c') ?_ ?_ bs.length _ ⟨0, ?_⟩
                    · clear t0 t6 t7 t8 t9 t10 t11
                      rintro k ⟨t, h2, c2⟩ ⟨m, hk, hm, t0, t6, t7, t8, t9, t10, t11, t12, t13, hh, hc'⟩
                      simp only at t0 t6 t7 t8 t9 t10 t11 t12 t13 hh hc'
                      subst hh hc'
                      cases q0 : frT bs (srtP bs r).1 j m
                      · rw [q0] at t12
                        have q1 := frT_false q0 hm
                        by_cases g5 : m < bs.length
                        · simp -implicitDefEqProofs [t0, t6, t7, t8, t9, t10, t11, t12, t13, h0, g5, q1, to_normal, to_exit, to_ret]
                        · simp -implicitDefEqProofs [t0, t6, t7, t8, t9, t10, t11, t12, t13, h0, g5, q1, to_normal, to_exit, to_ret]
                      · rw [q0] at t12
                        by_cases g5 : m < bs.length
                        · have fs := frT_succ bs (srtP bs r).1 j m
                          rw [q0, Bool.true_and] at fs
                          have b1 := beh_same bs[m] bs[j] (ok_all v m g5) (ok_all v j g2)
                          have b2 := beh_same bs[j] bs[m] (ok_all v j g2) (ok_all v m g5)
                          have fi := fstI_of (bs := bs) g5 g2
                          unfold fstP at fi
                          cases q2 : tkOf (srtP bs r).1 m
                          · by_cases q3 : m = j
                            · subst q3
                              rw [fi, q2] at fs
                              have fs' : frT bs (srtP bs r).1 m (m + 1) = true := by rw [fs]; cases behP bs[m] bs[m] <;> rfl
                              simp -implicitDefEqProofs [t0, t6, t7, t8, t9, t10, t11, t12, t13, h0, g5, q2, to_normal, to_exit, to_ret]
                              exact ⟨bs.length - (m + 1), by omega, m + 1, by omega, by omega, fs', wrap_succ (by omega)⟩
                            · have q3' : ((m : Int) == (j : Int)) = false := by simp; omega
                              rw [q2, fi] at fs
                              cases q4 : behP bs[m] bs[j]
                              · rw [q4] at fs b1
                                simp -implicitDefEqProofs [t0, t6, t7, t8, t9, t10, t11, t12, t13, h0, g5, g2, Bx.av, q2, q3', q4, b1, to_normal, to_exit, to_ret]
                                exact ⟨bs.length - (m + 1), by omega, m + 1, by omega, by omega, by rw [fs]; rfl, wrap_succ (by omega)⟩
                              · rw [q4] at fs b1
                                cases q5 : behP bs[j] bs[m]
                                · rw [q5] at fs b2
                                  simp -implicitDefEqProofs [t0, t6, t7, t8, t9, t10, t11, t12, t13, h0, g5, g2, Bx.av, q2, q3', q4, q5, b1, b2, to_normal, to_exit, to_ret]
                                  exact ⟨bs.length - (m + 1), by omega, m + 1, by omega, by omega, by rw [fs]; rfl, wrap_succ (by omega)⟩
                                · rw [q5] at fs b2
                                  simp -implicitDefEqProofs [t0, t6, t7, t8, t9, t10, t11, t12, t13, h0, g5, g2, Bx.av, q2, q3', q4, q5, b1, b2, to_normal, to_exit, to_ret]
                                  exact ⟨bs.length - (m + 1), by omega, m + 1, by omega, by omega, by rw [fs]; rfl, wrap_succ (by omega)⟩
                          · rw [q2] at fs
                            simp -implicitDefEqProofs [t0, t6, t7, t8, t9, t10, t11, t12, t13, h0, g5, q2, to_normal, to_exit, to_ret]
                            exact ⟨bs.length - (m + 1), by omega, m + 1, by omega, by omega, by rw [fs]; rfl, wrap_succ (by omega)⟩
                        · have hm2 : m = bs.length := by omega
                          subst hm2
                          have q1 : freeP bs (srtP bs r).1 j = true := q0
                          simp -implicitDefEqProofs [t0, t6, t7, t8, t9, t10, t11, t12, t13, h0, q1, to_normal, to_exit, to_ret]
                    · clear t0 t6 t7 t8 t9 t10 t11
                      rintro e ⟨t, h2, c2⟩ ⟨rfl, t0, t6, t7, t8, t9, t10, t11, t12, hh, hc'⟩
                      simp only at t0 t6 t7 t8 t9 t10 t11 t12 hh hc'
                      subst hh hc'
                      cases q0 : freeP bs (srtP bs r).1 j
                      · rw [q0] at t12
                        have hs := find_succ _ j hf
                        rw [if_neg (by simp [q0])] at hs
                        simp -implicitDefEqProofs [t0, t6, t7, t8, t9, t10, t11, t12, to_normal, to_exit, to_ret]
                        exact ⟨bs.length - (j + 1), by omega, j + 1, by omega, by omega, rfl, wrap_succ (by omega), .inl ⟨rfl, hs⟩⟩
                      · rw [q0] at t12
                        have hs := find_at _ hf g2 (by simp [q0, g3])
                        simp -implicitDefEqProofs [t0, t6, t7, t8, t9, t10, t11, t12, to_normal, to_exit, to_ret]
                        exact ⟨bs.length - (j + 1), by omega, j + 1, by omega, by omega, rfl, wrap_succ (by omega), .inr ⟨j, rfl, hs⟩⟩
                    · simp [t0, t6, t7, t8, t9, t10, t11, frT, ef]
                  · rw [if_pos (by simpa using g4)] at ef
                    simp -implicitDefEqProofs [t0, t6, t7, t8, t9, t10, t11, h0, g2, g3, g4, Option.bind_assoc]
                    refine loop_to (R := RoundTo _ _ k) (fun k s => ∃ m : Nat, k = bs.length - m ∧ m ≤ bs.length ∧ s.t 0 = ros z bs ∧ s.t 6 = .sl 0 1 0 bs.length ∧ s.t 7 = .sl l 1 0 (srtP bs r).1.length ∧ s.t 8 = B (srtP bs r).2 ∧ s.t 9 = I (leastR (srtP bs r).1 (j + 1)) ∧ s.t 10 = I (-1) ∧ s.t 11 = I j ∧ s.t 12 = B (frT bs (srtP bs r).1 j m) ∧ s.t 13 = I m ∧ s.h = h' ∧ s.c = c')
                      (fun e s => e = .exit 4 ∧ s.t 0 = ros z bs ∧ s.t 6 = .sl 0 1 0 bs.length ∧ s.t 7 = .sl l 1 0 (srtP bs r).1.length ∧ s.t 8 = B (srtP bs r).2 ∧ s.t 9 = I (leastR (srtP bs r).1 (j + 1)) ∧ s.t 10 = I (-1) ∧ s.t 11 = I j ∧ s.t 12 = B (freeP bs (srtP bs r).1 j) ∧ s.h = h' ∧ s.c = c') ?_ ?_ bs.length _ ⟨0, ?_⟩
                    · clear t0 t6 t7 t8 t9 t10 t11
                      rintro k ⟨t, h2, c2⟩ ⟨m, hk, hm, t0, t6, t7, t8, t9, t10, t11, t12, t13, hh, hc'⟩
                      simp only at t0 t6 t7 t8 t9 t10 t11 t12 t13 hh hc'
                      subst hh hc'
                      cases q0 : frT bs (srtP bs r).1 j m
                      · rw [q0] at t12
                        have q1 := frT_false q0 hm
                        by_cases g5 : m < bs.length
                        · simp -implicitDefEqProofs [t0, t6, t7, t8, t9, t10, t11, t12, t13, h0, g5, q1, to_normal, to_exit, to_ret]
                        · simp -implicitDefEqProofs [t0, t6, t7, t8, t9, t10, t11, t12, t13, h0, g5, q1, to_normal, to_exit, to_ret]
                      · rw [q0] at t12
                        by_cases g5 : m < bs.length
                        · have fs := frT_succ bs (srtP bs r).1 j m
                          rw [q0, Bool.true_and] at fs
                          have b1 := beh_same bs[m] bs[j] (ok_all v m g5) (ok_all v j g2)
                          have b2 := beh_same bs[j] bs[m] (ok_all v j g2) (ok_all v m g5)
                          have fi := fstI_of (bs := bs) g5 g2
                          unfold fstP at fi
                          cases q2 : tkOf (srtP bs r).1 m
                          · by_cases q3 : m = j
                            · subst q3
                              rw [fi, q2] at fs
                              have fs' : frT bs (srtP bs r).1 m (m + 1) = true := by rw [fs]; cases behP bs[m] bs[m] <;> rfl
                              simp -implicitDefEqProofs [t0, t6, t7, t8, t9, t10, t11, t12, t13, h0, g5, q2, to_normal, to_exit, to_ret]
                              exact ⟨bs.length - (m + 1), by omega, m + 1, by omega, by omega, fs', wrap_succ (by omega)⟩
                            · have q3' : ((m : Int) == (j : Int)) = false := by simp; omega
                              rw [q2, fi] at fs
                              cases q4 : behP bs[m] bs[j]
                              · rw [q4] at fs b1
                                simp -implicitDefEqProofs [t0, t6, t7, t8, t9, t10, t11, t12, t13, h0, g5, g2, Bx.av, q2, q3', q4, b1, to_normal, to_exit, to_ret]
                                exact ⟨bs.length - (m + 1), by omega, m + 1, by omega, by omega, by rw [fs]; rfl, wrap_succ (by omega)⟩
                              · rw [q4] at fs b1
                                cases q5 : behP bs[j] bs[m]
                                · rw [q5] at fs b2
                                  simp -implicitDefEqProofs [t0, t6, t7, t8, t9, t10, t11, t12, t13, h0, g5, g2, Bx.av, q2, q3', q4, q5, b1, b2, to_normal, to_exit, to_ret]
                                  exact ⟨bs.length - (m + 1), by omega, m + 1, by omega, by omega, by rw [fs]; rfl, wrap_succ (by omega)⟩
                                · rw [q5] at fs b2
                                  simp -implicitDefEqProofs [t0, t6, t7, t8, t9, t10, t11, t12, t13, h0, g5, g2, Bx.av, q2, q3', q4, q5, b1, b2, to_normal, to_exit, to_ret]
                                  exact ⟨bs.length - (m + 1), by omega, m + 1, by omega, by omega, by rw [fs]; rfl, wrap_succ (by omega)⟩
                          · rw [q2] at fs
                            simp -implicitDefEqProofs [t0, t6, t7, t8, t9, t10, t11, t12, t13, h0, g5, q2, to_normal, to_exit, to_ret]
                            exact ⟨bs.length - (m + 1), by omega, m + 1, by omega, by omega, by rw [fs]; rfl, wrap_succ (by omega)⟩
                        · have hm2 : m = bs.length := by omega
                          subst hm2
                          have q1 : freeP bs (srtP bs r).1 j = true := q0
                          simp -implicitDefEqProofs [t0, t6, t7, t8, t9, t10, t11, t12, t13, h0, q1, to_normal, to_exit, to_ret]
                    · clear t0 t6 t7 t8 t9 t10 t11
                      rintro e ⟨t, h2, c2⟩ ⟨rfl, t0, t6, t7, t8, t9, t10, t11, t12, hh, hc'⟩
                      simp only at t0 t6 t7 t8 t9 t10 t11 t12 hh hc'
                      subst hh hc'
                      cases q0 : freeP bs (srtP bs r).1 j
                      · rw [q0] at t12
                        have hs := find_succ _ j hf
                        rw [if_neg (by simp [q0])] at hs
                        simp -implicitDefEqProofs [t0, t6, t7, t8, t9, t10, t11, t12, to_normal, to_exit, to_ret]
                        exact ⟨bs.length - (j + 1), by omega, j + 1, by omega, by omega, rfl, wrap_succ (by omega), .inl ⟨rfl, hs⟩⟩
                      · rw [q0] at t12
                        have hs := find_at _ hf g2 (by simp [q0, g3])
                        simp -implicitDefEqProofs [t0, t6, t7, t8, t9, t10, t11, t12, to_normal, to_exit, to_ret]
                        exact ⟨bs.length - (j + 1), by omega, j + 1, by omega, by omega, rfl, wrap_succ (by omega), .inr ⟨j, rfl, hs⟩⟩
                    · simp [t0, t6, t7, t8, t9, t10, t11, frT, ef]
                · have ef := leastR_t (srtP bs r).1 j g3
                  have hs := find_succ _ j hf
                  rw [if_neg (by simp [g3])] at hs
                  simp -implicitDefEqProofs [t0, t6, t7, t8, t9, t10, t11, h0, g2, g3, to_normal, to_exit, to_ret]
                  exact ⟨bs.length - (j + 1), by omega, j + 1, by omega, by omega, ef.symm, wrap_succ (by omega), .inl ⟨rfl, hs⟩⟩
              · have hb0 : decide ((b : Int) < 0) = false := decide_eq_false (by omega)
                have hb1 : (pickP bs (srtP bs r).1) = (b, true) := by unfold pickP; rw [hf]
                simp -implicitDefEqProofs [t0, t6, t7, t8, t9, t10, t11, h0, g2, hb0, hb1, -decide_eq_true_eq, -decide_eq_false_iff_not, to_normal, to_exit, to_ret]
            · have hj2 : j = bs.length := by omega
              subst hj2
              have hq : (((best = ((pickP bs (srtP bs r).1).1 : Nat) ∧ (pickP bs (srtP bs r).1).2 = true) ∨ (best = -1 ∧ leastR (srtP bs r).1 bs.length = ((pickP bs (srtP bs r).1).1 : Nat) ∧ (pickP bs (srtP bs r).1).2 = false))) := by
                rcases hm with ⟨rfl, hf⟩ | ⟨b, rfl, hf⟩
                · obtain ⟨i, hi⟩ := left_one (bs := bs) (o := (srtP bs r).1) (by omega)
                  refine .inr ⟨rfl, ?_, ?_⟩
                  · unfold leastR pickP; rw [hf, hi]
                  · unfold pickP; rw [hf, hi]
                · refine .inl ⟨?_, ?_⟩
                  · unfold pickP; rw [hf]
                  · unfold pickP; rw [hf]
              simp -implicitDefEqProofs [t0, t6, t7, t8, t9, t10, t11, h0, to_normal, to_exit, to_ret]
              exact hq
          · clear t0 t6 t7 t8
            rintro e ⟨t, h', c'⟩ ⟨best, least, rfl, t0, t6, t7, t8, t9, t10, hh, hc', hb⟩
            simp only at t0 t6 t7 t8 t9 t10 hh hc'
            subst hh hc'
            have hp := pick_ok (bs := bs) (o := (srtP bs r).1) (by omega)
            rcases hb with ⟨rfl, hb⟩ | ⟨rfl, rfl, hb⟩
            · have hb0 : decide ((((pickP bs (srtP bs r).1).1 : Nat) : Int) < 0) = false := decide_eq_false (by omega)
              simp -implicitDefEqProofs [t0, t6, t7, t8, t9, t10, h0, hp.1, hb0, r1, r2, r4, r5, n0, m0, l0, k0, l1, k1, hl0, hl, to_normal, to_exit, to_ret]
              exact ⟨bs.length - (r + 1), by omega, r + 1, by omega, by omega, by simp [srtP, hb], tk_set bs.length _ _ _ rfl, .inr ⟨c' + 1, by omega, by omega, by rw [srt_len], by simp [put_get, srtP, hl0, List.take_of_length_le]⟩⟩
            · simp -implicitDefEqProofs [t0, t6, t7, t8, t9, t10, h0, hp.1, r1, r2, r4, r5, n0, m0, l0, k0, l1, k1, hl0, hl, to_normal, to_exit, to_ret]
              exact ⟨bs.length - (r + 1), by omega, r + 1, by omega, by omega, by simp [srtP, hb], tk_set bs.length _ _ _ rfl, .inr ⟨c' + 1, by omega, by omega, by rw [srt_len], by simp [put_get, srtP, hl0, List.take_of_length_le]⟩⟩
          · exact ⟨by omega, by omega, by simp [t0], by simp [t6], by simp [t7], by simp [t8], by simp [leastR], by simp, by simp, .inl ⟨rfl, rfl⟩, by simp, by simp⟩
      · have hr2 : r = bs.length := by omega
        subst hr2
        rcases oo with ⟨ho, rfl⟩ | ⟨l, hl1, hl2, rfl, hl⟩
        · have hb0 : bs.length = 0 := by rw [← hl0, ho]; rfl
          simp -implicitDefEqProofs [t0, t6, t7, t8, hb0, to_normal, to_exit, to_ret]
          rw [hb0] at ho
          exact .inl ⟨ho, rfl⟩
        · simp -implicitDefEqProofs [t0, t6, t7, t8, hl0, to_normal, to_exit, to_ret]
          exact .inr ⟨l, hl1, hl2, by rw [hl0], hl⟩
    · rintro e ⟨t, h, c⟩ ⟨outv, rfl, t7, t8, oo⟩
      simp only at t7 t8 oo
      simp -implicitDefEqProofs [t7, t8]
      exact R2 _ _ _ oo
    · refine ⟨by omega, by omega, by simp, by simp, by simp, by simp [srtP], ?_, .inl ⟨rfl, rfl⟩, by simp⟩
      simp [put_get, srtP, tk_start]
  · have v' : (valP bs == 0) = false := by simpa using v
    have v'' : (valP bs != 0) = true := by simpa using v
    simp -implicitDefEqProofs [Try.f13, Option.bind_assoc, v, v', v'']
    exact R1 v _ _
end Go.Proofs.Ytkdmhlmaeccekaa.AM
