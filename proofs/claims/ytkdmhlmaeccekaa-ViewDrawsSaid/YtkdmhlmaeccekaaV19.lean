/- Texts of the proof: part V19. -/
import Derived.Test.YtkdmhlmaeccekaaV18
set_option maxHeartbeats 0
set_option linter.unusedSimpArgs false
namespace Go.Proofs.Ytkdmhlmaeccekaa.AM
open Go Go.Proofs
attribute [local simp] AV.cells okc AV.isBad fieldAddrA ld setCells stA skipV appendA hd makeA bnd sliceA kindA freshA lay_get allocA buildA buildRow builtinA lenA els indexAddrA isNil opA evA lit yldA binA binI unA pickA boolV intV fieldA mk flat lf lf.lfs frz
abbrev pk (bs : List Bx) (r : Nat) : Nat := (pickP bs (srtP bs r).1).1
theorem srt_take (bs : List Bx) (r : Nat) : ∀ m, r ≤ m → (srtP bs m).1.take r = (srtP bs r).1
  | 0, h => by
    have : r = 0 := by omega
    subst this; rfl
  | m + 1, h => by
    by_cases e : r = m + 1
    · subst e; rw [List.take_of_length_le (by rw [srt_len]; omega)]
    · show ((srtP bs m).1 ++ [pk bs m]).take r = _
      rw [List.take_append_of_le_length (by rw [srt_len]; omega)]
      exact srt_take bs r m (by omega)
theorem srt_get (bs : List Bx) {r m : Nat} (h : r < m) : (srtP bs m).1[r]? = some (pk bs r) := by
  have e := srt_take bs (r + 1) m (by omega)
  have e2 : ((srtP bs m).1.take (r + 1))[r]? = (srtP bs m).1[r]? := by rw [List.getElem?_take_of_lt (by omega)]
  rw [← e2, e]
  show ((srtP bs r).1 ++ [pk bs r])[r]? = _
  rw [List.getElem?_append_right (by rw [srt_len]; omega), srt_len]
  simp
theorem pk_ok {bs : List Bx} {r : Nat} (h : r < bs.length) : pk bs r < bs.length ∧ tkOf (srtP bs r).1 (pk bs r) = false :=
  pick_ok (by rw [srt_len]; exact h)
theorem srt_sub (bs : List Bx) {i j : Nat} (h : i ≤ j) (x : Nat) (hx : tkOf (srtP bs j).1 x = false) : tkOf (srtP bs i).1 x = false := by
  rw [← srt_take bs i j h]
  simp only [tkOf, List.contains_eq_mem, decide_eq_false_iff_not] at hx ⊢
  exact fun k => hx (List.mem_of_mem_take k)
theorem srt_clean (bs : List Bx) : ∀ m i, i < m → (srtP bs m).2 = true → (pickP bs (srtP bs i).1).2 = true
  | 0, i, h, _ => by omega
  | m + 1, i, h, c => by
    simp only [srtP, Bool.and_eq_true] at c
    by_cases e : i = m
    · subst e; exact c.2
    · exact srt_clean bs m i (by omega) c.1
theorem pick_free {bs : List Bx} {o : List Nat} (h : (pickP bs o).2 = true) : freeP bs o (pickP bs o).1 = true := by
  unfold pickP at h ⊢
  cases e : (List.range bs.length).find? (fun i => !tkOf o i && freeP bs o i) with
  | some i =>
    have := List.find?_some e
    simp at this
    exact this.2
  | none =>
    rw [e] at h
    simp only at h
    cases e2 : (List.range bs.length).find? (fun i => !tkOf o i) with
    | some i => rw [e2] at h; cases h
    | none => rw [e2] at h; cases h
theorem clean_pair {bs : List Bx} {i j : Nat} (hc : (srtP bs bs.length).2 = true) (hij : i < j) (hj : j < bs.length) : fstI bs (pk bs j) (pk bs i) = false := by
  have h1 := pick_free (srt_clean bs _ i (by omega) hc)
  have h2 := pk_ok (bs := bs) hj
  have h3 := srt_sub bs (Nat.le_of_lt hij) _ h2.2
  unfold freeP at h1
  have h4 := List.all_eq_true.mp h1 (pk bs j) (by simpa using h2.1)
  rw [h3] at h4
  simpa using h4
theorem law6 (z : Bool) (bs : List Bx) : ∃ hp c, run Try.prog (mdT tblV) 6 [ros z bs] Heap.none 0 = some (B true, hp, c) := by
  rw [run_eq, show mdT tblV 6 = some .pure from rfl, Option.bind_some, Try.func6]
  by_cases g1 : 400 < bs.length
  · have k1 : decide (400 < (bs.length : Int)) = true := decide_eq_true (by omega)
    simp -implicitDefEqProofs [Try.f6, g1, k1, -decide_eq_true_eq, -decide_eq_false_iff_not]
  have k1 : decide (400 < (bs.length : Int)) = false := decide_eq_false (by omega)
  obtain ⟨z1, e1⟩ := vsort_c z bs
  by_cases v : valP bs = 0
  · have q1 : sortT z1 bs = .tup [roi z1 ((srtP bs bs.length).1.map fun (i : Nat) => (i : Int)), B (srtP bs bs.length).2, E 0] := by unfold sortT; rw [if_pos v]
    obtain ⟨os, hos⟩ : ∃ os : List Int, os = (srtP bs bs.length).1.map fun (i : Nat) => (i : Int) := ⟨_, rfl⟩
    have ol : os.length = bs.length := by rw [hos, List.length_map, srt_len]
    have og : ∀ (r : Nat) (h : r < os.length), os[r] = (pk bs r : Int) := by
      intro r h
      have : os[r]? = some (pk bs r : Int) := by rw [hos, List.getElem?_map, srt_get bs (by omega)]; rfl
      rw [List.getElem?_eq_getElem h] at this
      exact Option.some.inj this
    rw [← hos] at q1
    clear hos
    obtain ⟨cl, hcl⟩ : ∃ cl, cl = (srtP bs bs.length).2 := ⟨_, rfl⟩
    rw [← hcl] at q1
    have r1 := room_ok (n := bs.length) (by omega)
    have r2 : (bs.length : Int) * 8 ≤ (room : Int) ∧ (bs.length : Int) ≤ (room : Int) := by omega
    have r3 : (bs.length : Int) * 1 ≤ (room : Int) := by omega
    simp -implicitDefEqProofs [Try.f6, g1, k1, e1, q1, r1, r2, r3, Option.bind_assoc, -decide_eq_true_eq, -decide_eq_false_iff_not]
    refine loop_to (R := fun o => ∃ hp c, o = some (B true, hp, c)) (fun k s => ∃ j : Nat, k = bs.length - j ∧ j ≤ bs.length ∧ s.t 0 = ros z bs ∧ s.t 3 = roi z1 os ∧ s.t 4 = B cl ∧ s.t 6 = .sl 0 1 0 bs.length ∧ s.t 7 = I j ∧ s.h 0 = some ⟨1, rowB bs.length (tkOf (srtP bs j).1)⟩)
      (fun e s => e = .exit 0 ∧ s.t 0 = ros z bs ∧ s.t 3 = roi z1 os ∧ s.t 4 = B cl) ?_ ?_ bs.length _ ⟨0, ?_⟩
    · rintro k ⟨t, h, c⟩ ⟨j, hk, hj, t0, t3, t4, t6, t7, h0⟩
      simp only at t0 t3 t4 t6 t7 h0
      by_cases g2 : j < bs.length
      · have g3 : j < os.length := by omega
        have o1 := og j g3
        have hp := pk_ok (bs := bs) g2
        have b1 : decide ((pk bs j : Int) < 0) = false := decide_eq_false (by omega)
        have b2 : decide ((bs.length : Int) ≤ (pk bs j : Int)) = false := decide_eq_false (by omega)
        have b3 : ¬ bs.length ≤ pk bs j := by omega
        have ts := tk_set bs.length (srtP bs j).1 (srtP bs (j + 1)).1 (pk bs j) rfl
        generalize pk bs j = p at o1 hp b1 b2 b3 ts
        simp -implicitDefEqProofs [t0, t3, t4, t6, t7, h0, g2, g3, o1, ol, hp.1, hp.2, b1, b2, b3, -decide_eq_true_eq, -decide_eq_false_iff_not, to_normal, to_exit, to_ret]
        exact ⟨bs.length - (j + 1), by omega, j + 1, by omega, by omega, wrap_succ (by omega), ts⟩
      · simp -implicitDefEqProofs [t0, t3, t4, t6, t7, h0, g2, ol, to_normal, to_exit, to_ret]
    · rintro e ⟨t, h, c⟩ ⟨rfl, t0, t3, t4⟩
      simp only at t0 t3 t4
      simp -implicitDefEqProofs [t0, t3, t4, Option.bind_assoc]
      refine loop_to (R := fun o => ∃ hp c, o = some (B true, hp, c)) (fun k s => ∃ i : Nat, k = bs.length - i ∧ i ≤ bs.length ∧ s.t 0 = ros z bs ∧ s.t 3 = roi z1 os ∧ s.t 4 = B cl ∧ s.t 8 = I i)
        (fun e s => e = .exit 2 ∧ s.t 0 = ros z bs ∧ s.t 3 = roi z1 os) ?_ ?_ bs.length _ ⟨0, ?_⟩
      · clear t0 t3 t4
        rintro k ⟨t, h, c⟩ ⟨i, hk, hi, t0, t3, t4, t8⟩
        simp only at t0 t3 t4 t8
        by_cases g2 : i < bs.length
        · cases hc : cl
          · rw [hc] at t4
            simp -implicitDefEqProofs [t0, t3, t4, t8, g2, ol, to_normal, to_exit, to_ret]
          · rw [hc] at t4 hcl
            have gi : i < os.length := by omega
            have oi := og i gi
            have hpi := pk_ok (bs := bs) g2
            have oki := ok_all v _ hpi.1
            simp -implicitDefEqProofs [t0, t3, t4, t8, g2, ol, Option.bind_assoc]
            refine loop_to (R := RoundTo _ _ k) (fun k s => ∃ j : Nat, k = bs.length - j ∧ i < j ∧ j ≤ bs.length ∧ s.t 0 = ros z bs ∧ s.t 3 = roi z1 os ∧ s.t 4 = B true ∧ s.t 8 = I i ∧ s.t 9 = I j)
              (fun e s => e = .exit 4 ∧ s.t 0 = ros z bs ∧ s.t 3 = roi z1 os ∧ s.t 4 = B true ∧ s.t 8 = I i) ?_ ?_ (bs.length - (i + 1)) _ ⟨i + 1, ?_⟩
            · clear t0 t3 t4 t8
              rintro k ⟨t, h, c⟩ ⟨j, hk, hij, hj, t0, t3, t4, t8, t9⟩
              simp only at t0 t3 t4 t8 t9
              by_cases g4 : j < bs.length
              · have gj : j < os.length := by omega
                have oj := og j gj
                have hpj := pk_ok (bs := bs) g4
                have okj := ok_all v _ hpj.1
                have cp := clean_pair hcl.symm hij g4
                rw [fstI_of hpj.1 hpi.1] at cp
                unfold fstP at cp
                have w1 : behT bs[pk bs j] bs[pk bs i] (behP bs[pk bs j] bs[pk bs i]) = .tup [B (behP bs[pk bs j] bs[pk bs i]), E 0] := by unfold behT; rw [oki, okj]; rfl
                have w2 : behT bs[pk bs i] bs[pk bs j] (behP bs[pk bs i] bs[pk bs j]) = .tup [B (behP bs[pk bs i] bs[pk bs j]), E 0] := by unfold behT; rw [oki, okj]; rfl
                cases b1 : behP bs[pk bs j] bs[pk bs i]
                · rw [b1] at w1
                  cases b2 : behP bs[pk bs i] bs[pk bs j]
                  · rw [b2] at w2
                    simp -implicitDefEqProofs [t0, t3, t4, t8, t9, g2, g4, gi, gj, oi, oj, ol, hpi.1, hpj.1, Bx.av, w1, w2, b1, b2, to_normal, to_exit, to_ret]
                    exact ⟨bs.length - (j + 1), by omega, j + 1, by omega, by omega, by omega, wrap_succ (by omega)⟩
                  · rw [b2] at w2
                    simp -implicitDefEqProofs [t0, t3, t4, t8, t9, g2, g4, gi, gj, oi, oj, ol, hpi.1, hpj.1, Bx.av, w1, w2, b1, b2, to_normal, to_exit, to_ret]
                    exact ⟨bs.length - (j + 1), by omega, j + 1, by omega, by omega, by omega, wrap_succ (by omega)⟩
                · rw [b1] at w1 cp
                  have b2 : behP bs[pk bs i] bs[pk bs j] = true := by simpa using cp
                  rw [b2] at w2
                  simp -implicitDefEqProofs [t0, t3, t4, t8, t9, g2, g4, gi, gj, oi, oj, ol, hpi.1, hpj.1, Bx.av, w1, w2, b1, b2, to_normal, to_exit, to_ret]
                  exact ⟨bs.length - (j + 1), by omega, j + 1, by omega, by omega, by omega, wrap_succ (by omega)⟩
              · simp -implicitDefEqProofs [t0, t3, t4, t8, t9, g4, ol, to_normal, to_exit, to_ret]
            · clear t0 t3 t4 t8
              rintro e ⟨t, h, c⟩ ⟨rfl, t0, t3, t4, t8⟩
              simp only at t0 t3 t4 t8
              simp -implicitDefEqProofs [t0, t3, t4, t8, to_normal, to_exit, to_ret]
              refine ⟨bs.length - (i + 1), by omega, i + 1, by omega, by omega, ?_⟩
              exact wrap_succ (by omega)
            · exact ⟨rfl, by omega, by omega, by simp [t0], by simp [t3], by simp [t4], by simp [t8], by simp; exact wrap_succ (by omega)⟩
        · simp -implicitDefEqProofs [t0, t3, t4, t8, g2, ol, to_normal, to_exit, to_ret]
      · clear t0 t3 t4
        rintro e ⟨t, h, c⟩ ⟨rfl, t0, t3⟩
        simp only at t0 t3
        simp -implicitDefEqProofs [t0, t3, ol]
      · simp [t0, t3, t4]
    · refine ⟨by omega, by omega, by simp, by simp, by simp, by simp, by simp, ?_⟩
      simp [put_get, srtP, tk_start]
  · have q1 : sortT z1 bs = .tup [.ro true [], B false, E (valP bs)] := by unfold sortT; rw [if_neg v]; rfl
    have v' : (valP bs == 0) = false := by simpa using v
    have v'' : (valP bs != 0) = true := by simpa using v
    simp -implicitDefEqProofs [Try.f6, g1, k1, e1, q1, v, v', v'', -decide_eq_true_eq, -decide_eq_false_iff_not]
theorem pure6 (x0 : AV) (h0 : TyArg Try.prog 8 22 x0) : ∃ h c, run Try.prog (mdT tblV) 6 [x0] Heap.none 0 = some (B true, h, c) := by
  obtain ⟨z, bs, rfl, _⟩ := arg22 h0
  exact law6 z bs
end Go.Proofs.Ytkdmhlmaeccekaa.AM
