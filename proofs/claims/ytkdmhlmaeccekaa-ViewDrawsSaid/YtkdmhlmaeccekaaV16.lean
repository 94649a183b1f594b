/- Texts of the proof: part V16. -/
import Derived.Test.YtkdmhlmaeccekaaV15
set_option maxHeartbeats 0
set_option linter.unusedSimpArgs false
namespace Go.Proofs.Ytkdmhlmaeccekaa.AM
open Go Go.Proofs
attribute [local simp] AV.cells okc AV.isBad fieldAddrA ld setCells stA skipV appendA hd makeA bnd sliceA kindA freshA lay_get allocA buildA buildRow builtinA lenA els indexAddrA isNil opA evA lit yldA binA binI unA pickA boolV intV fieldA mk flat lf lf.lfs frz
structure S0 (z : Bool) (bs : List Bx) (h : Heap) (w : Nat → Int) : Prop where
  h0 : h 0 = some ⟨1, [[ros z bs]]⟩
  h1 : h 1 = some ⟨1, [[.fn 25 [.ptr 0 0 0]]]⟩
  h2 : h 2 = some ⟨1, rowI bs.length w⟩
  h3 : h 3 = some ⟨1, [[.sl 2 1 0 bs.length]]⟩
theorem S0.put2 {z : Bool} {bs : List Bx} {h : Heap} {w w' : Nat → Int} (s : S0 z bs h w) {X : List (List AV)} (e : X = rowI bs.length w') : S0 z bs (h.put 2 (some ⟨1, X⟩)) w' := by
  obtain ⟨h0, h1, h2, h3⟩ := s
  subst e
  constructor <;> rw [put_get] <;> first | rfl | (rw [if_neg (by omega)]; assumption)
theorem S0.cong {z : Bool} {bs : List Bx} {h : Heap} {w w' : Nat → Int} (s : S0 z bs h w) (e : rowI bs.length w = rowI bs.length w') : S0 z bs h w' := by
  obtain ⟨h0, h1, h2, h3⟩ := s
  exact ⟨h0, h1, by rw [h2, e], h3⟩
def ci (bs : List Bx) (i m : Nat) : Int := ((List.range i).countP fun k => fstI bs k m : Nat)
def cj (bs : List Bx) (i j m : Nat) : Int := if m < j ∧ fstI bs i m = true then ci bs i m + 1 else ci bs i m
theorem ci_le (bs : List Bx) (i m : Nat) (hi : i ≤ 4000) : 0 ≤ ci bs i m ∧ ci bs i m ≤ 4000 := by
  unfold ci
  have := List.countP_le_length (p := fun k => fstI bs k m) (l := List.range i)
  rw [List.length_range] at this
  omega
theorem cj_zero (bs : List Bx) (i n : Nat) : rowI n (ci bs i) = rowI n (cj bs i 0) := row_congr fun m _ => by rw [cj, if_neg (by omega)]
theorem cj_at (bs : List Bx) (i j : Nat) : cj bs i j j = ci bs i j := by rw [cj, if_neg (by omega)]
theorem cj_t {bs : List Bx} {i j : Nat} (n : Nat) (h : fstI bs i j = true) : (rowI n (cj bs i j)).set j [I (ci bs i j + 1)] = rowI n (cj bs i (j + 1)) := by
  rw [rowI, row_set]
  refine row_congr fun m _ => ?_
  by_cases e : m = j
  · subst e; rw [if_pos rfl, cj, if_pos ⟨by omega, h⟩]
  · rw [if_neg e]
    unfold cj
    by_cases k : m < j
    · by_cases f : fstI bs i m = true
      · rw [if_pos ⟨k, f⟩, if_pos ⟨by omega, f⟩]
      · rw [if_neg (fun q => f q.2), if_neg (fun q => f q.2)]
    · rw [if_neg (fun q => k q.1), if_neg (fun q => by omega)]
theorem cj_f {bs : List Bx} {i j : Nat} (n : Nat) (h : fstI bs i j = false) : rowI n (cj bs i j) = rowI n (cj bs i (j + 1)) := by
  refine row_congr fun m _ => ?_
  unfold cj
  by_cases e : m = j
  · subst e; rw [if_neg (by omega), if_neg (by rw [h]; simp)]
  · by_cases f : fstI bs i m = true
    · by_cases k : m < j
      · rw [if_pos ⟨k, f⟩, if_pos ⟨by omega, f⟩]
      · rw [if_neg (fun q => k q.1), if_neg (fun q => by omega)]
    · rw [if_neg (fun q => f q.2), if_neg (fun q => f q.2)]
theorem cj_all (bs : List Bx) (i : Nat) : rowI bs.length (cj bs i bs.length) = rowI bs.length (ci bs (i + 1)) := by
  refine row_congr fun m hm => ?_
  unfold cj ci
  rw [List.range_succ, List.countP_append, List.countP_singleton]
  by_cases f : fstI bs i m = true
  · rw [if_pos ⟨hm, f⟩]; simp [f]
  · rw [if_neg (fun q => f q.2)]; simp [f]
theorem ci_start (bs : List Bx) (n : Nat) : List.replicate n [I 0] = rowI n (ci bs 0) := by
  apply List.ext_getElem (by simp)
  intro i h1 h2
  simp [ci]
theorem ci_end (bs : List Bx) : rowI bs.length (ci bs bs.length) = rowI bs.length (wP bs []) :=
  row_congr fun m _ => by simp [ci, wP, tkOf]
theorem tk_start (n : Nat) : List.replicate n [B false] = rowB n (tkOf []) := by
  apply List.ext_getElem (by simp)
  intro i h1 h2
  simp [tkOf]
theorem vsort_ev (z : Bool) (bs : List Bx) (R : Option (AV × Heap × Nat) → Prop) (R1 : valP bs ≠ 0 → ∀ h c, R (some (.tup [.ro true [], B false, E (valP bs)], h, c)))
    (R2 : valP bs = 0 → ∀ h c outv, OutOk h c (srtP bs bs.length).1 outv → R (some (.tup [outv, B (srtP bs bs.length).2, E 0], h, c))) : R (run Try.prog (mdT tblV) 14 [ros z bs] Heap.none 0) := by
  rw [run_eq, show mdT tblV 14 = some .pure from rfl, Option.bind_some, Try.func14]
  by_cases v : valP bs = 0
  · have hn : bs.length ≤ 4000 := by
      unfold valP at v
      by_cases q : 4000 < bs.length
      · rw [if_pos q] at v; cases v
      · omega
    replace R2 := R2 v
    clear R1
    have r1 := room_ok hn
    have r2 : (bs.length : Int) * 8 ≤ (room : Int) ∧ (bs.length : Int) ≤ (room : Int) := by omega
    have r3 : (bs.length : Int) * 1 ≤ (room : Int) := by omega
    simp -implicitDefEqProofs [Try.f14, Option.bind_assoc, v, r1, r2, r3]
    refine loop_to (fun k s => ∃ i : Nat, k = bs.length - i ∧ i ≤ bs.length ∧ s.t 1 = .ptr 0 0 0 ∧ s.t 6 = .ptr 1 0 0 ∧ s.t 7 = .ptr 3 0 0 ∧ s.t 26 = I bs.length ∧ s.t 27 = I i ∧ S0 z bs s.h (ci bs i) ∧ s.c = 4)
      (fun e s => e = .exit 0 ∧ s.t 1 = .ptr 0 0 0 ∧ s.t 6 = .ptr 1 0 0 ∧ s.t 7 = .ptr 3 0 0 ∧ S0 z bs s.h (ci bs bs.length) ∧ s.c = 4) ?_ ?_ bs.length _ ⟨0, ?_⟩
    · rintro k ⟨t, h, c⟩ ⟨i, hk, hi', t1, t6, t7, t26, t27, ss, hc⟩
      simp only at t1 t6 t7 t26 t27 ss hc
      subst hc
      by_cases hi : i < bs.length
      · have q0 := ss.h0
        simp -implicitDefEqProofs [t1, t6, t7, t26, t27, q0, hi, Option.bind_assoc]
        refine loop_to (R := RoundTo _ _ k) (fun k s => ∃ j : Nat, k = bs.length - j ∧ j ≤ bs.length ∧ s.t 1 = .ptr 0 0 0 ∧ s.t 6 = .ptr 1 0 0 ∧ s.t 7 = .ptr 3 0 0 ∧ s.t 26 = I bs.length ∧ s.t 27 = I i ∧ s.t 8 = I i ∧ s.t 31 = I bs.length ∧ s.t 32 = I j ∧ S0 z bs s.h (cj bs i j) ∧ s.c = 4)
          (fun e s => e = .exit 2 ∧ s.t 1 = .ptr 0 0 0 ∧ s.t 6 = .ptr 1 0 0 ∧ s.t 7 = .ptr 3 0 0 ∧ s.t 26 = I bs.length ∧ s.t 27 = I i ∧ S0 z bs s.h (cj bs i bs.length) ∧ s.c = 4) ?_ ?_ bs.length _ ⟨0, ?_⟩
        · rintro k ⟨t, h, c⟩ ⟨j, hk, hj, t1, t6, t7, t26, t27, t8, t31, t32, ss, hc⟩
          simp only at t1 t6 t7 t26 t27 t8 t31 t32 ss hc
          subst hc
          by_cases g1 : j < bs.length
          · have ss1 := ss
            obtain ⟨h0, h1, h2, h3⟩ := ss
            have hf := first_c h 4 z bs 0 h0 i j hi g1
            rw [← fstI_of hi g1] at hf
            cases g2 : fstI bs i j
            · simp -implicitDefEqProofs [t1, t6, t7, t26, t27, t8, t31, t32, h0, h1, h2, h3, hf, g1, g2, to_normal, to_exit, to_ret]
              exact ⟨bs.length - (j + 1), by omega, j + 1, by omega, by omega, wrap_succ (by omega), ss1.cong (cj_f bs.length g2)⟩
            · have e1 := cj_at bs i j
              have e2 : IntKind.i64.wrap (ci bs i j + 1) = ci bs i j + 1 := by have := ci_le bs i j (by omega); exact wrap_id (by omega) (by omega)
              simp -implicitDefEqProofs [t1, t6, t7, t26, t27, t8, t31, t32, h0, h1, h2, h3, hf, g1, g2, e1, e2, to_normal, to_exit, to_ret]
              exact ⟨bs.length - (j + 1), by omega, j + 1, by omega, by omega, wrap_succ (by omega), ss1.put2 (cj_t bs.length g2)⟩
          · have hj' : j = bs.length := by omega
            subst hj'
            simp -implicitDefEqProofs [t1, t6, t7, t26, t27, t8, t31, t32, to_normal, to_exit, to_ret]
            exact ss
        · rintro e ⟨t, h, c⟩ ⟨rfl, t1, t6, t7, t26, t27, ss, hc⟩
          simp only at t1 t6 t7 t26 t27 ss hc
          subst hc
          simp -implicitDefEqProofs [t1, t6, t7, t26, t27, to_normal, to_exit, to_ret]
          exact ⟨bs.length - (i + 1), by omega, i + 1, by omega, by omega, wrap_succ (by omega), ss.cong (cj_all bs i)⟩
        · simp [t1, t6, t7, t26, t27]
          exact ss.cong (cj_zero bs i bs.length)
      · have hi2 : i = bs.length := by omega
        subst hi2
        simp -implicitDefEqProofs [t1, t6, t7, t26, t27, to_normal, to_exit, to_ret]
        exact ss
    · rintro e ⟨t, h, c⟩ ⟨rfl, t1, t6, t7, ss, hc⟩
      simp only at t1 t6 t7 ss hc
      subst hc
      have ss1 := ss
      obtain ⟨h0, h1, h2, h3⟩ := ss
      simp -implicitDefEqProofs [t1, t6, t7, h0, h1, h2, h3, r1, r2, r3, Option.bind_assoc]
      refine loop_to (fun k s => ∃ r outv, k = bs.length - r ∧ r ≤ bs.length ∧ s.t 1 = .ptr 0 0 0 ∧ s.t 7 = .ptr 3 0 0 ∧ s.t 10 = .ptr 4 0 0 ∧ s.t 11 = .ptr 6 0 0 ∧ s.t 12 = .fn 27 [.ptr 6 0 0, .ptr 4 0 0, .ptr 0 0 0, .ptr 1 0 0, .ptr 3 0 0] ∧ s.t 13 = B (srtP bs r).2 ∧ s.t 52 = I bs.length ∧ s.t 53 = I r ∧
          SS z bs s.h (wP bs (srtP bs r).1) (tkOf (srtP bs r).1) outv ∧ OutOk s.h s.c (srtP bs r).1 outv ∧ 7 ≤ s.c)
        (fun e s => ∃ outv, e = .exit 4 ∧ s.t 10 = .ptr 4 0 0 ∧ s.t 13 = B (srtP bs bs.length).2 ∧ s.h 4 = some ⟨1, [[outv]]⟩ ∧ OutOk s.h s.c (srtP bs bs.length).1 outv) ?_ ?_ bs.length _ ⟨0, .ro true [], ?_⟩
      · clear h0 h1 h2 h3 ss1 t1 t6 t7
        rintro k ⟨t, h, c⟩ ⟨r, outv, hk, hr, t1, t7, t10, t11, t12, t13, t52, t53, ss, oo, hc⟩
        simp only at t1 t7 t10 t11 t12 t13 t52 t53 ss oo hc
        by_cases g1 : r < bs.length
        · have hl := srt_len bs r
          have hp := pick_ok (bs := bs) (o := (srtP bs r).1) (by omega)
          have hN := next_c h c 2 5 bs.length (wP bs (srtP bs r).1) (tkOf (srtP bs r).1) ss.h2 ss.h5 hn
          rw [next_pick (by omega)] at hN
          obtain ⟨h', c', outv', ev, ss', oo', hc'⟩ := take_ev z bs hn h c (wP bs (srtP bs r).1) (srtP bs r).1 outv ss oo hc (pickP bs (srtP bs r).1).1 (wP_le bs _ hn) hp.1 (by omega)
            (fun q => ∃ h' c' outv', q = some (.tup [], h', c') ∧ SS z bs h' _ _ outv' ∧ OutOk h' c' _ outv' ∧ 7 ≤ c') (fun h' c' outv' a b d => ⟨h', c', outv', rfl, a, b, d⟩)
          rw [wP_step hp.1 hp.2] at ss'
          have ev' : callA (mdT tblV) (run Try.prog (mdT tblV)) 27 [I (pickP bs (srtP bs r).1).1, .ptr 6 0 0, .ptr 4 0 0, .ptr 0 0 0, .ptr 1 0 0, .ptr 3 0 0] h c = some (.tup [], h', c') := by rw [call_heap rfl]; exact ev
          obtain ⟨h0, h1, h2, h3, h4, h5, h6⟩ := ss
          cases g2 : (srtP bs r).2
          · rw [g2] at t13
            simp -implicitDefEqProofs [t1, t7, t10, t11, t12, t13, t52, t53, h3, h6, hN, ev', g1, to_normal, to_exit, to_ret]
            exact ⟨bs.length - (r + 1), by omega, r + 1, by omega, by omega, by simp [srtP, g2], wrap_succ (by omega), outv', ss', oo', hc'⟩
          · rw [g2] at t13
            simp -implicitDefEqProofs [t1, t7, t10, t11, t12, t13, t52, t53, h3, h6, hN, ev', g1, to_normal, to_exit, to_ret]
            exact ⟨bs.length - (r + 1), by omega, r + 1, by omega, by omega, by simp [srtP, g2], wrap_succ (by omega), outv', ss', oo', hc'⟩
        · have hr2 : r = bs.length := by omega
          subst hr2
          simp -implicitDefEqProofs [t1, t7, t10, t11, t12, t13, t52, t53, to_normal, to_exit, to_ret]
          exact ⟨outv, ss.h4, oo⟩
      · clear h0 h1 h2 h3 ss1 t1 t6 t7
        rintro e ⟨t, h, c⟩ ⟨outv, rfl, t10, t13, h4, oo⟩
        simp only at t10 t13 h4 oo
        simp -implicitDefEqProofs [t10, t13, h4]
        exact R2 _ _ _ oo
      · refine ⟨by omega, by omega, by simp [t1], by simp [t7], by simp, by simp, by simp, by simp [srtP], by simp, by simp, ⟨?_, ?_, ?_, ?_, ?_, ?_, ?_⟩, .inl ⟨rfl, rfl⟩, by simp⟩
        · simp [put_get, h0]
        · simp [put_get, h1]
        · simp only [put_get]; simp [h2, srtP, ci_end bs]
        · simp [put_get, h3]
        · simp [put_get]
        · simp [put_get, srtP, tk_start]
        · simp [put_get]
    · refine ⟨by omega, by omega, by simp, by simp, by simp, by simp, by simp, ⟨by simp, by simp, by simp [ci_start bs], by simp⟩, by simp⟩
  · have v' : (valP bs == 0) = false := by simpa using v
    have v'' : (valP bs != 0) = true := by simpa using v
    simp -implicitDefEqProofs [Try.f14, Option.bind_assoc, v, v', v'']
    exact R1 v _ _
end Go.Proofs.Ytkdmhlmaeccekaa.AM
