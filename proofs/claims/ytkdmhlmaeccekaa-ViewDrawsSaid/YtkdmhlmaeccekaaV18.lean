/- Texts of the proof: part V18. -/
import Derived.Test.YtkdmhlmaeccekaaV17
set_option maxHeartbeats 0
set_option linter.unusedSimpArgs false
namespace Go.Proofs.Ytkdmhlmaeccekaa.AM
open Go Go.Proofs
attribute [local simp] AV.cells okc AV.isBad fieldAddrA ld setCells stA skipV appendA hd makeA bnd sliceA kindA freshA lay_get allocA buildA buildRow builtinA lenA els indexAddrA isNil opA evA lit yldA binA binI unA pickA boolV intV fieldA mk flat lf lf.lfs frz
theorem list_ev (z1 z2 : Bool) (ws : List Int) (hn : ws.length ≤ 6000) : ∃ h c, run Try.prog (mdT tblV) 15 [roi z1 ws, roi z2 ws] Heap.none 0 = some (B true, h, c) := by
  rw [run_eq, show mdT tblV 15 = some .pure from rfl, Option.bind_some, Try.func15]
  simp -implicitDefEqProofs [Try.f15, Option.bind_assoc]
  refine loop_to (R := fun o => ∃ h c, o = some (B true, h, c)) (fun k s => ∃ j : Nat, k = ws.length - j ∧ j ≤ ws.length ∧ s.t 0 = roi z1 ws ∧ s.t 1 = roi z2 ws ∧ s.t 5 = I j) (fun e s => e = .exit 0) ?_ ?_ ws.length _ ⟨0, ?_⟩
  · rintro k ⟨t, h, c⟩ ⟨j, hk, hj, t0, t1, t5⟩
    simp only at t0 t1 t5
    by_cases g1 : j < ws.length
    · simp -implicitDefEqProofs [t0, t1, t5, g1, to_normal, to_exit, to_ret]
      exact ⟨ws.length - (j + 1), by omega, j + 1, by omega, by omega, wrap_succ (by omega)⟩
    · simp -implicitDefEqProofs [t0, t1, t5, g1, to_normal, to_exit, to_ret]
  · rintro e ⟨t, h, c⟩ rfl
    simp -implicitDefEqProofs
  · simp
theorem list_c (z1 z2 : Bool) (ws : List Int) (hn : ws.length ≤ 6000) (h : Heap) (c : Nat) : callA (mdT tblV) (run Try.prog (mdT tblV)) 15 [roi z1 ws, roi z2 ws] h c = some (B true, h, c) := by
  obtain ⟨h', c', e⟩ := list_ev z1 z2 ws hn
  exact call_of rfl rfl e rfl rfl
def sortT (z : Bool) (bs : List Bx) : AV := if valP bs = 0 then .tup [roi z ((srtP bs bs.length).1.map fun (i : Nat) => (i : Int)), B (srtP bs bs.length).2, E 0] else .tup [roi true [], B false, E (valP bs)]
theorem out_frz {lo : Nat} {h : Heap} {c : Nat} {o : List Nat} {outv : AV} (q : OutR lo h c o outv) : ∃ z, frz h 11 outv = some (roi z (o.map fun (i : Nat) => (i : Int))) := by
  rcases q with ⟨rfl, rfl⟩ | ⟨l, _, _, rfl, hl⟩
  · exact ⟨true, rfl⟩
  · refine ⟨false, ?_⟩
    have e1 : els h (.sl l 1 0 o.length) = some (o.map fun (i : Nat) => [I (i : Int)]) := by
      simp only [els, hl, Option.bind_some]
      rw [if_pos (by simp)]
      simp [List.take_of_length_le]
    show ((els h (.sl l 1 0 o.length)).bind fun es => (es.mapM fun (e : List AV) => e.mapM (frz h 10)).map (AV.ro false)) = _
    rw [e1, Option.bind_some, mapM_same]
    · simp [Function.comp_def]
    · intro e he
      obtain ⟨v, _, rfl⟩ := List.mem_map.mp he
      rfl
theorem tup_frz {h : Heap} {a b d a' : AV} (ha : frz h 11 a = some a') (hb : frz h 11 b = some b) (hd : frz h 11 d = some d) : frz h depth (.tup [a, b, d]) = some (.tup [a', b, d]) := by
  show (List.mapM (frz h 11) [a, b, d]).map AV.tup = _
  simp [-frz, ha, hb, hd]
theorem sort_call {f : Nat} (hm : mdT tblV f = some .pure) {z : Bool} {bs : List Bx} {lo : Nat} (H : ∀ R : Option (AV × Heap × Nat) → Prop, (valP bs ≠ 0 → ∀ h c, R (some (.tup [.ro true [], B false, E (valP bs)], h, c))) →
    (valP bs = 0 → ∀ h c outv, OutR lo h c (srtP bs bs.length).1 outv → R (some (.tup [outv, B (srtP bs bs.length).2, E 0], h, c))) → R (run Try.prog (mdT tblV) f [ros z bs] Heap.none 0)) :
    ∃ z', ∀ h c, callA (mdT tblV) (run Try.prog (mdT tblV)) f [.ro z (bs.map fun b => b.av.cells)] h c = some (sortT z' bs, h, c) := by
  obtain ⟨r, h', c', e, z', hr⟩ := H (fun q => ∃ r h' c', q = some (r, h', c') ∧ ∃ z', frz h' depth r = some (sortT z' bs))
    (fun v h c => ⟨_, h, c, rfl, true, by unfold sortT; rw [if_neg v]; rfl⟩)
    (fun v h c outv oo => by
      obtain ⟨z', hz⟩ := out_frz oo
      refine ⟨_, h, c, rfl, z', ?_⟩
      unfold sortT
      rw [if_pos v]
      exact tup_frz hz rfl rfl)
  refine ⟨z', fun h c => ?_⟩
  rw [call_pure _ _ _ _ _ _ hm, show List.mapM (frz h depth) [AV.ro z (bs.map fun b => b.av.cells)] = some [ros z bs] from rfl, Option.bind_some, e, Option.bind_some]
  simp only [hr, Option.bind_some]
  rfl
theorem vsort_c (z : Bool) (bs : List Bx) : ∃ z', ∀ h c, callA (mdT tblV) (run Try.prog (mdT tblV)) 14 [.ro z (bs.map fun b => b.av.cells)] h c = some (sortT z' bs, h, c) :=
  sort_call (lo := 7) rfl (fun R h1 h2 => vsort_ev z bs R h1 h2)
theorem rsort_c (z : Bool) (bs : List Bx) : ∃ z', ∀ h c, callA (mdT tblV) (run Try.prog (mdT tblV)) 13 [.ro z (bs.map fun b => b.av.cells)] h c = some (sortT z' bs, h, c) :=
  sort_call (lo := 1) rfl (fun R h1 h2 => rsort_ev z bs R h1 h2)
theorem list_nil (h : Heap) (c : Nat) : callA (mdT tblV) (run Try.prog (mdT tblV)) 15 [.ro true [], .ro true []] h c = some (B true, h, c) :=
  list_c true true [] (by simp) h c
theorem law4 (z : Bool) (bs : List Bx) : ∃ hp c, run Try.prog (mdT tblV) 4 [ros z bs] Heap.none 0 = some (B true, hp, c) := by
  rw [run_eq, show mdT tblV 4 = some .pure from rfl, Option.bind_some, Try.func4]
  obtain ⟨z1, e1⟩ := vsort_c z bs
  obtain ⟨z2, e2⟩ := rsort_c z bs
  have main : ∀ hl : valP bs = 0 → (srtP bs bs.length).1.length ≤ 6000, (valP bs ≠ 0 ∧ sortT z1 bs = .tup [.ro true [], B false, E (valP bs)] ∧ sortT z2 bs = .tup [.ro true [], B false, E (valP bs)]) ∨
      ∃ ws : List Int, ws.length ≤ 6000 ∧ sortT z1 bs = .tup [roi z1 ws, B (srtP bs bs.length).2, E 0] ∧ sortT z2 bs = .tup [roi z2 ws, B (srtP bs bs.length).2, E 0] := by
    intro hl
    by_cases v : valP bs = 0
    · refine .inr ⟨(srtP bs bs.length).1.map fun (i : Nat) => (i : Int), by simpa using hl v, ?_, ?_⟩ <;> (unfold sortT; rw [if_pos v])
    · refine .inl ⟨v, ?_, ?_⟩ <;> (unfold sortT; rw [if_neg v]; rfl)
  by_cases g1 : 150 < bs.length
  · have k1 : decide (150 < (bs.length : Int)) = true := decide_eq_true (by omega)
    by_cases g2 : bs.length ≤ 4000
    · have k2 : decide ((bs.length : Int) ≤ 4000) = true := decide_eq_true (by omega)
      simp -implicitDefEqProofs [Try.f4, g1, k1, g2, k2, -decide_eq_true_eq, -decide_eq_false_iff_not]
    · have k2 : decide ((bs.length : Int) ≤ 4000) = false := decide_eq_false (by omega)
      by_cases g3 : 6000 < bs.length
      · have k3 : decide (6000 < (bs.length : Int)) = true := decide_eq_true (by omega)
        simp -implicitDefEqProofs [Try.f4, g1, k1, g2, k2, g3, k3, -decide_eq_true_eq, -decide_eq_false_iff_not]
      · have k3 : decide (6000 < (bs.length : Int)) = false := decide_eq_false (by omega)
        rcases main (fun _ => by rw [srt_len]; omega) with ⟨_, q1, q2⟩ | ⟨ws, hw, q1, q2⟩
        · simp -implicitDefEqProofs [Try.f4, g1, k1, g2, k2, g3, k3, e1, e2, q1, q2, list_nil, -decide_eq_true_eq, -decide_eq_false_iff_not]
        · have q3 := fun h c => list_c z1 z2 ws hw h c
          simp -implicitDefEqProofs [Try.f4, g1, k1, g2, k2, g3, k3, e1, e2, q1, q2, q3, -decide_eq_true_eq, -decide_eq_false_iff_not]
  · have k1 : decide (150 < (bs.length : Int)) = false := decide_eq_false (by omega)
    have k3 : decide (6000 < (bs.length : Int)) = false := decide_eq_false (by omega)
    have g3 : ¬ 6000 < bs.length := by omega
    rcases main (fun _ => by rw [srt_len]; omega) with ⟨_, q1, q2⟩ | ⟨ws, hw, q1, q2⟩
    · simp -implicitDefEqProofs [Try.f4, g1, k1, g3, k3, e1, e2, q1, q2, list_nil, -decide_eq_true_eq, -decide_eq_false_iff_not]
    · have q3 := fun h c => list_c z1 z2 ws hw h c
      simp -implicitDefEqProofs [Try.f4, g1, k1, g3, k3, e1, e2, q1, q2, q3, -decide_eq_true_eq, -decide_eq_false_iff_not]
theorem pure4 (x0 : AV) (h0 : TyArg Try.prog 8 22 x0) : ∃ h c, run Try.prog (mdT tblV) 4 [x0] Heap.none 0 = some (B true, h, c) := by
  obtain ⟨z, bs, rfl, _⟩ := arg22 h0
  exact law4 z bs
end Go.Proofs.Ytkdmhlmaeccekaa.AM
