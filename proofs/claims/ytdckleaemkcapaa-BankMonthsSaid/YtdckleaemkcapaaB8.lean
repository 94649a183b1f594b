/- Texts of the proof: part B8. -/
import Derived.Test.YtdckleaemkcapaaB7
set_option maxHeartbeats 0
set_option linter.unusedSimpArgs false
set_option linter.unusedVariables false
set_option linter.unusedSectionVars false
namespace Go.Proofs.Ytdckleaemkcapaa.AM
open Go Go.Proofs
attribute [local simp] AV.cells okc AV.isBad fieldAddrA ld setCells stA skipV appendA hd makeA bnd sliceA kindA freshA killOk loadsAt newT empT lay_get allocA buildA buildRow builtinA lenA els indexAddrA isNil opA evA lit yldA binA binI unA pickA boolV intV fieldA mk flat lf lf.lfs frz
/-- A call of a function that is called by value, with what it answers read out of its memory. -/
theorem call_frz {f : Nat} {args vs : List AV} {r r' : AV} {h h' : Heap} {c c' : Nat} (hm : mdT tblB f = some .pure) (ha : args.mapM (frz h depth) = some vs)
    (e : run Try.prog (mdT tblB) f vs Heap.none 0 = some (r, h', c')) (fr : frz h' depth r = some r') (hl : lf.lfs args = true) :
    callA (mdT tblB) (run Try.prog (mdT tblB)) f args h c = some (r', h, c) := by
  rw [call_pure _ _ _ _ _ _ hm, ha, Option.bind_some, e, Option.bind_some]
  rw [fr, Option.bind_some, hl]
  rfl
/-- The same, of a result that is the call's own alone. -/
theorem call_own {f : Nat} {args vs : List AV} {r r' : AV} {h h' : Heap} {c c' : Nat} (hm : mdT tblB f = some .pure) (ha : args.mapM (frz h depth) = some vs)
    (e : run Try.prog (mdT tblB) f vs Heap.none 0 = some (r, h', c')) (fr : frz h' depth r = some r') (hl : okO h' depth r = true) :
    callA (mdT tblB) (run Try.prog (mdT tblB)) f args h c = some (r', h, c) := by
  rw [call_pure _ _ _ _ _ _ hm, ha, Option.bind_some, e, Option.bind_some]
  rw [fr, Option.bind_some, hl]
  rw [show (lf.lfs args || flat r' || true) = true by simp]
  rfl
/-- What a call answers, read out of its memory. -/
def Ans (R : AV) : Option (AV × Heap × Nat) → Prop
  | some (r, h, _) => frz h depth r = some R
  | none => False
@[simp] theorem ans_some {R r : AV} {h : Heap} {c : Nat} : Ans R (some (r, h, c)) ↔ frz h depth r = some R := Iff.rfl
@[simp] theorem ans_none {R : AV} : Ans R none ↔ False := Iff.rfl
theorem call_ans {f : Nat} {args vs : List AV} {r' : AV} {h : Heap} {c : Nat} (hm : mdT tblB f = some .pure) (ha : args.mapM (frz h depth) = some vs)
    (e : Ans r' (run Try.prog (mdT tblB) f vs Heap.none 0)) (hl : lf.lfs args = true) :
    callA (mdT tblB) (run Try.prog (mdT tblB)) f args h c = some (r', h, c) := by
  cases e2 : run Try.prog (mdT tblB) f vs Heap.none 0 with
  | none => rw [e2] at e; exact e.elim
  | some p =>
    obtain ⟨r, h', c'⟩ := p
    rw [e2] at e
    exact call_frz hm ha e2 e hl
abbrev shutC : List AV := [B false, I 0, I 0, .ro false [[I (-1)], [I (-1)], [I (-1)], [I (-1)]], .ro true []]
def shutA : Acc := ⟨false, 0, 0, false, [-1, -1, -1, -1], true, []⟩
theorem shutA_cells : shutA.cells = shutC := rfl
theorem rclosed_c (h : Heap) (c : Nat) : callA (mdT tblB) (run Try.prog (mdT tblB)) 64 [] h c = some (.agg shutC, h, c) := by
  have e : Ans (.agg shutC) (run Try.prog (mdT tblB) 64 [] Heap.none 0) := by
    rw [run_eq, show mdT tblB 64 = some .pure from rfl, Option.bind_some, Try.func64]
    simp -implicitDefEqProofs [Try.f64, depth]
  exact call_ans rfl rfl e rfl
theorem bclosed_c (h : Heap) (c : Nat) : callA (mdT tblB) (run Try.prog (mdT tblB)) 65 [] h c = some (.agg shutC, h, c) := by
  have e : Ans (.agg shutC) (run Try.prog (mdT tblB) 65 [] Heap.none 0) := by
    rw [run_eq, show mdT tblB 65 = some .pure from rfl, Option.bind_some, Try.func65]
    simp -implicitDefEqProofs [Try.f65, depth]
  exact call_ans rfl rfl e rfl
def noB : Bnk := ⟨true, [], 0, 0, 0, true, []⟩
abbrev noC : List AV := [.ro true [], I 0, I 0, I 0, .ro true []]
theorem noB_av : noB.av = .agg noC := rfl
def newB (rate infl : Int) : Bnk := ⟨false, List.replicate 12 shutA, rate, infl, 65536, true, []⟩
theorem newB_sized (rate infl : Int) : (newB rate infl).Wfb := ⟨fun a h => by simp [newB] at h; subst h; exact ⟨by simp [shutA], by simp [shutA], fun h => (by cases h), fun _ => rfl⟩, by simp [newB], by simp [newB], fun h => (by cases h), fun _ => rfl⟩
def newP (rate infl : Int) : Int := bif outP rate 0 100 || outP infl 0 100 then 1 else 0
def resB (e : Int) (b : Bnk) : AV := .tup [(bif e == 0 then b else noB).av, E e]
theorem repl_frz (h : Heap) (n k : Nat) : (List.replicate n shutC).mapM (fun e => e.mapM (frz h (k + 1))) = some (List.replicate n shutC) := by
  induction n with
  | zero => rfl
  | succ n ih =>
    rw [List.replicate_succ, List.mapM_cons, ih]
    rfl
theorem rnew_x (rate infl : Int) : Ans (resB (newP rate infl) (newB rate infl)) (run Try.prog (mdT tblB) 23 [I rate, I infl] Heap.none 0) := by
  have hk := rclosed_c
  rw [run_eq, show mdT tblB 23 = some .pure from rfl, Option.bind_some, Try.func23]
  cases g0 : outP rate 0 100
  case true =>
    rw [show newP rate infl = 1 by unfold newP; rw [g0]; rfl]
    simp -implicitDefEqProofs [Try.f23, g0, depth, resB, noB, Bnk.av]
  cases g1 : outP infl 0 100
  case true =>
    rw [show newP rate infl = 1 by unfold newP; rw [g0, g1]; rfl]
    simp -implicitDefEqProofs [Try.f23, g0, g1, depth, resB, noB, Bnk.av]
  rw [show newP rate infl = 0 by unfold newP; rw [g0, g1]; rfl]
  rw [show resB 0 (newB rate infl) = .tup [.agg [.ro false (List.replicate 12 shutC), I rate, I infl, I 65536, .ro true []], E 0] from rfl]
  simp -implicitDefEqProofs [Try.f23, g0, g1, Option.bind_assoc]
  refine count_to (R := Ans (.tup [.agg [.ro false (List.replicate 12 shutC), I rate, I infl, I 65536, .ro true []], E 0])) 12 (fun j s => s.h 0 = some ⟨5, [noC]⟩ ∧ 1 < s.c ∧ s.t 4 = .ptr 0 0 0 ∧ s.t 6 = .ptr 1 0 0 ∧ s.t 7 = I j ∧
    ∃ v, s.h 1 = some ⟨5, [[v, I rate, I infl, I 65536, .ro true []]]⟩ ∧ ((j = 0 ∧ v = .ro true []) ∨ (0 < j ∧ ∃ l, v = .sl l 5 0 j ∧ l < s.c ∧ 1 < l ∧ s.h l = some ⟨5, List.replicate j shutC⟩))) _ ?_ ?_ ?_
  · simp
  · rintro j ⟨t, h, c⟩ ⟨h0, hc, t4, t6, tj, v, h1, hv⟩ hj
    simp only at h0 hc t4 t6 tj h1 hv
    have n1 : ¬ (0 = c) := by omega
    have n2 : ¬ (c = 0) := by omega
    have n3 : ¬ (1 = c) := by omega
    have n4 : ¬ (c = 1) := by omega
    have n5 : ¬ (0 = c + 1) := by omega
    have n6 : ¬ (1 = c + 1) := by omega
    have n7 : ¬ (c + 1 = 0) := by omega
    have n8 : ¬ (c + 1 = 1) := by omega
    have n9 : ¬ (c + 1 ≤ c) := by omega
    have m1 : ¬ (c ≤ 0) := by omega
    have m2 : ¬ (c ≤ 1) := by omega
    have m3 : ¬ (c + 1 ≤ 0) := by omega
    have m4 : ¬ (c + 1 ≤ 1) := by omega
    have k1 : decide ((j : Int) < 12) = true := decide_eq_true (by omega)
    rcases hv with ⟨rfl, rfl⟩ | ⟨hj0, l, rfl, hlc, hl1, hl⟩
    · simp -implicitDefEqProofs [h0, h1, t4, t6, tj, k1, hk, n1, n2, n3, n4, n5, n6, n7, n8, n9, m1, m2, m3, m4, room]
      exact ⟨by rfl, by omega⟩
    · have k2 : ¬ (l = 1) := by omega
      have k3 : ¬ (1 = l) := by omega
      have k4 : ¬ (l = 0) := by omega
      have k5 : ¬ (0 = l) := by omega
      have k6 : ¬ (l = c) := by omega
      have k7 : ¬ (c ≤ l) := by omega
      have k8 : ¬ (l = c + 1) := by omega
      have k9 : ¬ (c + 1 = l) := by omega
      have r1 : j + 1 ≤ 140737488355328 := by omega
      have r2 : (j + 1) * 72 ≤ 140737488355328 := by omega
      have r3 : List.replicate j shutC ++ [shutC] = List.replicate (j + 1) shutC := List.replicate_succ'.symm
      simp -implicitDefEqProofs [h0, h1, hl, t4, t6, tj, k1, hk, n1, n2, n3, n4, n5, n6, n7, n8, n9, m1, m2, m3, m4, k2, k3, k4, k5, k6, k7, k8, k9, room, r1, r2, r3, hj0, wrap_succ (show j < 9223372036854775807 by omega)]
      first | omega | skip
  · rintro ⟨t, h, c⟩ ⟨h0, hc, t4, t6, tj, v, h1, hv⟩
    simp only at h0 hc t4 t6 tj h1 hv
    rcases hv with ⟨he, _⟩ | ⟨hj0, l, rfl, hlc, hl1, hl⟩
    · cases he
    · have k2 : ¬ (l = 0) := by omega
      have k3 : ¬ (0 = l) := by omega
      have hf := fun h k => repl_frz h 12 k
      simp -implicitDefEqProofs [h0, h1, hl, t4, t6, tj, k2, k3, depth, hf]
theorem rnew_c (rate infl : Int) (h : Heap) (c : Nat) : callA (mdT tblB) (run Try.prog (mdT tblB)) 23 [I rate, I infl] h c = some (resB (newP rate infl) (newB rate infl), h, c) := by
  exact call_ans rfl rfl (rnew_x rate infl) rfl
theorem bnew_x (rate infl : Int) : Ans (resB (newP rate infl) (newB rate infl)) (run Try.prog (mdT tblB) 24 [I rate, I infl] Heap.none 0) := by
  have hk := bclosed_c
  rw [run_eq, show mdT tblB 24 = some .pure from rfl, Option.bind_some, Try.func24]
  cases g0 : outP rate 0 100
  case true =>
    rw [show newP rate infl = 1 by unfold newP; rw [g0]; rfl]
    simp -implicitDefEqProofs [Try.f24, g0, depth, resB, noB, Bnk.av]
  cases g1 : outP infl 0 100
  case true =>
    rw [show newP rate infl = 1 by unfold newP; rw [g0, g1]; rfl]
    simp -implicitDefEqProofs [Try.f24, g0, g1, depth, resB, noB, Bnk.av]
  rw [show newP rate infl = 0 by unfold newP; rw [g0, g1]; rfl]
  rw [show resB 0 (newB rate infl) = .tup [.agg [.ro false (List.replicate 12 shutC), I rate, I infl, I 65536, .ro true []], E 0] from rfl]
  simp -implicitDefEqProofs [Try.f24, g0, g1, Option.bind_assoc]
  refine count_to (R := Ans (.tup [.agg [.ro false (List.replicate 12 shutC), I rate, I infl, I 65536, .ro true []], E 0])) 12 (fun j s => s.h 0 = some ⟨5, [noC]⟩ ∧ 1 < s.c ∧ s.t 4 = .ptr 0 0 0 ∧ s.t 6 = .ptr 1 0 0 ∧ s.t 19 = I j ∧
    ∃ v, s.h 1 = some ⟨5, [[v, I rate, I infl, I 65536, .ro true []]]⟩ ∧ ((j = 0 ∧ v = .ro true []) ∨ (0 < j ∧ ∃ l, v = .sl l 5 0 j ∧ l < s.c ∧ 1 < l ∧ s.h l = some ⟨5, List.replicate j shutC⟩))) _ ?_ ?_ ?_
  · simp
  · rintro j ⟨t, h, c⟩ ⟨h0, hc, t4, t6, tj, v, h1, hv⟩ hj
    simp only at h0 hc t4 t6 tj h1 hv
    have n1 : ¬ (0 = c) := by omega
    have n2 : ¬ (c = 0) := by omega
    have n3 : ¬ (1 = c) := by omega
    have n4 : ¬ (c = 1) := by omega
    have n5 : ¬ (0 = c + 1) := by omega
    have n6 : ¬ (1 = c + 1) := by omega
    have n7 : ¬ (c + 1 = 0) := by omega
    have n8 : ¬ (c + 1 = 1) := by omega
    have n9 : ¬ (c + 1 ≤ c) := by omega
    have m1 : ¬ (c ≤ 0) := by omega
    have m2 : ¬ (c ≤ 1) := by omega
    have m3 : ¬ (c + 1 ≤ 0) := by omega
    have m4 : ¬ (c + 1 ≤ 1) := by omega
    have k1 : decide ((j : Int) < 12) = true := decide_eq_true (by omega)
    rcases hv with ⟨rfl, rfl⟩ | ⟨hj0, l, rfl, hlc, hl1, hl⟩
    · simp -implicitDefEqProofs [h0, h1, t4, t6, tj, k1, hk, n1, n2, n3, n4, n5, n6, n7, n8, n9, m1, m2, m3, m4, room]
      exact ⟨by rfl, by omega⟩
    · have k2 : ¬ (l = 1) := by omega
      have k3 : ¬ (1 = l) := by omega
      have k4 : ¬ (l = 0) := by omega
      have k5 : ¬ (0 = l) := by omega
      have k6 : ¬ (l = c) := by omega
      have k7 : ¬ (c ≤ l) := by omega
      have k8 : ¬ (l = c + 1) := by omega
      have k9 : ¬ (c + 1 = l) := by omega
      have r1 : j + 1 ≤ 140737488355328 := by omega
      have r2 : (j + 1) * 72 ≤ 140737488355328 := by omega
      have r3 : List.replicate j shutC ++ [shutC] = List.replicate (j + 1) shutC := List.replicate_succ'.symm
      simp -implicitDefEqProofs [h0, h1, hl, t4, t6, tj, k1, hk, n1, n2, n3, n4, n5, n6, n7, n8, n9, m1, m2, m3, m4, k2, k3, k4, k5, k6, k7, k8, k9, room, r1, r2, r3, hj0, wrap_succ (show j < 9223372036854775807 by omega)]
      first | omega | skip
  · rintro ⟨t, h, c⟩ ⟨h0, hc, t4, t6, tj, v, h1, hv⟩
    simp only at h0 hc t4 t6 tj h1 hv
    rcases hv with ⟨he, _⟩ | ⟨hj0, l, rfl, hlc, hl1, hl⟩
    · cases he
    · have k2 : ¬ (l = 0) := by omega
      have k3 : ¬ (0 = l) := by omega
      have hf := fun h k => repl_frz h 12 k
      simp -implicitDefEqProofs [h0, h1, hl, t4, t6, tj, k2, k3, depth, hf]
theorem bnew_c (rate infl : Int) (h : Heap) (c : Nat) : callA (mdT tblB) (run Try.prog (mdT tblB)) 24 [I rate, I infl] h c = some (resB (newP rate infl) (newB rate infl), h, c) := by
  exact call_ans rfl rfl (bnew_x rate infl) rfl
end Go.Proofs.Ytdckleaemkcapaa.AM
