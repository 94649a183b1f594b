/- Texts of the proof: part T6. -/
import Derived.Test.YtbaoaodimbcebaaDoorT5
set_option maxHeartbeats 0
set_option linter.unusedSimpArgs false
set_option linter.unusedVariables false
set_option linter.unusedSectionVars false
namespace Go.Proofs.YtbaoaodimbcebaaDoor.AM
open Go Go.Proofs
attribute [local simp] fieldAddrA ld setCells stA skipV appendA hd makeA bnd kindA freshA killOk loadsAt newT empT lay_get allocA buildA buildRow lenA els indexAddrA isNil opA evA lit_int lit_bool lit_nil lit_nilf yldA binI unA pickA boolV intV fieldA mk eqs
/-- The loop over a function in a body. -/
def rngOf : Code → Option (List Nat × Code × Code)
  | .rangeFunc _ ps a b => some (ps.toList, a, b)
  | .seq a b => (rngOf a).or (rngOf b)
  | .block _ b => rngOf b
  | _ => none
noncomputable def wordsA : Code := ((Tryd.f19.body.bind rngOf).map (·.2.1)).getD .skip
noncomputable def wordsB : Code := ((Tryd.f19.body.bind rngOf).map (·.2.2)).getD .skip
noncomputable abbrev LPw (t : Nat → AV) : LP := ⟨0, .normal, rngNt [9] wordsA wordsB, t, [9], wordsA, wordsB⟩
theorem LPw_ok (t : Nat → AV) : rndOk (mdT tblT) (LPw t) = true := by kernel_rfl
@[simp] theorem md_rnd : mdT tblT rndF = some .rnd := rfl
/-- Where the words lie. -/
def OutAt (h : Heap) (c : Nat) (v : AV) (ls : List Str) : Prop := (v = .ro true [] ∧ ls = []) ∨ ∃ n, v = .sl n 1 0 ls.length ∧ 6 ≤ n ∧ n < c ∧ h n = some ⟨1, strs ls⟩
structure WI (w : Nat) (p : LP) (h : Heap) (c : Nat) (ls : List Str) (rest : Str) : Prop where
  h0 : h 0 = some ⟨1, [[I w]]⟩
  h1 : ∃ v, h 1 = some ⟨1, [[v]]⟩ ∧ OutAt h c v ls
  h2 : h 2 = some ⟨1, [[S rest]]⟩
  h3 : h 3 = some ⟨1, [[S [32]]]⟩
  h4 : h 4 = some ⟨1, [[I 0]]⟩
  h5 : h 5 = some p.blk
  hc : 6 ≤ c
theorem cells_okc {v : AV} (h : okc v = true) : v.cells = [v] := by cases v <;> first | rfl | cases h
theorem out_append {h : Heap} {c : Nat} {v : AV} {ls : List Str} (O : OutAt h c v ls) (hc : 6 ≤ c) (hl : ls.length ≤ 1000000) (x : Str) :
    ∃ v' h', appendA Tryd.prog 23 (h.put c (some ⟨1, [[S x]]⟩)) (c + 1) v (.sl c 1 0 1) = some (v', h', c + 2) ∧ OutAt h' (c + 2) v' (ls ++ [x]) ∧ (∀ k, k < 6 → h' k = h k) ∧ okc v' = true := by
  rcases O with ⟨rfl, rfl⟩ | ⟨n, rfl, h1, h2, h3⟩
  · refine ⟨.sl (c + 1) 1 0 1, (h.put c (some ⟨1, [[S x]]⟩)).put (c + 1) (some ⟨1, [[S x]]⟩), by simp [room], .inr ⟨c + 1, rfl, by omega, by omega, by simp⟩, fun k hk => ?_, rfl⟩
    simp only [put_get]
    rw [if_neg (by omega), if_neg (by omega)]
  · refine ⟨.sl (c + 1) 1 0 (ls.length + 1), ((h.put c (some ⟨1, [[S x]]⟩)).put n none).put (c + 1) (some ⟨1, strs ls ++ [[S x]]⟩), ?_, .inr ⟨c + 1, by simp, by omega, by omega, by simp⟩, fun k hk => ?_, rfl⟩
    · have e1 : ¬ (n = c) := by omega
      have e2 : ls.length + 1 ≤ 140737488355328 := by omega
      have e3 : (ls.length + 1) * 16 ≤ 140737488355328 := by omega
      simp [room, e1, h3, e2, e3, List.take_of_length_le]
    · simp only [put_get]
      rw [if_neg (by omega), if_neg (by omega), if_neg (by omega)]
theorem add_row {h : Heap} {c : Nat} {v : AV} {ls : List Str} {w : Nat} {p : LP} {rest : Str} (W : WI w p h c ls rest) (h1 : h 1 = some ⟨1, [[v]]⟩) (O : OutAt h c v ls) (hl : ls.length ≤ 1000000) (x : Str) :
    ∃ v' h', appendA Tryd.prog 23 (h.put c (some ⟨1, [[S x]]⟩)) (c + 1) v (.sl c 1 0 1) = some (v', h', c + 2) ∧ okc v' = true ∧ h' 1 = some ⟨1, [[v]]⟩ ∧ WI w p (h'.put 1 (some ⟨1, [[v']]⟩)) (c + 2) (ls ++ [x]) rest := by
  obtain ⟨v', h', e, O', hk, hok⟩ := out_append O W.hc hl x
  have hc := W.hc
  refine ⟨v', h', e, hok, by rw [hk 1 (by omega)]; exact h1, ⟨?_, ⟨v', by simp, ?_⟩, ?_, ?_, ?_, ?_, by omega⟩⟩
  · simp only [put_get]; rw [if_neg (by omega), hk 0 (by omega)]; exact W.h0
  · rcases O' with ⟨a, b⟩ | ⟨n, a, b, c1, d⟩
    · exact .inl ⟨a, b⟩
    · exact .inr ⟨n, a, b, c1, by simp only [put_get]; rw [if_neg (by omega)]; exact d⟩
  · simp only [put_get]; rw [if_neg (by omega), hk 2 (by omega)]; exact W.h2
  · simp only [put_get]; rw [if_neg (by omega), hk 3 (by omega)]; exact W.h3
  · simp only [put_get]; rw [if_neg (by omega), hk 4 (by omega)]; exact W.h4
  · simp only [put_get]; rw [if_neg (by omega), hk 5 (by omega)]; exact W.h5
theorem WI.recd {w : Nat} {p : LP} {h : Heap} {c : Nat} {ls : List Str} {rest : Str} (W : WI w p h c ls rest) (p' : LP) : WI w p' (h.put 5 (some p'.blk)) c ls rest := by
  obtain ⟨v, h1, O⟩ := W.h1
  refine ⟨by simpa using W.h0, ⟨v, by simpa using h1, ?_⟩, by simpa using W.h2, by simpa using W.h3, by simpa using W.h4, by simp, W.hc⟩
  rcases O with ⟨a, b⟩ | ⟨n, a, b, c1, d⟩
  · exact .inl ⟨a, b⟩
  · exact .inr ⟨n, a, b, c1, by simp only [put_get]; rw [if_neg (by omega)]; exact d⟩
theorem kill_ok {n : Nat} (hn : 6 ≤ n) : ((0 : Nat) != n) = true ∧ ((1 : Nat) != n) = true := by
  simp
  omega
/-- A word is cut and kept. -/
theorem body_w {w : Nat} (hw : 0 < w) {p : LP} {t : Nat → AV} {h : Heap} {c : Nat} {ls : List Str} {rest x : Str} (W : WI w p h c ls rest) (h6 : t 6 = S x) (h3 : t 3 = .ptr 0 0 0) (h5 : t 5 = .ptr 1 0 0) (hl : ls.length + x.length ≤ 1000000) :
    ∃ t' h' c', exL Tryd.prog (mdT tblT) wordsB ⟨t, h, c⟩ = some (.normal, ⟨t', h', c'⟩) ∧ c ≤ c' ∧ WI w p h' c' (ls ++ chunk w x) rest := by

  simp -implicitDefEqProofs [wordsB, Tryd.f19, rngOf, Option.bind_assoc]
  refine loop_to (R := fun (o : Option (Ex × St)) => ∃ t' h' c', o = some (Ex.normal, ⟨t', h', c'⟩) ∧ c ≤ c' ∧ WI w p h' c' (ls ++ chunk w x) rest)
    (fun k s => ∃ y ls', k = y.length ∧ s.t 6 = S y ∧ s.t 3 = .ptr 0 0 0 ∧ s.t 5 = .ptr 1 0 0 ∧ WI w p s.h s.c ls' rest ∧ c ≤ s.c ∧ ls' ++ chunk w y = ls ++ chunk w x ∧ ls'.length + y.length ≤ 1000000)
    (fun e s => e = .exit 2 ∧ ∃ y ls', ¬ w < y.length ∧ s.t 6 = S y ∧ s.t 3 = .ptr 0 0 0 ∧ s.t 5 = .ptr 1 0 0 ∧ WI w p s.h s.c ls' rest ∧ c ≤ s.c ∧ ls' ++ chunk w y = ls ++ chunk w x ∧ ls'.length + y.length ≤ 1000000) ?_ ?_ x.length _ ?_
  · rintro k ⟨t, h, c1⟩ ⟨y, ls', rfl, h6, h3, h5, W, hc, he, hl⟩
    simp only at h6 h3 h5 W hc
    obtain ⟨v, h1, O⟩ := W.h1
    have h0 := W.h0
    by_cases g : w < y.length
    · have k1 : decide (w < y.length) = true := by simp; omega
      have k2 : w ≤ y.length := by omega
      obtain ⟨v', h', e, hok, hh1, W'⟩ := add_row W h1 O (by omega) (y.take w)
      have hcl := cells_okc hok
      have hh0 : h' 0 = some ⟨1, [[I w]]⟩ := by simpa using W'.h0
      have fin : ∃ k', k' < y.length ∧ ∃ y', k' = y'.length ∧ S (y.drop w) = S y' ∧ ∃ ls'', WI w p (h'.put 1 (some ⟨1, [[v']]⟩)) (c1 + 2) ls'' rest ∧ c ≤ c1 + 2 ∧ ls'' ++ chunk w y' = ls ++ chunk w x ∧ ls''.length + y'.length ≤ 1000000 :=
        ⟨(y.drop w).length, by simp; omega, y.drop w, rfl, rfl, ls' ++ [y.take w], W', by omega, by rw [← he, chunk_go hw g]; simp, by simp; omega⟩
      have hc1 := W.hc
      have n0 : ¬ (0 = c1) := by omega
      have n1 : ¬ (1 = c1) := by omega
      rcases O with ⟨rfl, rfl⟩ | ⟨n, rfl, o1, o2, o3⟩
      · simp -implicitDefEqProofs [h6, h3, h5, h0, h1, k1, k2, n0, n1, to_normal, to_exit, to_ret, lay_put, -appendA, e, hcl, hok, hh1, hh0, -decide_eq_true_eq, -decide_eq_false_iff_not]
        exact fin
      · obtain ⟨kl0, kl1⟩ := kill_ok o1
        simp -implicitDefEqProofs [h6, h3, h5, h0, h1, k1, k2, n0, n1, kl0, kl1, to_normal, to_exit, to_ret, lay_put, -appendA, e, hcl, hok, hh1, hh0, -decide_eq_true_eq, -decide_eq_false_iff_not]
        exact fin
    · have k1 : decide (w < y.length) = false := by simp; omega
      simp -implicitDefEqProofs [h6, h3, h5, h0, h1, k1, to_normal, to_exit, to_ret, -decide_eq_true_eq, -decide_eq_false_iff_not]
      exact ⟨y, by omega, rfl, ls', W, hc, he, hl⟩
  · rintro e ⟨t, h, c1⟩ ⟨rfl, y, ls', g, h6, h3, h5, W, hc, he, hl⟩
    simp only at h6 h3 h5 W hc
    obtain ⟨v, h1, O⟩ := W.h1
    have h0 := W.h0
    rw [chunk_end g] at he
    cases g2 : (y != ([] : Str))
    · have e2 : y = [] := by simpa using g2
      rw [if_pos e2, List.append_nil] at he
      rw [← he]
      simp -implicitDefEqProofs [h6, h3, h5, h0, h1, g2, -bne_iff_ne, -bne_eq_false_iff_eq]
      exact ⟨_, _, _, ⟨rfl, rfl, rfl⟩, hc, W⟩
    · have e2 : y ≠ [] := by simpa using g2
      rw [if_neg e2] at he
      rw [← he]
      obtain ⟨v', h', e, hok, hh1, W'⟩ := add_row W h1 O (by omega) y
      have hcl := cells_okc hok
      have hh0 : h' 0 = some ⟨1, [[I w]]⟩ := by simpa using W'.h0
      have hc1 := W.hc
      have n0 : ¬ (0 = c1) := by omega
      have n1 : ¬ (1 = c1) := by omega
      simp -implicitDefEqProofs [h6, h3, h5, h0, h1, g2, n0, n1, -appendA, e, hcl, hok, hh1, hh0, -bne_iff_ne, -bne_eq_false_iff_eq]
      exact ⟨_, _, _, ⟨rfl, rfl, rfl⟩, by omega, W'⟩
  · exact ⟨x, ls, rfl, h6, h3, h5, W, Nat.le_refl _, rfl, hl⟩
end Go.Proofs.YtbaoaodimbcebaaDoor.AM
