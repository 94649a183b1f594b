/- Texts of the proof: part T8. -/
import Derived.Test.YtbaoaodimbcebaaDoorT7
set_option maxHeartbeats 0
set_option maxRecDepth 8000
set_option linter.unusedSimpArgs false
set_option linter.unusedVariables false
set_option linter.unusedSectionVars false
namespace Go.Proofs.YtbaoaodimbcebaaDoor.AM
open Go Go.Proofs
attribute [local simp] fieldAddrA ld setCells stA skipV appendA hd makeA bnd kindA freshA killOk loadsAt newT empT lay_get allocA buildA buildRow lenA els indexAddrA isNil opA evA lit_int lit_bool lit_nil lit_nilf yldA binI unA pickA boolV intV fieldA mk eqs
theorem split3 (l sep : Str) (k : Int) (h : Heap) (c : Nat) : run Tryd.prog (mdT tblT) 49 [S l, S sep, I k] h c =
    some (.fn 60 [.ptr (c + 1) 0 0, .ptr c 0 0, .ptr (c + 2) 0 0], ((h.put c (some ⟨1, [[S l]]⟩)).put (c + 1) (some ⟨1, [[S sep]]⟩)).put (c + 2) (some ⟨1, [[I k]]⟩), c + 3) := by
  rw [run_eq (show mdT tblT 49 = some .heap from rfl) rfl, Tryd.func49]
  simp -implicitDefEqProofs [Tryd.f49]
theorem split2 (l sep : Str) (h : Heap) (c : Nat) : run Tryd.prog (mdT tblT) 36 [S l, S sep] h c =
    some (.fn 60 [.ptr (c + 1) 0 0, .ptr c 0 0, .ptr (c + 2) 0 0], ((h.put c (some ⟨1, [[S l]]⟩)).put (c + 1) (some ⟨1, [[S sep]]⟩)).put (c + 2) (some ⟨1, [[I 0]]⟩), c + 3) := by
  rw [run_eq (show mdT tblT 36 = some .heap from rfl) rfl, Tryd.func36]
  have m : mdT tblT 49 = some .heap := rfl
  simp -implicitDefEqProofs [Tryd.f36, call_heap m, split3]
theorem rngA_fn {md : Nat → Option CMode} {orc : Orc} {f : Nat} {caps : List AV} (hf : md f = some .heap) (ps : List Nat) (a b : Code) (s : St) : rngA md orc (.fn f caps) ps a b s =
    (orc f (.yld s.c :: caps) (s.h.put s.c (some (LP.blk ⟨0, .normal, rngNt ps a b, s.t, ps, a, b⟩))) (s.c + 1)).bind fun r =>
        (lpOf (r.2.1 s.c)).bind fun p => if p.st = 1 then none else some (p.j, ⟨s.t, r.2.1.put s.c none, r.2.2⟩) := by
  unfold rngA
  simp only [hf]
theorem rng_w {w : Nat} (hw : 0 < w) {t : Nat → AV} (h3 : t 3 = .ptr 0 0 0) (h5 : t 5 = .ptr 1 0 0) {h : Heap} {l : Str} (W : WI w (LPw t) (h.put 5 (some (LPw t).blk)) 6 [] l) (hl : l.length ≤ 100000) :
    ∃ h' c', rngA (mdT tblT) (run Tryd.prog (mdT tblT)) (.fn 60 [.ptr 3 0 0, .ptr 2 0 0, .ptr 4 0 0]) [9] wordsA wordsB ⟨t, h, 5⟩ = some (.normal, ⟨t, h', c'⟩) ∧ ∃ v, h' 1 = some ⟨1, [[v]]⟩ ∧ OutAt h' c' v (wds w l) := by
  rw [rngA_fn rfl]
  obtain ⟨h', c', r', e, hc, W'⟩ := iter_w hw h3 h5 W hl
  simp only
  rw [e, Option.bind_some]
  simp only [W'.h5, lpOf_blk, Option.bind_some]
  rw [if_neg (by decide)]
  obtain ⟨v, h1, O⟩ := W'.h1
  refine ⟨_, _, rfl, v, by simpa using h1, ?_⟩
  rcases O with ⟨a, b⟩ | ⟨n, a, b, c1, d⟩
  · exact .inl ⟨a, b⟩
  · exact .inr ⟨n, a, b, c1, by simp only [put_get]; rw [if_neg (by omega)]; exact d⟩
/-- The words of a text. -/
theorem words_ev {w : Nat} (hw : 0 < w) (l : Str) (hl : l.length ≤ 100000) : ∃ h c v, run Tryd.prog (mdT tblT) 19 [S l, I w] Heap.none 0 = some (v, h, c) ∧ OutAt h c v (wds w l) := by
  rw [run_eq (show mdT tblT 19 = some .pure from rfl) rfl, Tryd.func19]
  have m : mdT tblT 36 = some .heap := rfl
  simp -implicitDefEqProofs [Tryd.f19, call_heap m, split2, Option.bind_assoc]
  have W : WI w (LPw (upd (upd (upd (upd (upd (init [S l, I w]) (some 3) (.ptr 0 0 0)) (some 4) (.ro true [])) (some 5) (.ptr 1 0 0)) (some 7) (S l)) (some 8) (.fn 60 [.ptr 3 0 0, .ptr 2 0 0, .ptr 4 0 0])))
      ((((((Heap.none.put 0 (some ⟨1, [[.val (.int .i64 w)]]⟩)).put 1 (some ⟨1, [[.ro true []]]⟩)).put 2 (some ⟨1, [[S l]]⟩)).put 3 (some ⟨1, [[S [32]]]⟩)).put 4 (some ⟨1, [[I 0]]⟩)).put 5
        (some (LPw (upd (upd (upd (upd (upd (init [S l, I w]) (some 3) (.ptr 0 0 0)) (some 4) (.ro true [])) (some 5) (.ptr 1 0 0)) (some 7) (S l)) (some 8) (.fn 60 [.ptr 3 0 0, .ptr 2 0 0, .ptr 4 0 0]))).blk)) 6 [] l :=
    ⟨by simp, ⟨.ro true [], by simp, .inl ⟨rfl, rfl⟩⟩, by simp, by simp, by simp, by simp, by omega⟩
  obtain ⟨h', c', e, v, h1, O⟩ := rng_w hw (by simp) (by simp) W hl
  erw [e, Option.bind_some]
  simp -implicitDefEqProofs [h1]
  exact ⟨_, _, v, ⟨rfl, rfl, rfl⟩, O⟩
end Go.Proofs.YtbaoaodimbcebaaDoor.AM
