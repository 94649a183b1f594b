/- Texts of the proof: part T7. -/
import Derived.Test.YtbaoaodimbcebaaDoorT6
set_option maxHeartbeats 0
set_option maxRecDepth 8000
set_option linter.unusedSimpArgs false
set_option linter.unusedVariables false
set_option linter.unusedSectionVars false
namespace Go.Proofs.YtbaoaodimbcebaaDoor.AM
open Go Go.Proofs
attribute [local simp] fieldAddrA ld setCells stA skipV appendA hd makeA bnd kindA freshA killOk loadsAt newT empT lay_get allocA buildA buildRow lenA els indexAddrA isNil opA evA lit_int lit_bool lit_nil lit_nilf yldA binI unA pickA boolV intV fieldA mk eqs
theorem WI.setRest {w : Nat} {p : LP} {h : Heap} {c : Nat} {ls : List Str} {rest : Str} (W : WI w p h c ls rest) (r : Str) : WI w p (h.put 2 (some ⟨1, [[S r]]⟩)) c ls r := by
  obtain ⟨v, h1, O⟩ := W.h1
  refine ⟨by simpa using W.h0, ⟨v, by simpa using h1, ?_⟩, by simp, by simpa using W.h3, by simpa using W.h4, by simpa using W.h5, W.hc⟩
  rcases O with ⟨a, b⟩ | ⟨n, a, b, c1, d⟩
  · exact .inl ⟨a, b⟩
  · exact .inr ⟨n, a, b, c1, by simp only [put_get]; rw [if_neg (by omega)]; exact d⟩
theorem asg_w (t : Nat → AV) (h : Heap) (c : Nat) (x : Str) : exL Tryd.prog (mdT tblT) wordsA ⟨setP t [9] [S x], h, c⟩ = some (.normal, ⟨upd (upd t (some 9) (S x)) (some 6) (S x), h, c⟩) := by
  simp -implicitDefEqProofs [wordsA, Tryd.f19, rngOf, setP]
/-- A round of the loop over the pieces. -/
theorem round_w {w : Nat} (hw : 0 < w) {t : Nat → AV} {h : Heap} {c : Nat} {ls : List Str} {rest : Str} (x : Str) (W : WI w (LPw t) h c ls rest) (h3 : t 3 = .ptr 0 0 0) (h5 : t 5 = .ptr 1 0 0) (hl : ls.length + x.length ≤ 1000000) :
    ∃ h' c', run Tryd.prog (mdT tblT) rndF [.yld 5, S x] h c = some (B true, h', c') ∧ c ≤ c' ∧ WI w (LPw t) h' c' (ls ++ chunk w x) rest := by
  rw [run_rnd rfl]
  unfold rndA
  simp only [W.h5, lpOf_blk, Option.bind_some]
  rw [if_pos ⟨rfl, LPw_ok t⟩, asg_w, Option.bind_some]
  unfold begR
  simp only [W.h5, lpOf_blk, Option.bind_some, if_true]
  obtain ⟨t', h', c', e, hc, W'⟩ := body_w hw (t := upd (upd t (some 9) (S x)) (some 6) (S x)) (x := x) (W.recd { LPw t with st := 1 }) (by simp) (by simpa using h3) (by simpa using h5) hl
  rw [e, Option.bind_some]
  unfold endR
  simp only [W'.h5, lpOf_blk, Option.map_some]
  refine ⟨_, _, rfl, hc, ?_⟩
  exact W'.recd (LPw t)
/-- The pieces, one by one. -/
theorem iter_w {w : Nat} (hw : 0 < w) {t : Nat → AV} (h3 : t 3 = .ptr 0 0 0) (h5 : t 5 = .ptr 1 0 0) {h : Heap} {c : Nat} {rest : Str} (W : WI w (LPw t) h c [] rest) (hl : rest.length ≤ 100000) :
    ∃ h' c' r', run Tryd.prog (mdT tblT) 60 [.yld 5, .ptr 3 0 0, .ptr 2 0 0, .ptr 4 0 0] h c = some (.tup [], h', c') ∧ c ≤ c' ∧ WI w (LPw t) h' c' (wds w rest) r' := by
  rw [run_eq (show mdT tblT 60 = some .heap from rfl) rfl, Tryd.func60]
  have g3 := W.h3
  simp -implicitDefEqProofs [Tryd.f60, g3, Option.bind_assoc]
  refine loop_to (R := fun (o : Option (AV × Heap × Nat)) => ∃ h' c', o = some (AV.tup [], h', c') ∧ c ≤ c' ∧ ∃ r', WI w (LPw t) h' c' (wds w rest) r')
    (fun k s => ∃ ls' r', k = r'.length ∧ s.t 0 = .yld 5 ∧ s.t 1 = .ptr 3 0 0 ∧ s.t 2 = .ptr 2 0 0 ∧ s.t 3 = .ptr 4 0 0 ∧ WI w (LPw t) s.h s.c ls' r' ∧ c ≤ s.c ∧ ls' ++ wds w r' = wds w rest ∧ ls'.length + r'.length ≤ 100000)
    (fun e s => e = .exit 2 ∧ ∃ ls' r', idx r' < 0 ∧ s.t 0 = .yld 5 ∧ s.t 1 = .ptr 3 0 0 ∧ s.t 2 = .ptr 2 0 0 ∧ s.t 3 = .ptr 4 0 0 ∧ WI w (LPw t) s.h s.c ls' r' ∧ c ≤ s.c ∧ ls' ++ wds w r' = wds w rest ∧ ls'.length + r'.length ≤ 100000) ?_ ?_ rest.length _ ?_
  · rintro k ⟨t1, h1, c1⟩ ⟨ls', r', rfl, a0, a1, a2, a3, W1, hc, he, hb⟩
    simp only at a0 a1 a2 a3 W1 hc
    have b2 := W1.h2
    have b3 := W1.h3
    have b4 := W1.h4
    by_cases g : idx r' < 0
    · have k1 : decide (idx r' < 0) = true := by simp [g]
      simp -implicitDefEqProofs [a0, a1, a2, a3, b2, b3, b4, index_c, k1, to_normal, to_exit, to_ret, -decide_eq_true_eq, -decide_eq_false_iff_not]
      exact ⟨ls', r', g, W1, hc, he, hb⟩
    · have k1 : decide (idx r' < 0) = false := by simp; omega
      have hlt := idx_lt r'
      have k2 : IntKind.i64.wrap (idx r') = idx r' := wrap_id (by omega) (by omega)
      have k3 : IntKind.i64.wrap (idx r' + 1) = idx r' + 1 := wrap_id (by omega) (by omega)
      have k4 : 0 ≤ idx r' := by omega
      have k5 : idx r' ≤ r'.length := by omega
      have k6 : idx r' + 1 ≤ r'.length := by omega
      have k7 : 0 ≤ idx r' + 1 := by omega
      have hcl := chunk_len hw (r'.take (idx r').toNat)
      obtain ⟨h2, c2, e, hc2, W2⟩ := round_w hw (r'.take (idx r').toNat) W1 h3 h5 (by simp; omega)
      have d2 := W2.h2
      have d3 := W2.h3
      simp -implicitDefEqProofs [a0, a1, a2, a3, b2, b3, b4, d2, d3, index_c, k1, k2, k3, k4, k5, k6, k7, e, to_normal, to_exit, to_ret, -decide_eq_true_eq, -decide_eq_false_iff_not]
      have hn : (idx r' + 1).toNat = (idx r').toNat + 1 := by omega
      rw [hn]
      refine ⟨_, ?_, _, _, rfl, W2.setRest _, by omega, ?_, ?_⟩
      · simp; omega
      · rw [← he]
        unfold wds
        rw [spl_at r' k4]
        simp
      · simp at hcl ⊢
        omega
  · rintro e ⟨t1, h1, c1⟩ ⟨rfl, ls', r', g, a0, a1, a2, a3, W1, hc, he, hb⟩
    simp only at a0 a1 a2 a3 W1 hc
    have b2 := W1.h2
    obtain ⟨h2, c2, e, hc2, W2⟩ := round_w hw r' W1 h3 h5 (by omega)
    simp -implicitDefEqProofs [a0, a1, a2, a3, b2, e]
    refine ⟨_, _, ⟨rfl, rfl⟩, by omega, r', ?_⟩
    rw [← he]
    unfold wds
    rw [spl_no r' g]
    simpa using W2
  · refine ⟨[], rest, rfl, ?_⟩
    simp
    exact ⟨W, hl⟩
end Go.Proofs.YtbaoaodimbcebaaDoor.AM
