/- Texts of the proof: part T12. -/
import Derived.Test.YtbaoaodimbcebaaDoorT10
import Derived.Test.YtbaoaodimbcebaaDoorT11
set_option maxHeartbeats 0
set_option maxRecDepth 8000
set_option linter.unusedSimpArgs false
set_option linter.unusedVariables false
set_option linter.unusedSectionVars false
namespace Go.Proofs.YtbaoaodimbcebaaDoor.AM
open Go Go.Proofs
attribute [local simp] fieldAddrA ld setCells stA skipV appendA hd makeA bnd kindA freshA killOk loadsAt newT empT lay_get allocA buildA buildRow lenA els indexAddrA isNil opA evA lit_int lit_bool lit_nil lit_nilf yldA binI unA pickA boolV intV fieldA mk eqs
/-- The state ahead of the text's rest. -/
structure RI (w : Nat) (l : Str) (h : Heap) (c : Nat) (v : AV) (ln : Str) (i : Nat) (ls : List Str) : Prop where
  out : OutL h c v ls
  ile : i ≤ l.length
  nil : ln = [] → ls = []
  lle : ln.length ≤ w
  num : ls.length + (op ln).length ≤ i
  fold : (wds w (l.drop i)).foldl (jn w) (ls ++ op ln) = wrapP w l
def RInv (w : Nat) (l : Str) (k : Nat) (s : St) : Prop := ∃ i ln ls, k = l.length - i ∧ s.t 0 = S l ∧ s.t 1 = I w ∧ s.t 7 = S ln ∧ s.t 8 = I (i : Nat) ∧ RI w l s.h s.c (s.t 6) ln i ls
def ROut (w : Nat) (l : Str) (e : Ex) (s : St) : Prop := e = .exit 0 ∧ ∃ ln ls, s.t 0 = S l ∧ s.t 1 = I w ∧ s.t 7 = S ln ∧ RI w l s.h s.c (s.t 6) ln l.length ls
theorem jn_ne (w : Nat) (ls : List Str) (ln p : Str) (h : ln.length + 1 + p.length ≤ w) : jn w (ls ++ [ln]) p = ls ++ [ln ++ 32 :: p] := by
  unfold jn
  simp [h]
theorem rwrap_ev (l : Str) (n : Int) (hl : l.length ≤ 30000) : ∃ h c v, run Tryd.prog (mdT tblT) 7 [S l, I n] Heap.none 0 = some (.tup [v, E (wrapO l n).1], h, c) ∧ OutL h c v (wrapO l n).2 := by
  rw [run_eq (show mdT tblT 7 = some .pure from rfl) rfl, Tryd.func7, wrapO]
  have cp := fun h c => odd_c l (by omega) h c
  cases g1 : outP n 1 400
  · obtain ⟨n1, n2⟩ := outP_in g1
    obtain ⟨w, rfl⟩ : ∃ w : Nat, n = w := ⟨n.toNat, by omega⟩
    cases g2 : l.any oddb
    · by_cases g3 : 20000 < l.length
      · have k3 : decide (20000 < (l.length : Int)) = true := by simp; omega
        simp -implicitDefEqProofs [Tryd.f7, g1, cp, g2, g3, k3, -decide_eq_true_eq, -decide_eq_false_iff_not, -List.any_eq_true, -List.any_eq_false]
        exact ⟨_, _, _, ⟨rfl, rfl, rfl⟩, .inl ⟨rfl, rfl⟩⟩
      · have k3 : decide (20000 < (l.length : Int)) = false := by simp; omega
        have hw : 0 < w := by omega
        simp -implicitDefEqProofs [Tryd.f7, g1, cp, g2, g3, k3, Option.bind_assoc, -decide_eq_true_eq, -decide_eq_false_iff_not, -List.any_eq_true, -List.any_eq_false]
        refine loop_to (R := fun (o : Option (AV × Heap × Nat)) => ∃ h c v, o = some (AV.tup [v, E 0], h, c) ∧ OutL h c v (wrapP w l)) (RInv w l) (ROut w l) ?_ ?_ l.length _ ?_
        · rintro k ⟨t, h, c⟩ ⟨i, ln, ls, rfl, h0, h1, h7, h8, Q⟩
          simp only at h0 h1 h7 h8 Q
          by_cases g4 : i < l.length
          · have k4 : decide (i < l.length) = true := by simp [g4]
            obtain ⟨x, hx⟩ : ∃ x, l[i]? = some x := ⟨l[i], by simp [g4]⟩
            have hd : l.drop i = x :: l.drop (i + 1) := by
              rw [List.drop_eq_getElem_cons g4]
              rw [List.getElem?_eq_getElem g4] at hx
              cases hx
              rfl
            have ki : IntKind.i64.wrap ((i : Int) + 1) = ((i + 1 : Nat) : Int) := wrap_succ (by omega)
            cases g5 : x == (32 : UInt8)
            · have e5 : x ≠ 32 := by simpa using g5
              simp -implicitDefEqProofs [h0, h1, h7, h8, k4, hx, u_eq, u_ne, g5, to_normal, to_exit, to_ret, Option.bind_assoc, -decide_eq_true_eq, -decide_eq_false_iff_not, -beq_iff_eq, -beq_eq_false_iff_ne, -bne_iff_ne, -bne_eq_false_iff_eq]
              refine loop_to (R := RoundTo (RInv w l) (ROut w l) (l.length - i))
                (fun k s => ∃ j : Nat, k = l.length - j ∧ i ≤ j ∧ j ≤ i + stp (l.drop i) ∧ s.t 0 = S l ∧ s.t 1 = I w ∧ s.t 6 = t 6 ∧ s.t 7 = S ln ∧ s.t 8 = I (i : Nat) ∧ s.t 9 = I j ∧ s.h = h ∧ s.c = c)
                (fun e s => e = .exit 2 ∧ s.t 0 = S l ∧ s.t 1 = I w ∧ s.t 6 = t 6 ∧ s.t 7 = S ln ∧ s.t 8 = I (i : Nat) ∧ s.t 9 = I ((i + stp (l.drop i) : Nat) : Int) ∧ s.h = h ∧ s.c = c) ?_ ?_ (l.length - i) _ ?_
              · rintro k ⟨t2, h2, c2⟩ ⟨j, rfl, j1, j2, a0, a1, a6, a7, a8, a9, ah, ac⟩
                simp only at a0 a1 a6 a7 a8 a9 ah ac
                have hsl := stp_le (l.drop i)
                rw [List.length_drop] at hsl
                by_cases gj : j < i + stp (l.drop i)
                · obtain ⟨z, hz, hz32⟩ := stp_in (l.drop i) (j - i) (by omega)
                  rw [List.getElem?_drop, show i + (j - i) = j by omega] at hz
                  have kz : (z != 32) = true := by simpa using hz32
                  have kj : decide (j < l.length) = true := by simp; omega
                  have kj2 : IntKind.i64.wrap ((j : Int) + 1) = ((j + 1 : Nat) : Int) := wrap_succ (by omega)
                  simp -implicitDefEqProofs [a0, a1, a6, a7, a8, a9, ah, ac, kj, hz, kz, u_eq, u_ne, kj2, to_normal, to_exit, to_ret, -decide_eq_true_eq, -decide_eq_false_iff_not, -beq_iff_eq, -beq_eq_false_iff_ne, -bne_iff_ne, -bne_eq_false_iff_eq]
                  refine ⟨l.length - (j + 1), by omega, j + 1, rfl, by omega, by omega, by simp⟩
                · have ej : j = i + stp (l.drop i) := by omega
                  by_cases gl : j < l.length
                  · have hz := stp_at (l.drop i) (by rw [List.length_drop]; omega)
                    rw [List.getElem?_drop, ← ej] at hz
                    have kj : decide (j < l.length) = true := by simp; omega
                    simp -implicitDefEqProofs [a0, a1, a6, a7, a8, a9, ah, ac, kj, hz, u_eq, u_ne, to_normal, to_exit, to_ret, -decide_eq_true_eq, -decide_eq_false_iff_not, -beq_iff_eq, -beq_eq_false_iff_ne, -bne_iff_ne, -bne_eq_false_iff_eq]
                    omega
                  · have kj : decide (j < l.length) = false := by simp; omega
                    simp -implicitDefEqProofs [a0, a1, a6, a7, a8, a9, ah, ac, kj, u_eq, u_ne, to_normal, to_exit, to_ret, -decide_eq_true_eq, -decide_eq_false_iff_not, -beq_iff_eq, -beq_eq_false_iff_ne, -bne_iff_ne, -bne_eq_false_iff_eq]
                    omega
              · rintro e ⟨t2, h2, c2⟩ ⟨rfl, a0, a1, a6, a7, a8, a9, ah, ac⟩
                simp only at a0 a1 a6 a7 a8 a9 ah ac
                subst ah
                subst ac
                have hsl := stp_le (l.drop i)
                rw [List.length_drop] at hsl
                have hpos : 0 < stp (l.drop i) := by rw [hd, stp, if_neg e5]; omega
                have hws := wds_stp w (l.drop i)
                rw [List.drop_drop] at hws
                have hpe : (l.take (i + stp (l.drop i))).drop i = (l.drop i).take (stp (l.drop i)) := by
                  rw [List.drop_take]
                  congr 1
                  omega
                have hplen : ((l.drop i).take (stp (l.drop i))).length = stp (l.drop i) := by rw [List.length_take, List.length_drop]; omega
                have hpne : (l.drop i).take (stp (l.drop i)) ≠ [] := by
                  intro e0
                  rw [e0] at hplen
                  simp only [List.length_nil] at hplen
                  omega
                generalize (l.drop i).take (stp (l.drop i)) = p at hws hpe hplen hpne
                obtain ⟨j, hj⟩ : ∃ j, j = i + stp (l.drop i) := ⟨_, rfl⟩
                have hij : j = i + p.length := by omega
                rw [← hj] at a9 hpe hws
                have hjl : j ≤ l.length := by omega
                have hdj : True := trivial
                have k5 : (i : Int) ≤ j := by omega
                have k6 : i ≤ j := by omega
                have hnum := Q.num
                have hlle := Q.lle
                cases g6 : (ln != ([] : Str))
                · have e6 : ln = [] := by simpa using g6
                  have els : ls = [] := Q.nil e6
                  have hlast : ∀ y, (ls ++ op ln).getLast? = some y → ¬ (y.length + 1 + p.length ≤ w) := by
                    rw [els, e6]
                    intro y hy
                    cases hy
                  have Qo := Q.out
                  simp -implicitDefEqProofs [a0, a1, a6, a7, a8, a9, hjl, k5, k6, hpe, g6, to_normal, to_exit, to_ret, Option.bind_assoc, -decide_eq_true_eq, -decide_eq_false_iff_not, -beq_iff_eq, -beq_eq_false_iff_ne, -bne_iff_ne, -bne_eq_false_iff_eq]
                  refine loop_to (R := RoundTo (RInv w l) (ROut w l) (l.length - i))
                    (fun k s => ∃ y ls', k = y.length ∧ s.t 0 = S l ∧ s.t 1 = I w ∧ s.t 8 = I (j : Nat) ∧ s.t 10 = S y ∧ OutL s.h s.c (s.t 6) ls' ∧ ls' ++ chunk w y = ls ++ (op ln ++ chunk w p) ∧ y ≠ [] ∧ ls'.length + y.length ≤ j)
                    (fun e s => e = .exit 4 ∧ ∃ y ls', ¬ w < y.length ∧ s.t 0 = S l ∧ s.t 1 = I w ∧ s.t 8 = I (j : Nat) ∧ s.t 10 = S y ∧ OutL s.h s.c (s.t 6) ls' ∧ ls' ++ chunk w y = ls ++ (op ln ++ chunk w p) ∧ y ≠ [] ∧ ls'.length + y.length ≤ j) ?_ ?_ p.length _ ?_
                  · rintro k ⟨t, h, c⟩ ⟨y, ls', rfl, h0, h1, h8, h10, O, hch, hy, hb⟩
                    simp only at h0 h1 h8 h10 O
                    by_cases g : w < y.length
                    · have k1 : decide (w < y.length) = true := by simp; omega
                      have k2 : w ≤ y.length := by omega
                      obtain ⟨v', h', e, O'⟩ := outL_append O (by omega) (y.take w)
                      have hyl : 0 < y.length := by omega
                      simp -implicitDefEqProofs [h0, h1, h8, h10, k1, k2, -appendA, e, to_normal, to_exit, to_ret, -decide_eq_true_eq, -decide_eq_false_iff_not, -beq_iff_eq, -beq_eq_false_iff_ne, -bne_iff_ne, -bne_eq_false_iff_eq]
                      refine ⟨(y.drop w).length, ?_, y.drop w, ?_, rfl, ls' ++ [y.take w], O', ?_, ?_, ?_⟩
                      · rw [List.length_drop]; omega
                      · simp
                      · rw [← hch, chunk_go hw g]; simp
                      · intro e0
                        have := congrArg List.length e0
                        rw [List.length_drop] at this
                        simp only [List.length_nil] at this
                        omega
                      · simp; omega
                    · have k1 : decide (w < y.length) = false := by simp; omega
                      simp -implicitDefEqProofs [h0, h1, h8, h10, k1, to_normal, to_exit, to_ret, -decide_eq_true_eq, -decide_eq_false_iff_not, -beq_iff_eq, -beq_eq_false_iff_ne, -bne_iff_ne, -bne_eq_false_iff_eq]
                      exact ⟨y, by omega, rfl, ls', O, hch, hy, hb⟩
                  · rintro e ⟨t, h, c⟩ ⟨rfl, y, ls', g, h0, h1, h8, h10, O, hch, hy, hb⟩
                    simp only at h0 h1 h8 h10 O
                    rw [chunk_end g, if_neg hy] at hch
                    simp -implicitDefEqProofs [h0, h1, h8, h10, to_normal, to_exit, to_ret, -decide_eq_true_eq, -decide_eq_false_iff_not, -beq_iff_eq, -beq_eq_false_iff_ne, -bne_iff_ne, -bne_eq_false_iff_eq]
                    refine ⟨l.length - j, by omega, j, y, ls', rfl, by simp [h0], by simp [h1], by simp, by simp [h8], by simpa using O, hjl, fun e0 => absurd e0 hy, by omega, by have := List.length_pos_iff.2 hy; simp [op, hy]; omega, ?_⟩
                    rw [op, if_neg hy, hch, ← Q.fold, hws, List.foldl_append, fold_chunk hw p _ hlast, List.append_assoc]
                  · exact ⟨p, ls, rfl, by simp [a0], by simp [a1], by simp, by simp, by simpa [a6] using Qo, by rw [e6]; simp [op], hpne, by omega⟩
                · have e6 : ln ≠ [] := by simpa using g6
                  have hop : op ln = [ln] := by rw [op, if_neg e6]
                  rw [hop, List.length_singleton] at hnum
                  have kx : IntKind.i64.wrap ((ln.length : Int) + 1) = (ln.length : Int) + 1 := wrap_id (by omega) (by omega)
                  have kz : IntKind.i64.wrap ((ln.length : Int) + 1 + (p.length : Int)) = (ln.length : Int) + 1 + (p.length : Int) := wrap_id (by omega) (by omega)
                  by_cases g7 : ln.length + 1 + p.length ≤ w
                  · have kg : decide ((ln.length : Int) + 1 + (p.length : Int) ≤ (w : Int)) = true := by simp; omega
                    have kr : 1 + p.length ≤ 140737488355328 := by omega
                    have kr2 : ln.length + (p.length + 1) ≤ 140737488355328 := by omega
                    simp -implicitDefEqProofs [a0, a1, a6, a7, a8, a9, hjl, k5, k6, hpe, g6, kx, kz, kg, kr, kr2, to_normal, to_exit, to_ret, Option.bind_assoc, -decide_eq_true_eq, -decide_eq_false_iff_not, -beq_iff_eq, -beq_eq_false_iff_ne, -bne_iff_ne, -bne_eq_false_iff_eq]
                    refine ⟨l.length - j, by omega, j, ln ++ 32 :: p, ls, rfl, by simp [a0], by simp [a1], by simp, by simp, by simpa [a6] using Q.out, hjl, fun e0 => by simp at e0, by simp; omega, by simp [op]; omega, ?_⟩
                    have hp1 : chunk w p = [p] := by rw [chunk_end (by omega), if_neg hpne]
                    rw [← Q.fold, hws, hp1, hop, List.foldl_append, List.foldl_cons, List.foldl_nil, jn_ne w ls ln p g7, op, if_neg (by simp)]
                  · have kg : decide ((ln.length : Int) + 1 + (p.length : Int) ≤ (w : Int)) = false := by simp; omega
                    have hlast : ∀ y, (ls ++ op ln).getLast? = some y → ¬ (y.length + 1 + p.length ≤ w) := by
                      rw [hop]
                      intro y hy
                      simp at hy
                      subst hy
                      exact g7
                    obtain ⟨v', h', e, O'⟩ := outL_append Q.out (by omega) ln
                    simp -implicitDefEqProofs [a0, a1, a6, a7, a8, a9, hjl, k5, k6, hpe, g6, kx, kz, kg, -appendA, e, to_normal, to_exit, to_ret, Option.bind_assoc, -decide_eq_true_eq, -decide_eq_false_iff_not, -beq_iff_eq, -beq_eq_false_iff_ne, -bne_iff_ne, -bne_eq_false_iff_eq]
                    refine loop_to (R := RoundTo (RInv w l) (ROut w l) (l.length - i))
                      (fun k s => ∃ y ls', k = y.length ∧ s.t 0 = S l ∧ s.t 1 = I w ∧ s.t 8 = I (j : Nat) ∧ s.t 10 = S y ∧ OutL s.h s.c (s.t 6) ls' ∧ ls' ++ chunk w y = ls ++ (op ln ++ chunk w p) ∧ y ≠ [] ∧ ls'.length + y.length ≤ j)
                      (fun e s => e = .exit 4 ∧ ∃ y ls', ¬ w < y.length ∧ s.t 0 = S l ∧ s.t 1 = I w ∧ s.t 8 = I (j : Nat) ∧ s.t 10 = S y ∧ OutL s.h s.c (s.t 6) ls' ∧ ls' ++ chunk w y = ls ++ (op ln ++ chunk w p) ∧ y ≠ [] ∧ ls'.length + y.length ≤ j) ?_ ?_ p.length _ ?_
                    · rintro k ⟨t, h, c⟩ ⟨y, ls', rfl, h0, h1, h8, h10, O, hch, hy, hb⟩
                      simp only at h0 h1 h8 h10 O
                      by_cases g : w < y.length
                      · have k1 : decide (w < y.length) = true := by simp; omega
                        have k2 : w ≤ y.length := by omega
                        obtain ⟨v', h', e, O'⟩ := outL_append O (by omega) (y.take w)
                        have hyl : 0 < y.length := by omega
                        simp -implicitDefEqProofs [h0, h1, h8, h10, k1, k2, -appendA, e, to_normal, to_exit, to_ret, -decide_eq_true_eq, -decide_eq_false_iff_not, -beq_iff_eq, -beq_eq_false_iff_ne, -bne_iff_ne, -bne_eq_false_iff_eq]
                        refine ⟨(y.drop w).length, ?_, y.drop w, ?_, rfl, ls' ++ [y.take w], O', ?_, ?_, ?_⟩
                        · rw [List.length_drop]; omega
                        · simp
                        · rw [← hch, chunk_go hw g]; simp
                        · intro e0
                          have := congrArg List.length e0
                          rw [List.length_drop] at this
                          simp only [List.length_nil] at this
                          omega
                        · simp; omega
                      · have k1 : decide (w < y.length) = false := by simp; omega
                        simp -implicitDefEqProofs [h0, h1, h8, h10, k1, to_normal, to_exit, to_ret, -decide_eq_true_eq, -decide_eq_false_iff_not, -beq_iff_eq, -beq_eq_false_iff_ne, -bne_iff_ne, -bne_eq_false_iff_eq]
                        exact ⟨y, by omega, rfl, ls', O, hch, hy, hb⟩
                    · rintro e ⟨t, h, c⟩ ⟨rfl, y, ls', g, h0, h1, h8, h10, O, hch, hy, hb⟩
                      simp only at h0 h1 h8 h10 O
                      rw [chunk_end g, if_neg hy] at hch
                      simp -implicitDefEqProofs [h0, h1, h8, h10, to_normal, to_exit, to_ret, -decide_eq_true_eq, -decide_eq_false_iff_not, -beq_iff_eq, -beq_eq_false_iff_ne, -bne_iff_ne, -bne_eq_false_iff_eq]
                      refine ⟨l.length - j, by omega, j, y, ls', rfl, by simp [h0], by simp [h1], by simp, by simp [h8], by simpa using O, hjl, fun e0 => absurd e0 hy, by omega, by have := List.length_pos_iff.2 hy; simp [op, hy]; omega, ?_⟩
                      rw [op, if_neg hy, hch, ← Q.fold, hws, List.foldl_append, fold_chunk hw p _ hlast, List.append_assoc]
                    · exact ⟨p, ls ++ [ln], rfl, by simp [a0], by simp [a1], by simp, by simp, by simpa using O', by rw [hop, List.append_assoc], hpne, by simp; omega⟩
              · exact ⟨i, rfl, Nat.le_refl _, by omega, by simp [h0], by simp [h1], by simp, by simp [h7], by simp [h8], by simp, rfl, rfl⟩
            · have e5 : x = 32 := beq_iff_eq.1 g5
              simp -implicitDefEqProofs [h0, h1, h7, h8, k4, hx, u_eq, u_ne, g5, ki, to_normal, to_exit, to_ret, -decide_eq_true_eq, -decide_eq_false_iff_not, -beq_iff_eq, -beq_eq_false_iff_ne, -bne_iff_ne, -bne_eq_false_iff_eq]
              refine ⟨l.length - (i + 1), by omega, i + 1, ln, ls, rfl, by simp [h0], by simp [h1], by simp [h7], by simp, by simpa using Q.out, by omega, Q.nil, Q.lle, by have := Q.num; omega, ?_⟩
              rw [← Q.fold, hd, e5, wds_blank]
          · have k4 : decide (i < l.length) = false := by simp; omega
            have e4 : i = l.length := by have := Q.ile; omega
            simp -implicitDefEqProofs [h0, h1, h7, h8, k4, to_normal, to_exit, to_ret, -decide_eq_true_eq, -decide_eq_false_iff_not, -beq_iff_eq, -beq_eq_false_iff_ne, -bne_iff_ne, -bne_eq_false_iff_eq]
            exact ⟨rfl, ln, ls, by simp [h0], by simp [h1], by simp [h7], by simpa using e4 ▸ Q⟩
        · rintro e ⟨t, h, c⟩ ⟨rfl, ln, ls, h0, h1, h7, Q⟩
          simp only at h0 h1 h7 Q
          have hf := Q.fold
          rw [List.drop_length, wds_nil, List.foldl_nil] at hf
          cases g5 : (ln != ([] : Str))
          · have e5 : ln = [] := by simpa using g5
            subst e5
            rw [op, if_pos rfl, List.append_nil] at hf
            simp -implicitDefEqProofs [h0, h1, h7, g5, -decide_eq_true_eq, -decide_eq_false_iff_not, -beq_iff_eq, -beq_eq_false_iff_ne, -bne_iff_ne, -bne_eq_false_iff_eq]
            exact ⟨_, _, _, ⟨rfl, rfl, rfl⟩, hf ▸ Q.out⟩
          · have e5 : ln ≠ [] := by simpa using g5
            rw [op, if_neg e5] at hf
            obtain ⟨v', h', e, O'⟩ := outL_append Q.out (by have := Q.num; omega) ln
            simp -implicitDefEqProofs [h0, h1, h7, g5, -appendA, e, -decide_eq_true_eq, -decide_eq_false_iff_not, -beq_iff_eq, -beq_eq_false_iff_ne, -bne_iff_ne, -bne_eq_false_iff_eq]
            exact ⟨_, _, _, ⟨rfl, rfl, rfl⟩, hf ▸ O'⟩
        · refine ⟨0, [], [], by simp, by simp, by simp, by simp, by simp, .inl ⟨rfl, rfl⟩, by omega, fun _ => rfl, by simp, by simp [op], ?_⟩
          simp [op, wrapP]
    · simp -implicitDefEqProofs [Tryd.f7, g1, cp, g2, -decide_eq_true_eq, -decide_eq_false_iff_not, -List.any_eq_true, -List.any_eq_false]
      exact ⟨_, _, _, ⟨rfl, rfl, rfl⟩, .inl ⟨rfl, rfl⟩⟩
  · simp -implicitDefEqProofs [Tryd.f7, g1]
    exact ⟨_, _, _, ⟨rfl, rfl, rfl⟩, .inl ⟨rfl, rfl⟩⟩
theorem rwrap_c (l : Str) (n : Int) (hl : l.length ≤ 30000) : ∃ b, ∀ h c, callA (mdT tblT) (run Tryd.prog (mdT tblT)) 7 [S l, I n] h c = some (.tup [.ro b (strs (wrapO l n).2), E (wrapO l n).1], h, c) :=
  call_tup rfl (fun _ => rfl) rfl (rwrap_ev l n hl)
theorem law3 (l : Str) (n : Int) : ∃ h c, run Tryd.prog (mdT tblT) 3 [S l, I n] Heap.none 0 = some (B true, h, c) := by
  rw [run_eq (show mdT tblT 3 = some .pure from rfl) rfl, Tryd.func3]
  by_cases g : 30000 < l.length
  · have k : decide (30000 < (l.length : Int)) = true := by simp; omega
    simp -implicitDefEqProofs [Tryd.f3, k, -decide_eq_true_eq, -decide_eq_false_iff_not]
  · have k : decide (30000 < (l.length : Int)) = false := by simp; omega
    obtain ⟨b1, e1⟩ := rwrap_c l n (by omega)
    obtain ⟨b2, e2⟩ := vwrap_c l n (by omega)
    have hll : (wrapO l n).2.length ≤ 9000000000000 := by
      unfold wrapO
      split
      · simp
      · split
        · simp
        · rename_i h1 h2
          have hw : 0 < n.toNat := by
            cases g1 : outP n 1 400
            · have := outP_in g1; omega
            · rw [g1] at h1; simp at h1
          have := fold_len n.toNat (wds n.toNat l) []
          have h3 := wds_len hw l
          simp only [wrapP, List.length_nil] at this ⊢
          omega
    have e3 := list_c b2 b1 (wrapO l n).2 (wrapO l n).2 hll
    simp -implicitDefEqProofs [Tryd.f3, k, e1, e2, e3, -decide_eq_true_eq, -decide_eq_false_iff_not]
end Go.Proofs.YtbaoaodimbcebaaDoor.AM
