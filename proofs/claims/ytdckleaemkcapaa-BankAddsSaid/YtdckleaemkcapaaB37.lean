/- Texts of the proof: part B37. -/
import Derived.Test.YtdckleaemkcapaaB36
set_option maxHeartbeats 0
set_option linter.unusedSimpArgs false
set_option linter.unusedVariables false
set_option linter.unusedSectionVars false
namespace Go.Proofs.Ytdckleaemkcapaa.AM
open Go Go.Proofs
attribute [local simp] AV.cells okc AV.isBad fieldAddrA ld setCells stA skipV appendA hd makeA bnd sliceA kindA freshA killOk loadsAt newT empT lay_get allocA buildA buildRow builtinA lenA els indexAddrA isNil opA evA lit yldA binA binI unA pickA boolV intV fieldA mk flat lf lf.lfs frz
def newLast (a : Acc) (k : Int) : List Int := (a.last ++ [worthP a k]).drop (a.last.length - 23)
def qStep (l : List Int) (X : List Acc) (j : Nat) : List Acc := match X[j]? with
  | some a => bif a.opn then X.set j { a with last := newLast a ((l[j]?).getD 0) } else X
  | none => X
def qN (b : Bnk) (l : List Int) : Nat → List Acc
  | 0 => b.accs
  | j + 1 => qStep l (qN b l j) j
theorem qStep_none {l : List Int} {X : List Acc} {j : Nat} (h : X[j]? = none) : qStep l X j = X := by unfold qStep; rw [h]
theorem qStep_shut {l : List Int} {X : List Acc} {j : Nat} {a : Acc} (h : X[j]? = some a) (ho : a.opn = false) : qStep l X j = X := by unfold qStep; rw [h]; simp only [ho, cond_false]
theorem qStep_open {l : List Int} {X : List Acc} {j : Nat} {a : Acc} (h : X[j]? = some a) (ho : a.opn = true) : qStep l X j = X.set j { a with last := newLast a ((l[j]?).getD 0) } := by unfold qStep; rw [h]; simp only [ho, cond_true]
theorem qN_len (b : Bnk) (l : List Int) : ∀ j, (qN b l j).length = b.accs.length
  | 0 => rfl
  | j + 1 => by
    show (qStep l (qN b l j) j).length = _
    cases h : (qN b l j)[j]? with
    | none => rw [qStep_none h]; exact qN_len b l j
    | some a =>
      cases ho : a.opn with
      | false => rw [qStep_shut h ho]; exact qN_len b l j
      | true => rw [qStep_open h ho, List.length_set]; exact qN_len b l j
theorem qN_get (b : Bnk) (l : List Int) : ∀ j i, j ≤ i → (qN b l j)[i]? = b.accs[i]?
  | 0, _, _ => rfl
  | j + 1, i, hi => by
    show (qStep l (qN b l j) j)[i]? = _
    have ih := qN_get b l j i (by omega)
    cases h : (qN b l j)[j]? with
    | none => rw [qStep_none h]; exact ih
    | some a =>
      cases ho : a.opn with
      | false => rw [qStep_shut h ho]; exact ih
      | true => rw [qStep_open h ho, List.getElem?_set, if_neg (by omega)]; exact ih
theorem newLast_len {a : Acc} (h : a.last.length ≤ 24) (k : Int) : (newLast a k).length ≤ 24 := by
  unfold newLast
  simp
  omega
theorem qN_small {b : Bnk} (v : Valid b) (l : List Int) : ∀ j, Small (qN b l j)
  | 0 => small_of v
  | j + 1 => by
    show Small (qStep l (qN b l j) j)
    have e := qN_get b l j j (Nat.le_refl _)
    cases h : (qN b l j)[j]? with
    | none => rw [qStep_none h]; exact qN_small v l j
    | some a =>
      cases ho : a.opn with
      | false => rw [qStep_shut h ho]; exact qN_small v l j
      | true =>
        rw [qStep_open h ho]
        have hm : a ∈ b.accs := by rw [h] at e; exact List.mem_of_getElem? e.symm
        have k1 := (v.accs _ hm).lp
        have k2 := newLast_len (v.last _ hm) ((l[j]?).getD 0)
        exact small_set (qN_small v l j) (show a.parts.length ≤ _ by omega) (show (newLast a _).length ≤ _ by omega)
def monI (n : Int) : Bool := outP n 0 1000000000000
def quP (b : Bnk) (l : List Int) : Int × Bnk := bif valP b == 0 then bif (l.length : Int) != 12 then (8, noB) else bif l.any monI then (1, noB) else (0, ⟨false, qN b l 12, b.rate, b.infl, b.idx, false, b.book⟩) else (valP b, noB)
theorem worth_o {f : Nat} (hf : f = 72 ∨ f = 74) (a : Acc) (k : Int) (h : Heap) (c : Nat) {vp vl : AV} (s1 : SlV 1 vp) (s2 : SlV 1 vl) (e1 : els h vp = some (ints a.parts)) (e2 : els h vl = some (ints a.last)) :
    callA (mdT tblB) (run Try.prog (mdT tblB)) f [.agg [B a.opn, I a.cash, I a.loan, vp, vl], I k] h c = some (I (worthP a k), h, c) := by
  obtain ⟨z1, g1, _⟩ := frz_els 9 (.inl s1) e1
  obtain ⟨z2, g2, _⟩ := frz_els 9 (.inl s2) e2
  obtain ⟨h', c', e⟩ : ∃ h c, run Try.prog (mdT tblB) f [.agg (ac { a with np := z1, nl := z2 }), I k] Heap.none 0 = some (I (worthP a k), h, c) := by
    rcases hf with rfl | rfl
    · unfold worthP
      rw [run_eq, show mdT tblB 72 = some .pure from rfl, Option.bind_some, Try.func72]
      generalize hw : IntKind.i64.wrap (IntKind.i64.wrap (a.cash - a.loan) + k) = n
      simp -implicitDefEqProofs [Try.f72, max2, min2, hw]
      unfold clampP
      split <;> split <;> (try split) <;> (try split) <;> omega
    · unfold worthP
      rw [run_eq, show mdT tblB 74 = some .pure from rfl, Option.bind_some, Try.func74]
      generalize hw : IntKind.i64.wrap (IntKind.i64.wrap (a.cash - a.loan) + k) = n
      simp -implicitDefEqProofs [Try.f74, max2, min2, hw]
      unfold clampP
      split <;> split <;> (try split) <;> (try split) <;> omega
  have hm : mdT tblB f = some .pure := by rcases hf with rfl | rfl <;> rfl
  refine call_of (vs := [.agg (ac { a with np := z1, nl := z2 }), I k]) hm ?_ e rfl rfl
  have g : frz h depth (.agg [B a.opn, I a.cash, I a.loan, vp, vl]) = some (.agg (ac { a with np := z1, nl := z2 })) := by
    show (List.mapM (frz h 11) [B a.opn, I a.cash, I a.loan, vp, vl]).map AV.agg = _
    rw [List.mapM_cons, List.mapM_cons, List.mapM_cons, List.mapM_cons, List.mapM_cons, g1, g2]
    rfl
  rw [List.mapM_cons, List.mapM_cons, g]
  rfl
end Go.Proofs.Ytdckleaemkcapaa.AM
