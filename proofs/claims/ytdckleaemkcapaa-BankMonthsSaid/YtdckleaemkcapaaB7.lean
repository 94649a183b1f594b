/- Texts of the proof: part B7. -/
import Derived.Test.YtdckleaemkcapaaB6
set_option maxHeartbeats 0
set_option linter.unusedSimpArgs false
set_option linter.unusedVariables false
set_option linter.unusedSectionVars false
namespace Go.Proofs.Ytdckleaemkcapaa.AM
open Go Go.Proofs
attribute [local simp] AV.cells okc AV.isBad fieldAddrA ld setCells stA skipV appendA hd makeA bnd sliceA kindA freshA killOk loadsAt newT empT lay_get allocA buildA buildRow builtinA lenA els indexAddrA isNil opA evA lit yldA binA binI unA pickA boolV intV fieldA mk flat lf lf.lfs frz
def Acc.nrm (a : Acc) : Acc := { a with np := false, nl := false }
def Bnk.nrm (b : Bnk) : Bnk := { b with na := false, nb := false, accs := b.accs.map Acc.nrm }
theorem listi_ev (z1 z2 : Bool) (l : List Int) (hn : l.length ≤ 9223372036854775807) : ∃ h c, run Try.prog (mdT tblB) 34 [.ro z1 (ints l), .ro z2 (ints l)] Heap.none 0 = some (B true, h, c) := by
  rw [run_eq, show mdT tblB 34 = some .pure from rfl, Option.bind_some, Try.func34]
  simp -implicitDefEqProofs [Try.f34, Option.bind_assoc]
  refine count_to (R := fun o => ∃ h c, o = some (B true, h, c)) l.length (fun j s => s.t 0 = .ro z1 (ints l) ∧ s.t 1 = .ro z2 (ints l) ∧ s.t 5 = I j) _ ?_ ?_ ?_
  · simp
  · rintro j ⟨t, h, c⟩ ⟨t0, t1, t5⟩ hj
    simp only at t0 t1 t5
    simp -implicitDefEqProofs [t0, t1, t5, hj]
    exact wrap_succ (by omega)
  · rintro ⟨t, h, c⟩ ⟨t0, t1, t5⟩
    simp only at t0 t1 t5
    simp -implicitDefEqProofs [t0, t1, t5]
theorem listi_c (z1 z2 : Bool) (l : List Int) (hn : l.length ≤ 9223372036854775807) (h : Heap) (c : Nat) : callA (mdT tblB) (run Try.prog (mdT tblB)) 34 [.ro z1 (ints l), .ro z2 (ints l)] h c = some (B true, h, c) := by
  obtain ⟨h', c', e⟩ := listi_ev z1 z2 l hn
  exact call_of rfl rfl e rfl rfl
theorem liste_ev (z1 z2 : Bool) (l : List Ent) (hn : l.length ≤ 9223372036854775807) : ∃ h c, run Try.prog (mdT tblB) 66 [.ro z1 (l.map Ent.cells), .ro z2 (l.map Ent.cells)] Heap.none 0 = some (B true, h, c) := by
  rw [run_eq, show mdT tblB 66 = some .pure from rfl, Option.bind_some, Try.func66]
  simp -implicitDefEqProofs [Try.f66, Option.bind_assoc]
  refine count_to (R := fun o => ∃ h c, o = some (B true, h, c)) l.length (fun j s => s.t 0 = .ro z1 (l.map Ent.cells) ∧ s.t 1 = .ro z2 (l.map Ent.cells) ∧ s.t 5 = I j) _ ?_ ?_ ?_
  · simp
  · rintro j ⟨t, h, c⟩ ⟨t0, t1, t5⟩ hj
    simp only at t0 t1 t5
    simp -implicitDefEqProofs [t0, t1, t5, hj, Ent.cells, eqs]
    exact wrap_succ (by omega)
  · rintro ⟨t, h, c⟩ ⟨t0, t1, t5⟩
    simp only at t0 t1 t5
    simp -implicitDefEqProofs [t0, t1, t5]
theorem liste_c (z1 z2 : Bool) (l : List Ent) (hn : l.length ≤ 9223372036854775807) (h : Heap) (c : Nat) : callA (mdT tblB) (run Try.prog (mdT tblB)) 66 [.ro z1 (l.map Ent.cells), .ro z2 (l.map Ent.cells)] h c = some (B true, h, c) := by
  obtain ⟨h', c', e⟩ := liste_ev z1 z2 l hn
  exact call_of rfl rfl e rfl rfl
theorem nrm_get {a b : Bnk} (h : a.nrm = b.nrm) : a.rate = b.rate ∧ a.infl = b.infl ∧ a.idx = b.idx ∧ a.book = b.book ∧ a.accs.length = b.accs.length ∧
    ∀ j (h1 : j < a.accs.length) (h2 : j < b.accs.length), a.accs[j].opn = b.accs[j].opn ∧ a.accs[j].cash = b.accs[j].cash ∧ a.accs[j].loan = b.accs[j].loan ∧ a.accs[j].parts = b.accs[j].parts ∧ a.accs[j].last = b.accs[j].last := by
  obtain ⟨na, la, r1, r2, r3, nb, k⟩ := a
  obtain ⟨na', la', r1', r2', r3', nb', k'⟩ := b
  simp only [Bnk.nrm, Bnk.mk.injEq, true_and] at h
  obtain ⟨h0, h1, h2, h3, h4⟩ := h
  refine ⟨h1, h2, h3, h4, by simpa using congrArg List.length h0, fun j g1 g2 => ?_⟩
  simp only at g1 g2
  have e : (la.map Acc.nrm)[j]? = (la'.map Acc.nrm)[j]? := by rw [h0]
  simp only [List.getElem?_map, List.getElem?_eq_getElem g1, List.getElem?_eq_getElem g2, Option.map_some, Option.some.injEq, Acc.nrm, Acc.mk.injEq, true_and] at e
  simpa using e
theorem same_ev (a b : Bnk) (hs : a.nrm = b.nrm) (w : a.Wfb) : ∃ h c, run Try.prog (mdT tblB) 25 [a.av, b.av] Heap.none 0 = some (B true, h, c) := by
  obtain ⟨e1, e2, e3, e4, e5, e6⟩ := nrm_get hs
  have hl := fun z1 z2 h c => liste_c z1 z2 b.book (by rw [← e4]; exact w.lb) h c
  have hm := w.la
  rw [run_eq, show mdT tblB 25 = some .pure from rfl, Option.bind_some, Try.func25]
  unfold Bnk.av
  rw [e1, e2, e3, e4]
  simp -implicitDefEqProofs [Try.f25, e5, hl, Option.bind_assoc]
  refine count_to (R := fun o => ∃ h c, o = some (B true, h, c)) a.accs.length (fun j s => s.h 0 = some ⟨5, [[.ro a.na (a.accs.map Acc.cells), I b.rate, I b.infl, I b.idx, .ro a.nb (b.book.map Ent.cells)]]⟩ ∧ s.h 1 = some ⟨5, [bc b]⟩ ∧ 1 < s.c ∧ s.t 2 = .ptr 0 0 0 ∧ s.t 3 = .ptr 1 0 0 ∧ s.t 5 = I j) _ ?_ ?_ ?_
  · simp
  · rintro j ⟨t, h, c⟩ ⟨h0, h1, hc, t2, t3, t5⟩ hj
    simp only at h0 h1 hc t2 t3 t5
    have hj' : j < b.accs.length := by omega
    obtain ⟨f1, f2, f3, f4, f5⟩ := e6 j hj hj'
    have n1 : ¬ (0 = c) := by omega
    have n2 : ¬ (c = 0) := by omega
    have n3 : ¬ (1 = c) := by omega
    have n4 : ¬ (c = 1) := by omega
    have n5 : ¬ (0 = c + 1) := by omega
    have n6 : ¬ (1 = c + 1) := by omega
    have n7 : ¬ (c + 1 = 0) := by omega
    have n8 : ¬ (c + 1 = 1) := by omega
    have n9 : ¬ (c + 1 ≤ c) := by omega
    have m1 : ¬ (c ≤ 0) := by omega
    have m2 : ¬ (c ≤ 1) := by omega
    have m3 : ¬ (c + 1 ≤ 0) := by omega
    have m4 : ¬ (c + 1 ≤ 1) := by omega
    have l1 := fun z1 z2 h c => listi_c z1 z2 b.accs[j].parts (by rw [← f4]; exact (w.accs _ (List.getElem_mem hj)).lp) h c
    have l2 := fun z1 z2 h c => listi_c z1 z2 b.accs[j].last (by rw [← f5]; exact (w.accs _ (List.getElem_mem hj)).ll) h c
    have k1 : decide ((j : Int) < (a.accs.length : Int)) = true := decide_eq_true (by omega)
    simp -implicitDefEqProofs [h0, h1, t2, t3, t5, hj, hj', k1, n1, n2, n3, n4, n5, n6, n7, n8, n9, m1, m2, m3, m4, f1, f2, f3, f4, f5, l1, l2, Acc.cells]
    first | exact ⟨by omega, wrap_succ (by omega)⟩ | exact wrap_succ (by omega)
  · rintro ⟨t, h, c⟩ ⟨h0, h1, hc, t2, t3, t5⟩
    simp only at h0 h1 hc t2 t3 t5
    simp -implicitDefEqProofs [h0, h1, t2, t3, t5]
theorem same_c (a b : Bnk) (hs : a.nrm = b.nrm) (w : a.Wfb) (h : Heap) (c : Nat) : callA (mdT tblB) (run Try.prog (mdT tblB)) 25 [.agg (bc a), .agg (bc b)] h c = some (B true, h, c) := by
  obtain ⟨h', c', e⟩ := same_ev a b hs w
  exact call_of rfl rfl e rfl rfl
end Go.Proofs.Ytdckleaemkcapaa.AM
