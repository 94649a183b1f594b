/- Texts of the proof: part B10. -/
import Derived.Test.YtdckleaemkcapaaB9
set_option maxHeartbeats 0
set_option linter.unusedSimpArgs false
set_option linter.unusedVariables false
set_option linter.unusedSectionVars false
namespace Go.Proofs.Ytdckleaemkcapaa.AM
open Go Go.Proofs
attribute [local simp] AV.cells okc AV.isBad fieldAddrA ld setCells stA skipV appendA hd makeA bnd sliceA kindA freshA killOk loadsAt newT empT lay_get allocA buildA buildRow builtinA lenA els indexAddrA isNil opA evA lit yldA binA binI unA pickA boolV intV fieldA mk flat lf lf.lfs frz
structure AccOk (a : Acc) : Prop where
  lp : a.parts.length = 4
  cash : -1000000000000 ≤ a.cash ∧ a.cash ≤ 1000000000000
  loan : 0 ≤ a.loan ∧ a.loan ≤ 1000000000000
  parts : ∀ p ∈ a.parts, -1 ≤ p ∧ p ≤ 11
  none : a.opn = false → (∀ p ∈ a.parts, p = -1) ∧ a.cash = 0 ∧ a.loan = 0 ∧ a.last = []
  last : ∀ n ∈ a.last, -1000000000000 ≤ n ∧ n ≤ 1000000000000
structure Valid (b : Bnk) : Prop where
  len : b.accs.length = 12
  rate : 0 ≤ b.rate ∧ b.rate ≤ 100
  infl : 0 ≤ b.infl ∧ b.infl ≤ 100
  idx : 65536 ≤ b.idx ∧ b.idx ≤ 262144
  accs : ∀ a ∈ b.accs, AccOk a
  last : ∀ a ∈ b.accs, a.last.length ≤ 24
  book : b.book.length ≤ 20000
  ents : ∀ e ∈ b.book, (0 ≤ e.co ∧ e.co ≤ 11) ∧ (0 ≤ e.kd ∧ e.kd ≤ 9) ∧ e.am ≠ 0 ∧ (-1000000000000 ≤ e.am ∧ e.am ≤ 1000000000000)
theorem any_false {α : Type} {l : List α} {p : α → Bool} (h : l.any p = false) : ∀ x ∈ l, p x = false := by
  intro x hx
  cases e : p x with
  | false => rfl
  | true => rw [List.any_eq_true.2 ⟨x, hx, e⟩] at h; cases h
theorem accOk_of {a : Acc} (h : badP a = false) : AccOk a := by
  unfold badP at h
  simp only [Bool.or_eq_false_iff] at h
  obtain ⟨⟨⟨⟨⟨h0, h1⟩, h2⟩, h3⟩, h4⟩, h5⟩ := h
  refine ⟨by simp at h0; omega, outP_false.1 h1, outP_false.1 h2, fun p hp => ?_, fun ho => ?_, fun n hn => outP_false.1 (any_false h4 n hn)⟩
  · have := any_false h3 p hp
    unfold partP at this
    simp only [Bool.or_eq_false_iff] at this
    exact outP_false.1 this.1
  · rw [ho] at h5
    simp at h5
    refine ⟨fun p hp => ?_, h5.1.1, h5.1.2, by cases hl : a.last with | nil => rfl | cons x l => rw [hl] at h5; simp at h5⟩
    have := any_false h3 p hp
    unfold partP at this
    simp [ho] at this
    exact this.2
theorem val_cases (b : Bnk) : valP b = 4 ∨ valP b = 1 ∨ valP b = 0 := by
  unfold valP
  cases decide (20000 < (b.book.length : Int)) <;> cases b.accs.any longA <;> cases headP b <;> cases b.accs.any badP <;> cases b.book.any entP <;> simp
theorem valid_of {b : Bnk} (h : valP b = 0) : Valid b := by
  unfold valP at h
  cases h0 : decide (20000 < (b.book.length : Int)) <;> rw [h0] at h <;> simp only [cond_true, cond_false] at h
  case true => cases h
  cases h1 : b.accs.any longA <;> rw [h1] at h <;> simp only [cond_true, cond_false] at h
  case true => cases h
  cases h2 : headP b <;> rw [h2] at h <;> simp only [cond_true, cond_false] at h
  case true => cases h
  cases h3 : b.accs.any badP <;> rw [h3] at h <;> simp only [cond_true, cond_false] at h
  case true => cases h
  cases h4 : b.book.any entP <;> rw [h4] at h <;> simp only [cond_true, cond_false] at h
  case true => cases h
  unfold headP at h2
  simp only [Bool.or_eq_false_iff] at h2
  obtain ⟨⟨⟨k0, k1⟩, k2⟩, k3⟩ := h2
  refine ⟨by simp at k0; omega, outP_false.1 k1, outP_false.1 k2, outP_false.1 k3, fun a ha => accOk_of (any_false h3 a ha), fun a ha => ?_, by simp at h0; omega, fun e he => ?_⟩
  · have := any_false h1 a ha
    unfold longA at this
    simp at this
    omega
  · have := any_false h4 e he
    unfold entP at this
    simp only [Bool.or_eq_false_iff] at this
    obtain ⟨⟨⟨m0, m1⟩, m2⟩, m3⟩ := this
    exact ⟨outP_false.1 m0, outP_false.1 m1, by simpa using m2, outP_false.1 m3⟩
def opnAt (b : Bnk) (n : Int) : Bool := ((b.accs[n.toNat]?).map Acc.opn).getD false
def coP (n : Int) : Bool := outP n 0 11
def notOpn (b : Bnk) (n : Int) : Bool := !opnAt b n
def chkP (b : Bnk) (l : List Int) : Int := bif valP b == 0 then bif l.any coP then 1 else bif l.any (notOpn b) then 2 else 0 else valP b
theorem rchk_ev (b : Bnk) (w : b.Wfb) (l : List Int) (hl : l.length ≤ 9223372036854775807) : ∃ h c, run Try.prog (mdT tblB) 71 [b.av, .ro false (ints l)] Heap.none 0 = some (E (chkP b l), h, c) := by
  rw [run_eq, show mdT tblB 71 = some .pure from rfl, Option.bind_some, Try.func71]
  have hvl := rval_c b w
  generalize hv : chkP b l = v
  unfold chkP at hv
  unfold Bnk.av
  by_cases g0 : valP b = 0
  case neg =>
    have g1 : (valP b == 0) = false := by simpa using g0
    have g2 : (valP b != 0) = true := by simp [bne, g1]
    rw [g1] at hv; simp only [cond_false] at hv
    rw [hv] at g2 hvl
    simp -implicitDefEqProofs [Try.f71, hvl, g2]
  have vb := valid_of g0
  rw [g0] at hv hvl; simp only [BEq.rfl, cond_true] at hv
  simp -implicitDefEqProofs [Try.f71, hvl, Option.bind_assoc]
  refine scan_list (R := fun o => ∃ h c, o = some (E v, h, c)) l coP (fun j s => s.h 0 = some ⟨5, [bc b]⟩ ∧ s.t 1 = .ro false (ints l) ∧ s.t 2 = .ptr 0 0 0 ∧ s.t 6 = I j) _ ?_ ?_ ?_ ?_
  · simp
  · rintro j ⟨t, h, c⟩ ⟨h0, t1, t2, t6⟩ hj hp
    simp only at h0 t1 t2 t6
    unfold coP at hp
    simp -implicitDefEqProofs [h0, t1, t2, t6, hj, hp]
    first | exact ⟨by omega, wrap_succ (by omega)⟩ | exact wrap_succ (by omega)
  · rintro j ⟨t, h, c⟩ ⟨h0, t1, t2, t6⟩ hj hp ha
    simp only at h0 t1 t2 t6
    rw [ha] at hv; simp only [cond_true] at hv
    unfold coP at hp
    simp -implicitDefEqProofs [h0, t1, t2, t6, hj, hp, ← hv]
  · rintro ⟨t, h, c⟩ ⟨h0, t1, t2, t6⟩ ha
    simp only at h0 t1 t2 t6
    have hco := any_false ha
    rw [ha] at hv; simp only [cond_false] at hv
    simp -implicitDefEqProofs [h0, t1, t2, t6, Option.bind_assoc]
    refine scan_list (R := fun o => ∃ h c, o = some (E v, h, c)) l (notOpn b) (fun j s => s.h 0 = some ⟨5, [bc b]⟩ ∧ s.t 1 = .ro false (ints l) ∧ s.t 2 = .ptr 0 0 0 ∧ s.t 7 = I j) _ ?_ ?_ ?_ ?_
    · simp [h0, t1, t2, t6]
    · rintro j ⟨t, h, c⟩ ⟨h0, t1, t2, t7⟩ hj hp
      simp only at h0 t1 t2 t7
      have hc := hco _ (List.getElem_mem hj)
      unfold coP at hc
      obtain ⟨c1, c2⟩ := outP_false.1 hc
      have hn : l[j].toNat < b.accs.length := by have := vb.len; omega
      unfold notOpn opnAt at hp
      simp [hn] at hp
      simp -implicitDefEqProofs [h0, t1, t2, t7, hj, hn, hp, c1, Acc.cells]
      first | exact ⟨by omega, wrap_succ (by omega)⟩ | exact wrap_succ (by omega)
    · rintro j ⟨t, h, c⟩ ⟨h0, t1, t2, t7⟩ hj hp ha
      simp only at h0 t1 t2 t7
      rw [ha] at hv; simp only [cond_true] at hv
      have hc := hco _ (List.getElem_mem hj)
      unfold coP at hc
      obtain ⟨c1, c2⟩ := outP_false.1 hc
      have hn : l[j].toNat < b.accs.length := by have := vb.len; omega
      unfold notOpn opnAt at hp
      simp [hn] at hp
      simp -implicitDefEqProofs [h0, t1, t2, t7, hj, hn, hp, c1, ← hv, Acc.cells]
    · rintro ⟨t, h, c⟩ ⟨h0, t1, t2, t7⟩ ha
      simp only at h0 t1 t2 t7
      rw [ha] at hv; simp only [cond_false] at hv
      simp -implicitDefEqProofs [h0, t1, t2, t7, ← hv]
theorem rchk_c (b : Bnk) (w : b.Wfb) (l : List Int) (hl : l.length ≤ 9223372036854775807) (v : AV) (h : Heap) (c : Nat) (hv : frz h depth v = some (.ro false (ints l))) : callA (mdT tblB) (run Try.prog (mdT tblB)) 71 [.agg (bc b), v] h c = some (E (chkP b l), h, c) := by
  obtain ⟨h', c', e⟩ := rchk_ev b w l hl
  refine call_of (vs := [b.av, .ro false (ints l)]) rfl ?_ e rfl rfl
  rw [List.mapM_cons, List.mapM_cons, hv]
  rfl
theorem bchk_ev (b : Bnk) (w : b.Wfb) (l : List Int) (hl : l.length ≤ 9223372036854775807) : ∃ h c, run Try.prog (mdT tblB) 73 [b.av, .ro false (ints l)] Heap.none 0 = some (E (chkP b l), h, c) := by
  rw [run_eq, show mdT tblB 73 = some .pure from rfl, Option.bind_some, Try.func73]
  have hvl := bval_c b w
  generalize hv : chkP b l = v
  unfold chkP at hv
  unfold Bnk.av
  by_cases g0 : valP b = 0
  case neg =>
    have g1 : (valP b == 0) = false := by simpa using g0
    have g2 : (valP b != 0) = true := by simp [bne, g1]
    rw [g1] at hv; simp only [cond_false] at hv
    rw [hv] at g2 hvl
    simp -implicitDefEqProofs [Try.f73, hvl, g2]
  have vb := valid_of g0
  rw [g0] at hv hvl; simp only [BEq.rfl, cond_true] at hv
  simp -implicitDefEqProofs [Try.f73, hvl, Option.bind_assoc]
  refine scan_list (R := fun o => ∃ h c, o = some (E v, h, c)) l coP (fun j s => s.h 0 = some ⟨5, [bc b]⟩ ∧ s.t 1 = .ro false (ints l) ∧ s.t 2 = .ptr 0 0 0 ∧ s.t 15 = .ro false (ints l) ∧ s.t 16 = I l.length ∧ s.t 17 = I j) _ ?_ ?_ ?_ ?_
  · simp
  · rintro j ⟨t, h, c⟩ ⟨h0, t1, t2, ta, tb, t6⟩ hj hp
    simp only at h0 t1 t2 ta tb t6
    unfold coP at hp
    simp -implicitDefEqProofs [h0, t1, t2, ta, tb, t6, hj, hp]
    first | exact ⟨by omega, wrap_succ (by omega)⟩ | exact wrap_succ (by omega)
  · rintro j ⟨t, h, c⟩ ⟨h0, t1, t2, ta, tb, t6⟩ hj hp ha
    simp only at h0 t1 t2 ta tb t6
    rw [ha] at hv; simp only [cond_true] at hv
    unfold coP at hp
    simp -implicitDefEqProofs [h0, t1, t2, ta, tb, t6, hj, hp, ← hv]
  · rintro ⟨t, h, c⟩ ⟨h0, t1, t2, ta, tb, t6⟩ ha
    simp only at h0 t1 t2 ta tb t6
    have hco := any_false ha
    rw [ha] at hv; simp only [cond_false] at hv
    simp -implicitDefEqProofs [h0, t1, t2, ta, tb, t6, Option.bind_assoc]
    refine scan_list (R := fun o => ∃ h c, o = some (E v, h, c)) l (notOpn b) (fun j s => s.h 0 = some ⟨5, [bc b]⟩ ∧ s.t 1 = .ro false (ints l) ∧ s.t 2 = .ptr 0 0 0 ∧ s.t 25 = .ro false (ints l) ∧ s.t 26 = I l.length ∧ s.t 27 = I j) _ ?_ ?_ ?_ ?_
    · simp [h0, t1, t2, ta, tb, t6]
    · rintro j ⟨t, h, c⟩ ⟨h0, t1, t2, ta, tb, t7⟩ hj hp
      simp only at h0 t1 t2 ta tb t7
      have hc := hco _ (List.getElem_mem hj)
      unfold coP at hc
      obtain ⟨c1, c2⟩ := outP_false.1 hc
      have hn : l[j].toNat < b.accs.length := by have := vb.len; omega
      unfold notOpn opnAt at hp
      simp [hn] at hp
      simp -implicitDefEqProofs [h0, t1, t2, ta, tb, t7, hj, hn, hp, c1, Acc.cells]
      first | exact ⟨by omega, wrap_succ (by omega)⟩ | exact wrap_succ (by omega)
    · rintro j ⟨t, h, c⟩ ⟨h0, t1, t2, ta, tb, t7⟩ hj hp ha
      simp only at h0 t1 t2 ta tb t7
      rw [ha] at hv; simp only [cond_true] at hv
      have hc := hco _ (List.getElem_mem hj)
      unfold coP at hc
      obtain ⟨c1, c2⟩ := outP_false.1 hc
      have hn : l[j].toNat < b.accs.length := by have := vb.len; omega
      unfold notOpn opnAt at hp
      simp [hn] at hp
      simp -implicitDefEqProofs [h0, t1, t2, ta, tb, t7, hj, hn, hp, c1, ← hv, Acc.cells]
    · rintro ⟨t, h, c⟩ ⟨h0, t1, t2, ta, tb, t7⟩ ha
      simp only at h0 t1 t2 ta tb t7
      rw [ha] at hv; simp only [cond_false] at hv
      simp -implicitDefEqProofs [h0, t1, t2, ta, tb, t7, ← hv]
theorem bchk_c (b : Bnk) (w : b.Wfb) (l : List Int) (hl : l.length ≤ 9223372036854775807) (v : AV) (h : Heap) (c : Nat) (hv : frz h depth v = some (.ro false (ints l))) : callA (mdT tblB) (run Try.prog (mdT tblB)) 73 [.agg (bc b), v] h c = some (E (chkP b l), h, c) := by
  obtain ⟨h', c', e⟩ := bchk_ev b w l hl
  refine call_of (vs := [b.av, .ro false (ints l)]) rfl ?_ e rfl rfl
  rw [List.mapM_cons, List.mapM_cons, hv]
  rfl
def clampP (n : Int) : Int := if n < -1000000000000 then -1000000000000 else if 1000000000000 < n then 1000000000000 else n
def worthP (a : Acc) (assets : Int) : Int := clampP (IntKind.i64.wrap (IntKind.i64.wrap (a.cash - a.loan) + assets))
theorem rworth_x (a : Acc) (k : Int) (h : Heap) (c : Nat) : callA (mdT tblB) (run Try.prog (mdT tblB)) 72 [.agg (ac a), I k] h c = some (I (worthP a k), h, c) := by
  obtain ⟨h', c', e⟩ : ∃ h c, run Try.prog (mdT tblB) 72 [.agg (ac a), I k] Heap.none 0 = some (I (worthP a k), h, c) := by
    unfold worthP
    rw [run_eq, show mdT tblB 72 = some .pure from rfl, Option.bind_some, Try.func72]
    generalize hw : IntKind.i64.wrap (IntKind.i64.wrap (a.cash - a.loan) + k) = n
    simp -implicitDefEqProofs [Try.f72, max2, min2, hw]
    unfold clampP
    split <;> split <;> (try split) <;> (try split) <;> omega
  exact call_of rfl rfl e rfl rfl
theorem bworth_x (a : Acc) (k : Int) (h : Heap) (c : Nat) : callA (mdT tblB) (run Try.prog (mdT tblB)) 74 [.agg (ac a), I k] h c = some (I (worthP a k), h, c) := by
  obtain ⟨h', c', e⟩ : ∃ h c, run Try.prog (mdT tblB) 74 [.agg (ac a), I k] Heap.none 0 = some (I (worthP a k), h, c) := by
    unfold worthP
    rw [run_eq, show mdT tblB 74 = some .pure from rfl, Option.bind_some, Try.func74]
    generalize hw : IntKind.i64.wrap (IntKind.i64.wrap (a.cash - a.loan) + k) = n
    simp -implicitDefEqProofs [Try.f74, max2, min2, hw]
    unfold clampP
    split <;> split <;> (try split) <;> (try split) <;> omega
  exact call_of rfl rfl e rfl rfl
end Go.Proofs.Ytdckleaemkcapaa.AM
