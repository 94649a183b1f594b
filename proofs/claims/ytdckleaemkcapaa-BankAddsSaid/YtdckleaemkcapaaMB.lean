/- Parts of the proof: B10, B11, B12, B13. -/
import Derived.Test.YtdckleaemkcapaaMA
set_option maxHeartbeats 0
set_option linter.unusedSimpArgs false
set_option linter.unusedVariables false
set_option linter.unusedSectionVars false
namespace Go.Proofs.Ytdckleaemkcapaa.AM
open Go Go.Proofs
attribute [local simp] AV.cells okc AV.isBad fieldAddrA ld setCells stA skipV appendA hd makeA bnd sliceA kindA freshA killOk loadsAt newT empT lay_get allocA buildA buildRow builtinA lenA els indexAddrA isNil opA evA lit yldA binA binI unA pickA boolV intV fieldA mk flat lf lf.lfs frz
structure AccOk (a : Acc) : Prop where
  lp : a.parts.length = 4
  cash : -1000000000000 ≤ a.cash ∧ a.cash ≤ 1000000000000
  loan : 0 ≤ a.loan ∧ a.loan ≤ 1000000000000
  parts : ∀ p ∈ a.parts, -1 ≤ p ∧ p ≤ 11
  none : a.opn = false → (∀ p ∈ a.parts, p = -1) ∧ a.cash = 0 ∧ a.loan = 0 ∧ a.last = []
  last : ∀ n ∈ a.last, -1000000000000 ≤ n ∧ n ≤ 1000000000000
structure Valid (b : Bnk) : Prop where
  len : b.accs.length = 12
  rate : 0 ≤ b.rate ∧ b.rate ≤ 100
  infl : 0 ≤ b.infl ∧ b.infl ≤ 100
  idx : 65536 ≤ b.idx ∧ b.idx ≤ 262144
  accs : ∀ a ∈ b.accs, AccOk a
  last : ∀ a ∈ b.accs, a.last.length ≤ 24
  book : b.book.length ≤ 20000
  ents : ∀ e ∈ b.book, (0 ≤ e.co ∧ e.co ≤ 11) ∧ (0 ≤ e.kd ∧ e.kd ≤ 9) ∧ e.am ≠ 0 ∧ (-1000000000000 ≤ e.am ∧ e.am ≤ 1000000000000)
theorem any_false {α : Type} {l : List α} {p : α → Bool} (h : l.any p = false) : ∀ x ∈ l, p x = false := by
  intro x hx
  cases e : p x with
  | false => rfl
  | true => rw [List.any_eq_true.2 ⟨x, hx, e⟩] at h; cases h
theorem accOk_of {a : Acc} (h : badP a = false) : AccOk a := by
  unfold badP at h
  simp only [Bool.or_eq_false_iff] at h
  obtain ⟨⟨⟨⟨⟨h0, h1⟩, h2⟩, h3⟩, h4⟩, h5⟩ := h
  refine ⟨by simp at h0; omega, outP_false.1 h1, outP_false.1 h2, fun p hp => ?_, fun ho => ?_, fun n hn => outP_false.1 (any_false h4 n hn)⟩
  · have := any_false h3 p hp
    unfold partP at this
    simp only [Bool.or_eq_false_iff] at this
    exact outP_false.1 this.1
  · rw [ho] at h5
    simp at h5
    refine ⟨fun p hp => ?_, h5.1.1, h5.1.2, by cases hl : a.last with | nil => rfl | cons x l => rw [hl] at h5; simp at h5⟩
    have := any_false h3 p hp
    unfold partP at this
    simp [ho] at this
    exact this.2
theorem val_cases (b : Bnk) : valP b = 4 ∨ valP b = 1 ∨ valP b = 0 := by
  unfold valP
  cases decide (20000 < (b.book.length : Int)) <;> cases b.accs.any longA <;> cases headP b <;> cases b.accs.any badP <;> cases b.book.any entP <;> simp
theorem valid_of {b : Bnk} (h : valP b = 0) : Valid b := by
  unfold valP at h
  cases h0 : decide (20000 < (b.book.length : Int)) <;> rw [h0] at h <;> simp only [cond_true, cond_false] at h
  case true => cases h
  cases h1 : b.accs.any longA <;> rw [h1] at h <;> simp only [cond_true, cond_false] at h
  case true => cases h
  cases h2 : headP b <;> rw [h2] at h <;> simp only [cond_true, cond_false] at h
  case true => cases h
  cases h3 : b.accs.any badP <;> rw [h3] at h <;> simp only [cond_true, cond_false] at h
  case true => cases h
  cases h4 : b.book.any entP <;> rw [h4] at h <;> simp only [cond_true, cond_false] at h
  case true => cases h
  unfold headP at h2
  simp only [Bool.or_eq_false_iff] at h2
  obtain ⟨⟨⟨k0, k1⟩, k2⟩, k3⟩ := h2
  refine ⟨by simp at k0; omega, outP_false.1 k1, outP_false.1 k2, outP_false.1 k3, fun a ha => accOk_of (any_false h3 a ha), fun a ha => ?_, by simp at h0; omega, fun e he => ?_⟩
  · have := any_false h1 a ha
    unfold longA at this
    simp at this
    omega
  · have := any_false h4 e he
    unfold entP at this
    simp only [Bool.or_eq_false_iff] at this
    obtain ⟨⟨⟨m0, m1⟩, m2⟩, m3⟩ := this
    exact ⟨outP_false.1 m0, outP_false.1 m1, by simpa using m2, outP_false.1 m3⟩
def opnAt (b : Bnk) (n : Int) : Bool := ((b.accs[n.toNat]?).map Acc.opn).getD false
def coP (n : Int) : Bool := outP n 0 11
def notOpn (b : Bnk) (n : Int) : Bool := !opnAt b n
def chkP (b : Bnk) (l : List Int) : Int := bif valP b == 0 then bif l.any coP then 1 else bif l.any (notOpn b) then 2 else 0 else valP b
theorem rchk_ev (b : Bnk) (w : b.Wfb) (l : List Int) (hl : l.length ≤ 9223372036854775807) : ∃ h c, run Try.prog (mdT tblB) 71 [b.av, .ro false (ints l)] Heap.none 0 = some (E (chkP b l), h, c) := by
  rw [run_eq, show mdT tblB 71 = some .pure from rfl, Option.bind_some, Try.func71]
  have hvl := rval_c b w
  generalize hv : chkP b l = v
  unfold chkP at hv
  unfold Bnk.av
  by_cases g0 : valP b = 0
  case neg =>
    have g1 : (valP b == 0) = false := by simpa using g0
    have g2 : (valP b != 0) = true := by simp [bne, g1]
    rw [g1] at hv; simp only [cond_false] at hv
    rw [hv] at g2 hvl
    simp -implicitDefEqProofs [Try.f71, hvl, g2]
  have vb := valid_of g0
  rw [g0] at hv hvl; simp only [BEq.rfl, cond_true] at hv
  simp -implicitDefEqProofs [Try.f71, hvl, Option.bind_assoc]
  refine scan_list (R := fun o => ∃ h c, o = some (E v, h, c)) l coP (fun j s => s.h 0 = some ⟨5, [bc b]⟩ ∧ s.t 1 = .ro false (ints l) ∧ s.t 2 = .ptr 0 0 0 ∧ s.t 6 = I j) _ ?_ ?_ ?_ ?_
  · simp
  · rintro j ⟨t, h, c⟩ ⟨h0, t1, t2, t6⟩ hj hp
    simp only at h0 t1 t2 t6
    unfold coP at hp
    simp -implicitDefEqProofs [h0, t1, t2, t6, hj, hp]
    first | exact ⟨by omega, wrap_succ (by omega)⟩ | exact wrap_succ (by omega)
  · rintro j ⟨t, h, c⟩ ⟨h0, t1, t2, t6⟩ hj hp ha
    simp only at h0 t1 t2 t6
    rw [ha] at hv; simp only [cond_true] at hv
    unfold coP at hp
    simp -implicitDefEqProofs [h0, t1, t2, t6, hj, hp, ← hv]
  · rintro ⟨t, h, c⟩ ⟨h0, t1, t2, t6⟩ ha
    simp only at h0 t1 t2 t6
    have hco := any_false ha
    rw [ha] at hv; simp only [cond_false] at hv
    simp -implicitDefEqProofs [h0, t1, t2, t6, Option.bind_assoc]
    refine scan_list (R := fun o => ∃ h c, o = some (E v, h, c)) l (notOpn b) (fun j s => s.h 0 = some ⟨5, [bc b]⟩ ∧ s.t 1 = .ro false (ints l) ∧ s.t 2 = .ptr 0 0 0 ∧ s.t 7 = I j) _ ?_ ?_ ?_ ?_
    · simp [h0, t1, t2, t6]
    · rintro j ⟨t, h, c⟩ ⟨h0, t1, t2, t7⟩ hj hp
      simp only at h0 t1 t2 t7
      have hc := hco _ (List.getElem_mem hj)
      unfold coP at hc
      obtain ⟨c1, c2⟩ := outP_false.1 hc
      have hn : l[j].toNat < b.accs.length := by have := vb.len; omega
      unfold notOpn opnAt at hp
      simp [hn] at hp
      simp -implicitDefEqProofs [h0, t1, t2, t7, hj, hn, hp, c1, Acc.cells]
      first | exact ⟨by omega, wrap_succ (by omega)⟩ | exact wrap_succ (by omega)
    · rintro j ⟨t, h, c⟩ ⟨h0, t1, t2, t7⟩ hj hp ha
      simp only at h0 t1 t2 t7
      rw [ha] at hv; simp only [cond_true] at hv
      have hc := hco _ (List.getElem_mem hj)
      unfold coP at hc
      obtain ⟨c1, c2⟩ := outP_false.1 hc
      have hn : l[j].toNat < b.accs.length := by have := vb.len; omega
      unfold notOpn opnAt at hp
      simp [hn] at hp
      simp -implicitDefEqProofs [h0, t1, t2, t7, hj, hn, hp, c1, ← hv, Acc.cells]
    · rintro ⟨t, h, c⟩ ⟨h0, t1, t2, t7⟩ ha
      simp only at h0 t1 t2 t7
      rw [ha] at hv; simp only [cond_false] at hv
      simp -implicitDefEqProofs [h0, t1, t2, t7, ← hv]
theorem rchk_c (b : Bnk) (w : b.Wfb) (l : List Int) (hl : l.length ≤ 9223372036854775807) (v : AV) (h : Heap) (c : Nat) (hv : frz h depth v = some (.ro false (ints l))) : callA (mdT tblB) (run Try.prog (mdT tblB)) 71 [.agg (bc b), v] h c = some (E (chkP b l), h, c) := by
  obtain ⟨h', c', e⟩ := rchk_ev b w l hl
  refine call_of (vs := [b.av, .ro false (ints l)]) rfl ?_ e rfl rfl
  rw [List.mapM_cons, List.mapM_cons, hv]
  rfl
theorem bchk_ev (b : Bnk) (w : b.Wfb) (l : List Int) (hl : l.length ≤ 9223372036854775807) : ∃ h c, run Try.prog (mdT tblB) 73 [b.av, .ro false (ints l)] Heap.none 0 = some (E (chkP b l), h, c) := by
  rw [run_eq, show mdT tblB 73 = some .pure from rfl, Option.bind_some, Try.func73]
  have hvl := bval_c b w
  generalize hv : chkP b l = v
  unfold chkP at hv
  unfold Bnk.av
  by_cases g0 : valP b = 0
  case neg =>
    have g1 : (valP b == 0) = false := by simpa using g0
    have g2 : (valP b != 0) = true := by simp [bne, g1]
    rw [g1] at hv; simp only [cond_false] at hv
    rw [hv] at g2 hvl
    simp -implicitDefEqProofs [Try.f73, hvl, g2]
  have vb := valid_of g0
  rw [g0] at hv hvl; simp only [BEq.rfl, cond_true] at hv
  simp -implicitDefEqProofs [Try.f73, hvl, Option.bind_assoc]
  refine scan_list (R := fun o => ∃ h c, o = some (E v, h, c)) l coP (fun j s => s.h 0 = some ⟨5, [bc b]⟩ ∧ s.t 1 = .ro false (ints l) ∧ s.t 2 = .ptr 0 0 0 ∧ s.t 15 = .ro false (ints l) ∧ s.t 16 = I l.length ∧ s.t 17 = I j) _ ?_ ?_ ?_ ?_
  · simp
  · rintro j ⟨t, h, c⟩ ⟨h0, t1, t2, ta, tb, t6⟩ hj hp
    simp only at h0 t1 t2 ta tb t6
    unfold coP at hp
    simp -implicitDefEqProofs [h0, t1, t2, ta, tb, t6, hj, hp]
    first | exact ⟨by omega, wrap_succ (by omega)⟩ | exact wrap_succ (by omega)
  · rintro j ⟨t, h, c⟩ ⟨h0, t1, t2, ta, tb, t6⟩ hj hp ha
    simp only at h0 t1 t2 ta tb t6
    rw [ha] at hv; simp only [cond_true] at hv
    unfold coP at hp
    simp -implicitDefEqProofs [h0, t1, t2, ta, tb, t6, hj, hp, ← hv]
  · rintro ⟨t, h, c⟩ ⟨h0, t1, t2, ta, tb, t6⟩ ha
    simp only at h0 t1 t2 ta tb t6
    have hco := any_false ha
    rw [ha] at hv; simp only [cond_false] at hv
    simp -implicitDefEqProofs [h0, t1, t2, ta, tb, t6, Option.bind_assoc]
    refine scan_list (R := fun o => ∃ h c, o = some (E v, h, c)) l (notOpn b) (fun j s => s.h 0 = some ⟨5, [bc b]⟩ ∧ s.t 1 = .ro false (ints l) ∧ s.t 2 = .ptr 0 0 0 ∧ s.t 25 = .ro false (ints l) ∧ s.t 26 = I l.length ∧ s.t 27 = I j) _ ?_ ?_ ?_ ?_
    · simp [h0, t1, t2, ta, tb, t6]
    · rintro j ⟨t, h, c⟩ ⟨h0, t1, t2, ta, tb, t7⟩ hj hp
      simp only at h0 t1 t2 ta tb t7
      have hc := hco _ (List.getElem_mem hj)
      unfold coP at hc
      obtain ⟨c1, c2⟩ := outP_false.1 hc
      have hn : l[j].toNat < b.accs.length := by have := vb.len; omega
      unfold notOpn opnAt at hp
      simp [hn] at hp
      simp -implicitDefEqProofs [h0, t1, t2, ta, tb, t7, hj, hn, hp, c1, Acc.cells]
      first | exact ⟨by omega, wrap_succ (by omega)⟩ | exact wrap_succ (by omega)
    · rintro j ⟨t, h, c⟩ ⟨h0, t1, t2, ta, tb, t7⟩ hj hp ha
      simp only at h0 t1 t2 ta tb t7
      rw [ha] at hv; simp only [cond_true] at hv
      have hc := hco _ (List.getElem_mem hj)
      unfold coP at hc
      obtain ⟨c1, c2⟩ := outP_false.1 hc
      have hn : l[j].toNat < b.accs.length := by have := vb.len; omega
      unfold notOpn opnAt at hp
      simp [hn] at hp
      simp -implicitDefEqProofs [h0, t1, t2, ta, tb, t7, hj, hn, hp, c1, ← hv, Acc.cells]
    · rintro ⟨t, h, c⟩ ⟨h0, t1, t2, ta, tb, t7⟩ ha
      simp only at h0 t1 t2 ta tb t7
      rw [ha] at hv; simp only [cond_false] at hv
      simp -implicitDefEqProofs [h0, t1, t2, ta, tb, t7, ← hv]
theorem bchk_c (b : Bnk) (w : b.Wfb) (l : List Int) (hl : l.length ≤ 9223372036854775807) (v : AV) (h : Heap) (c : Nat) (hv : frz h depth v = some (.ro false (ints l))) : callA (mdT tblB) (run Try.prog (mdT tblB)) 73 [.agg (bc b), v] h c = some (E (chkP b l), h, c) := by
  obtain ⟨h', c', e⟩ := bchk_ev b w l hl
  refine call_of (vs := [b.av, .ro false (ints l)]) rfl ?_ e rfl rfl
  rw [List.mapM_cons, List.mapM_cons, hv]
  rfl
def clampP (n : Int) : Int := if n < -1000000000000 then -1000000000000 else if 1000000000000 < n then 1000000000000 else n
def worthP (a : Acc) (assets : Int) : Int := clampP (IntKind.i64.wrap (IntKind.i64.wrap (a.cash - a.loan) + assets))
theorem rworth_x (a : Acc) (k : Int) (h : Heap) (c : Nat) : callA (mdT tblB) (run Try.prog (mdT tblB)) 72 [.agg (ac a), I k] h c = some (I (worthP a k), h, c) := by
  obtain ⟨h', c', e⟩ : ∃ h c, run Try.prog (mdT tblB) 72 [.agg (ac a), I k] Heap.none 0 = some (I (worthP a k), h, c) := by
    unfold worthP
    rw [run_eq, show mdT tblB 72 = some .pure from rfl, Option.bind_some, Try.func72]
    generalize hw : IntKind.i64.wrap (IntKind.i64.wrap (a.cash - a.loan) + k) = n
    simp -implicitDefEqProofs [Try.f72, max2, min2, hw]
    unfold clampP
    split <;> split <;> (try split) <;> (try split) <;> omega
  exact call_of rfl rfl e rfl rfl
theorem bworth_x (a : Acc) (k : Int) (h : Heap) (c : Nat) : callA (mdT tblB) (run Try.prog (mdT tblB)) 74 [.agg (ac a), I k] h c = some (I (worthP a k), h, c) := by
  obtain ⟨h', c', e⟩ : ∃ h c, run Try.prog (mdT tblB) 74 [.agg (ac a), I k] Heap.none 0 = some (I (worthP a k), h, c) := by
    unfold worthP
    rw [run_eq, show mdT tblB 74 = some .pure from rfl, Option.bind_some, Try.func74]
    generalize hw : IntKind.i64.wrap (IntKind.i64.wrap (a.cash - a.loan) + k) = n
    simp -implicitDefEqProofs [Try.f74, max2, min2, hw]
    unfold clampP
    split <;> split <;> (try split) <;> (try split) <;> omega
  exact call_of rfl rfl e rfl rfl
end Go.Proofs.Ytdckleaemkcapaa.AM
namespace Go.Proofs.Ytdckleaemkcapaa.AM
open Go Go.Proofs
attribute [local simp] AV.cells okc AV.isBad fieldAddrA ld setCells stA skipV appendA hd makeA bnd sliceA kindA freshA killOk loadsAt newT empT lay_get allocA buildA buildRow builtinA lenA els indexAddrA isNil opA evA lit yldA binA binI unA pickA boolV intV fieldA mk flat lf lf.lfs frz
theorem chk_zero {b : Bnk} {l : List Int} (h : chkP b l = 0) : Valid b ∧ ∀ n ∈ l, 0 ≤ n ∧ n ≤ 11 ∧ n.toNat < b.accs.length ∧ opnAt b n = true := by
  unfold chkP at h
  by_cases g : valP b = 0
  · rw [g] at h
    simp only [BEq.rfl, cond_true] at h
    have vb := valid_of g
    cases h1 : l.any coP <;> rw [h1] at h <;> simp only [cond_true, cond_false] at h
    case true => cases h
    cases h2 : l.any (notOpn b) <;> rw [h2] at h <;> simp only [cond_true, cond_false] at h
    case true => cases h
    refine ⟨vb, fun n hn => ?_⟩
    have a1 := outP_false.1 (any_false h1 n hn)
    have a2 := any_false h2 n hn
    unfold notOpn at a2
    exact ⟨a1.1, a1.2, by have := vb.len; omega, by simpa using a2⟩
  · have g1 : (valP b == 0) = false := by simpa using g
    rw [g1] at h
    simp only [cond_false] at h
    exact absurd h g
def accAt (b : Bnk) (n : Int) : Acc := (b.accs[n.toNat]?).getD shutA
def wrtP (b : Bnk) (n k : Int) : Int × Int := bif chkP b [n] == 0 then bif outP k 0 1000000000000 then (0, 1) else (worthP (accAt b n) k, 0) else (0, chkP b [n])
theorem rworths_c (b : Bnk) (w : b.Wfb) (n k : Int) (h : Heap) (c : Nat) : callA (mdT tblB) (run Try.prog (mdT tblB)) 28 [.agg (bc b), I n, I k] h c = some (.tup [I (wrtP b n k).1, E (wrtP b n k).2], h, c) := by
  obtain ⟨h', c', e⟩ : ∃ h c, run Try.prog (mdT tblB) 28 [.agg (bc b), I n, I k] Heap.none 0 = some (.tup [I (wrtP b n k).1, E (wrtP b n k).2], h, c) := by
    have hk := fun v h c hv => rchk_c b w [n] (by simp) v h c hv
    generalize hr : wrtP b n k = r
    unfold wrtP at hr
    rw [run_eq, show mdT tblB 28 = some .pure from rfl, Option.bind_some, Try.func28]
    by_cases g0 : chkP b [n] = 0
    · rw [g0] at hk
      have g1 := chk_zero g0
      obtain ⟨vb, g2⟩ := g1
      obtain ⟨n0, n1, n2, n3⟩ := g2 n (by simp)
      rw [g0] at hr
      simp only [BEq.rfl, cond_true] at hr
      cases g3 : outP k 0 1000000000000
      · rw [g3] at hr
        simp only [cond_false] at hr
        subst hr
        unfold accAt
        have hw := fun h c => rworth_x b.accs[n.toNat] k h c
        simp -implicitDefEqProofs [Try.f28, hk, g3, depth, n0, n2, hw, Acc.cells]
      · rw [g3] at hr
        simp only [cond_true] at hr
        subst hr
        simp -implicitDefEqProofs [Try.f28, hk, g3, depth]
    · have g1 : (chkP b [n] == 0) = false := by simpa using g0
      have g2 : (chkP b [n] != 0) = true := by simp [bne, g1]
      rw [g1] at hr
      simp only [cond_false] at hr
      subst hr
      simp -implicitDefEqProofs [Try.f28, hk, g2, depth]
  exact call_of rfl rfl e rfl rfl
theorem bworths_c (b : Bnk) (w : b.Wfb) (n k : Int) (h : Heap) (c : Nat) : callA (mdT tblB) (run Try.prog (mdT tblB)) 29 [.agg (bc b), I n, I k] h c = some (.tup [I (wrtP b n k).1, E (wrtP b n k).2], h, c) := by
  obtain ⟨h', c', e⟩ : ∃ h c, run Try.prog (mdT tblB) 29 [.agg (bc b), I n, I k] Heap.none 0 = some (.tup [I (wrtP b n k).1, E (wrtP b n k).2], h, c) := by
    have hk := fun v h c hv => bchk_c b w [n] (by simp) v h c hv
    generalize hr : wrtP b n k = r
    unfold wrtP at hr
    rw [run_eq, show mdT tblB 29 = some .pure from rfl, Option.bind_some, Try.func29]
    by_cases g0 : chkP b [n] = 0
    · rw [g0] at hk
      have g1 := chk_zero g0
      obtain ⟨vb, g2⟩ := g1
      obtain ⟨n0, n1, n2, n3⟩ := g2 n (by simp)
      rw [g0] at hr
      simp only [BEq.rfl, cond_true] at hr
      cases g3 : outP k 0 1000000000000
      · rw [g3] at hr
        simp only [cond_false] at hr
        subst hr
        unfold accAt
        have hw := fun h c => bworth_x b.accs[n.toNat] k h c
        simp -implicitDefEqProofs [Try.f29, hk, g3, depth, n0, n2, hw, Acc.cells]
      · rw [g3] at hr
        simp only [cond_true] at hr
        subst hr
        simp -implicitDefEqProofs [Try.f29, hk, g3, depth]
    · have g1 : (chkP b [n] == 0) = false := by simpa using g0
      have g2 : (chkP b [n] != 0) = true := by simp [bne, g1]
      rw [g1] at hr
      simp only [cond_false] at hr
      subst hr
      simp -implicitDefEqProofs [Try.f29, hk, g2, depth]
  exact call_of rfl rfl e rfl rfl
theorem law6 (b : Bnk) (w : b.Wfb) (n k : Int) : ∃ hp c, run Try.prog (mdT tblB) 6 [b.av, I n, I k] Heap.none 0 = some (B true, hp, c) := by
  have kn := known_c
  have f := far_c b w
  have r1 := rworths_c b w n k
  have r2 := bworths_c b w n k
  revert r1 r2
  generalize wrtP b n k = r
  intro r1 r2
  rw [run_eq, show mdT tblB 6 = some .pure from rfl, Option.bind_some, Try.func6]
  unfold Bnk.av
  cases g0 : farP b
  · simp -implicitDefEqProofs [Try.f6, g0, f, kn, r1, r2]
  · simp -implicitDefEqProofs [Try.f6, g0, f, kn]
theorem pure6 (x0 x1 x2 : AV) (h0 : TyArg Try.prog 8 25 x0) (h1 : TyArg Try.prog 8 3 x1) (h2 : TyArg Try.prog 8 3 x2) : ∃ h c, run Try.prog (mdT tblB) 6 [x0, x1, x2] Heap.none 0 = some (B true, h, c) := by
  obtain ⟨b, rfl, w⟩ := arg25 h0
  obtain ⟨n, rfl, _⟩ := arg3 h1
  obtain ⟨k, rfl, _⟩ := arg3 h2
  exact law6 b w n k
def prW (b : Bnk) (k : Int) : Int := IntKind.i64.wrap (Int.tdiv (IntKind.i64.wrap (k * b.idx)) 65536)
theorem rprice_x (b : Bnk) (k : Int) (h : Heap) (c : Nat) : callA (mdT tblB) (run Try.prog (mdT tblB)) 75 [.agg (bc b), I k] h c = some (I (if 1000000000001 < prW b k then 1000000000001 else prW b k), h, c) := by
  obtain ⟨h', c', e⟩ : ∃ h c, run Try.prog (mdT tblB) 75 [.agg (bc b), I k] Heap.none 0 = some (I (if 1000000000001 < prW b k then 1000000000001 else prW b k), h, c) := by
    unfold prW
    rw [run_eq, show mdT tblB 75 = some .pure from rfl, Option.bind_some, Try.func75]
    simp -implicitDefEqProofs [Try.f75, max2, min2]
  exact call_of rfl rfl e rfl rfl
theorem bprice_x (b : Bnk) (k : Int) (h : Heap) (c : Nat) : callA (mdT tblB) (run Try.prog (mdT tblB)) 76 [.agg (bc b), I k] h c = some (I (prW b k), h, c) := by
  obtain ⟨h', c', e⟩ : ∃ h c, run Try.prog (mdT tblB) 76 [.agg (bc b), I k] Heap.none 0 = some (I (prW b k), h, c) := by
    unfold prW
    rw [run_eq, show mdT tblB 76 = some .pure from rfl, Option.bind_some, Try.func76]
    simp -implicitDefEqProofs [Try.f76]
  exact call_of rfl rfl e rfl rfl
def prcP (b : Bnk) (k : Int) : Int × Int := bif valP b == 0 then bif outP k 0 1000000000000 then (0, 1) else bif decide (1000000000000 < prW b k) then (0, 10) else (prW b k, 0) else (0, valP b)
theorem rprices_c (b : Bnk) (w : b.Wfb) (k : Int) (h : Heap) (c : Nat) : callA (mdT tblB) (run Try.prog (mdT tblB)) 30 [.agg (bc b), I k] h c = some (.tup [I (prcP b k).1, E (prcP b k).2], h, c) := by
  obtain ⟨h', c', e⟩ : ∃ h c, run Try.prog (mdT tblB) 30 [.agg (bc b), I k] Heap.none 0 = some (.tup [I (prcP b k).1, E (prcP b k).2], h, c) := by
    have hk := rval_c b w
    have hp := rprice_x b k
    generalize hr : prcP b k = r
    unfold prcP at hr
    rw [run_eq, show mdT tblB 30 = some .pure from rfl, Option.bind_some, Try.func30]
    by_cases g0 : valP b = 0
    · rw [g0] at hk hr
      simp only [BEq.rfl, cond_true] at hr
      cases g3 : outP k 0 1000000000000
      · rw [g3] at hr
        simp only [cond_false] at hr
        cases g4 : decide (1000000000000 < prW b k)
        · have g5 : ¬ (1000000000001 < prW b k) := by have := of_decide_eq_false g4; omega
          rw [g4] at hr
          simp only [cond_false] at hr
          subst hr
          simp -implicitDefEqProofs [Try.f30, hk, g3, g4, g5, hp, -decide_eq_true_eq, -decide_eq_false_iff_not]
        · rw [g4] at hr
          simp only [cond_true] at hr
          subst hr
          by_cases g5 : 1000000000001 < prW b k
          · simp -implicitDefEqProofs [Try.f30, hk, g3, g4, g5, hp, -decide_eq_true_eq, -decide_eq_false_iff_not]
          · simp -implicitDefEqProofs [Try.f30, hk, g3, g4, g5, hp, -decide_eq_true_eq, -decide_eq_false_iff_not]
      · rw [g3] at hr
        simp only [cond_true] at hr
        subst hr
        simp -implicitDefEqProofs [Try.f30, hk, g3]
    · have g1 : (valP b == 0) = false := by simpa using g0
      have g2 : (valP b != 0) = true := by simp [bne, g1]
      rw [g1] at hr
      simp only [cond_false] at hr
      subst hr
      simp -implicitDefEqProofs [Try.f30, hk, g2]
  exact call_of rfl rfl e rfl rfl
theorem bprices_c (b : Bnk) (w : b.Wfb) (k : Int) (h : Heap) (c : Nat) : callA (mdT tblB) (run Try.prog (mdT tblB)) 31 [.agg (bc b), I k] h c = some (.tup [I (prcP b k).1, E (prcP b k).2], h, c) := by
  obtain ⟨h', c', e⟩ : ∃ h c, run Try.prog (mdT tblB) 31 [.agg (bc b), I k] Heap.none 0 = some (.tup [I (prcP b k).1, E (prcP b k).2], h, c) := by
    have hk := bval_c b w
    have hp := bprice_x b k
    generalize hr : prcP b k = r
    unfold prcP at hr
    rw [run_eq, show mdT tblB 31 = some .pure from rfl, Option.bind_some, Try.func31]
    by_cases g0 : valP b = 0
    · rw [g0] at hk hr
      simp only [BEq.rfl, cond_true] at hr
      cases g3 : outP k 0 1000000000000
      · rw [g3] at hr
        simp only [cond_false] at hr
        cases g4 : decide (1000000000000 < prW b k)
        · have g5 : ¬ (1000000000001 < prW b k) := by have := of_decide_eq_false g4; omega
          rw [g4] at hr
          simp only [cond_false] at hr
          subst hr
          simp -implicitDefEqProofs [Try.f31, hk, g3, g4, g5, hp, -decide_eq_true_eq, -decide_eq_false_iff_not]
        · rw [g4] at hr
          simp only [cond_true] at hr
          subst hr
          by_cases g5 : 1000000000001 < prW b k
          · simp -implicitDefEqProofs [Try.f31, hk, g3, g4, g5, hp, -decide_eq_true_eq, -decide_eq_false_iff_not]
          · simp -implicitDefEqProofs [Try.f31, hk, g3, g4, g5, hp, -decide_eq_true_eq, -decide_eq_false_iff_not]
      · rw [g3] at hr
        simp only [cond_true] at hr
        subst hr
        simp -implicitDefEqProofs [Try.f31, hk, g3]
    · have g1 : (valP b == 0) = false := by simpa using g0
      have g2 : (valP b != 0) = true := by simp [bne, g1]
      rw [g1] at hr
      simp only [cond_false] at hr
      subst hr
      simp -implicitDefEqProofs [Try.f31, hk, g2]
  exact call_of rfl rfl e rfl rfl
theorem law7 (b : Bnk) (w : b.Wfb) (k0 : Int) : ∃ hp c, run Try.prog (mdT tblB) 7 [b.av, I k0] Heap.none 0 = some (B true, hp, c) := by
  have kn := known_c
  have f := far_c b w
  have r1 := rprices_c b w k0
  have r2 := bprices_c b w k0
  revert r1 r2
  generalize prcP b k0 = r
  intro r1 r2
  rw [run_eq, show mdT tblB 7 = some .pure from rfl, Option.bind_some, Try.func7]
  unfold Bnk.av
  cases g0 : farP b
  · simp -implicitDefEqProofs [Try.f7, g0, f, kn, r1, r2]
  · simp -implicitDefEqProofs [Try.f7, g0, f, kn]
theorem pure7 (x0 x1 : AV) (h0 : TyArg Try.prog 8 25 x0) (h1 : TyArg Try.prog 8 3 x1) : ∃ h c, run Try.prog (mdT tblB) 7 [x0, x1] Heap.none 0 = some (B true, h, c) := by
  obtain ⟨b, rfl, w⟩ := arg25 h0
  obtain ⟨n, rfl, _⟩ := arg3 h1
  exact law7 b w n
end Go.Proofs.Ytdckleaemkcapaa.AM
namespace Go.Proofs.Ytdckleaemkcapaa.AM
open Go Go.Proofs
attribute [local simp] AV.cells okc AV.isBad fieldAddrA ld setCells stA skipV appendA hd makeA bnd sliceA kindA freshA killOk loadsAt newT empT lay_get allocA buildA buildRow builtinA lenA els indexAddrA isNil opA evA lit yldA binA binI unA pickA boolV intV fieldA mk flat lf lf.lfs frz
def tot1 (co : Int) (s : List Int × Int) (e : Ent) : List Int × Int := bif e.co == co then (s.1.set e.kd.toNat (IntKind.i64.wrap ((s.1[e.kd.toNat]?).getD 0 + e.am)), IntKind.i64.wrap (s.2 + e.am)) else s
def totP (co : Int) (l : List Ent) : List Int × Int := l.foldl (tot1 co) (List.replicate 10 0, 0)
theorem totP_len (co : Int) (l : List Ent) : (totP co l).1.length = 10 := by
  unfold totP
  have : ∀ (l : List Ent) (s : List Int × Int), s.1.length = 10 → (l.foldl (tot1 co) s).1.length = 10 := by
    intro l
    induction l with
    | nil => intro s h; exact h
    | cons e l ih =>
      intro s h
      rw [List.foldl_cons]
      refine ih _ ?_
      unfold tot1
      cases e.co == co
      · exact h
      · simpa using h
  exact this l _ (by simp)
theorem totP_take (co : Int) {l : List Ent} {j : Nat} (h : j < l.length) : totP co (l.take (j + 1)) = tot1 co (totP co (l.take j)) l[j] := by
  unfold totP
  rw [List.take_add_one, List.getElem?_eq_getElem h, List.foldl_append]
  rfl
def totR (b : Bnk) (co : Int) : AV := bif valP b == 0 then bif outP co 0 11 then .tup [.ro true [], I 0, E 1] else .tup [.ro false (ints (totP co b.book).1), I (totP co b.book).2, E 0] else .tup [.ro true [], I 0, E (valP b)]
theorem ints_frz (h : Heap) (k : Nat) (l : List Int) : (ints l).mapM (fun e => e.mapM (frz h (k + 1))) = some (ints l) := by
  induction l with
  | nil => rfl
  | cons x l ih =>
    show (([I x] : List AV) :: ints l).mapM _ = _
    rw [List.mapM_cons, ih]
    rfl
theorem frz_ints {h : Heap} {l sz : Nat} {T : List Int} (n k : Nat) (hn : T.length = n) (hl : h l = some ⟨sz, ints T⟩) : frz h (k + 2) (.sl l sz 0 n) = some (.ro false (ints T)) := by
  show ((els h (.sl l sz 0 n)).bind fun es => (es.mapM fun (e : List AV) => e.mapM (frz h (k + 1))).map (AV.ro false)) = _
  have : els h (.sl l sz 0 n) = some (ints T) := by
    simp only [els, hl, Option.bind_some]
    rw [if_pos (by simp [hn]), List.drop_zero, List.take_of_length_le (by simp [hn])]
  rw [this, Option.bind_some, ints_frz]
  rfl
theorem frz_tot {h : Heap} {T : List Int} {S : Int} (hn : T.length = 10) (hl : h 1 = some ⟨1, ints T⟩) : frz h depth (.tup [.sl 1 1 0 10, I S, E 0]) = some (.tup [.ro false (ints T), I S, E 0]) := by
  show (List.mapM (frz h 11) [.sl 1 1 0 10, I S, E 0]).map AV.tup = _
  rw [List.mapM_cons, frz_ints 10 9 hn hl]
  rfl
theorem rtot_x (b : Bnk) (w : b.Wfb) (co : Int) : Ans (totR b co) (run Try.prog (mdT tblB) 32 [.agg (bc b), I co] Heap.none 0) := by
  have hk := rval_c b w
  generalize hr : totR b co = r
  unfold totR at hr
  rw [run_eq, show mdT tblB 32 = some .pure from rfl, Option.bind_some, Try.func32]
  by_cases g0 : valP b = 0
  case neg =>
    have g1 : (valP b == 0) = false := by simpa using g0
    have g2 : (valP b != 0) = true := by simp [bne, g1]
    rw [g1] at hr
    simp only [cond_false] at hr
    subst hr
    simp -implicitDefEqProofs [Try.f32, hk, g2, depth]
  have vb := valid_of g0
  rw [g0] at hk hr
  simp only [BEq.rfl, cond_true] at hr
  cases g3 : outP co 0 11
  case true =>
    rw [g3] at hr
    simp only [cond_true] at hr
    subst hr
    simp -implicitDefEqProofs [Try.f32, hk, g3, depth]
  rw [g3] at hr
  simp only [cond_false] at hr
  subst hr
  have hbl := vb.book
  simp -implicitDefEqProofs [Try.f32, hk, g3, room, Option.bind_assoc]
  refine count_to (R := Ans (.tup [.ro false (ints (totP co b.book).1), I (totP co b.book).2, E 0])) b.book.length (fun j s => s.h 0 = some ⟨5, [bc b]⟩ ∧ s.h 1 = some ⟨1, ints (totP co (b.book.take j)).1⟩ ∧ 1 < s.c ∧ s.t 1 = I co ∧ s.t 2 = .ptr 0 0 0 ∧ s.t 8 = .sl 1 1 0 10 ∧ s.t 9 = I (totP co (b.book.take j)).2 ∧ s.t 10 = I j) _ ?_ ?_ ?_
  · first | (simp [totP, List.replicate]; done) | (simp [totP, List.replicate]; rfl)
  · rintro j ⟨t, h, c⟩ ⟨h0, h1, hc, t1, t2, t8, t9, tj⟩ hj
    simp only at h0 h1 hc t1 t2 t8 t9 tj
    have e1 := vb.ents _ (List.getElem_mem hj)
    have hl := totP_len co (b.book.take j)
    rw [totP_take co hj]
    revert h1 t9 hl
    generalize totP co (b.book.take j) = T
    obtain ⟨T, S⟩ := T
    intro h1 t9 hl
    simp only at h1 t9 hl
    have k1 : decide ((j : Int) < (b.book.length : Int)) = true := decide_eq_true (by omega)
    have k2 : b.book[j].kd.toNat < T.length := by omega
    have k3 : 0 ≤ b.book[j].kd := e1.2.1.1
    have k4 : b.book[j].kd < 10 := by omega
    have k5 : b.book[j].kd.toNat < 10 := by omega
    have k6 : IntKind.i64.wrap ((j : Int) + 1) = ((j + 1 : Nat) : Int) := wrap_succ (by omega)
    have n1 : ¬ (0 = c) := by omega
    have n2 : ¬ (c = 0) := by omega
    have n3 : ¬ (1 = c) := by omega
    have n4 : ¬ (c = 1) := by omega
    unfold tot1
    cases g4 : (b.book[j].co == co)
    · simp -implicitDefEqProofs [h0, h1, hl, t1, t2, t8, t9, tj, hj, k1, k2, k3, k4, k5, k6, n1, n2, n3, n4, g4, Ent.cells]
      first | done | omega
    · simp -implicitDefEqProofs [h0, h1, hl, t1, t2, t8, t9, tj, hj, k1, k2, k3, k4, k5, k6, n1, n2, n3, n4, g4, Ent.cells, List.map_set]
      first | done | omega
  · rintro ⟨t, h, c⟩ ⟨h0, h1, hc, t1, t2, t8, t9, tj⟩
    simp only at h0 h1 hc t1 t2 t8 t9 tj
    rw [List.take_length] at h1 t9
    have hl := totP_len co b.book
    simp -implicitDefEqProofs [-frz, h0, h1, hl, t1, t2, t8, t9, tj]
    exact frz_tot hl h1
theorem rtot_c (b : Bnk) (w : b.Wfb) (co : Int) (h : Heap) (c : Nat) : callA (mdT tblB) (run Try.prog (mdT tblB)) 32 [.agg (bc b), I co] h c = some (totR b co, h, c) := call_ans rfl rfl (rtot_x b w co) rfl
theorem btot_x (b : Bnk) (w : b.Wfb) (co : Int) : Ans (totR b co) (run Try.prog (mdT tblB) 33 [.agg (bc b), I co] Heap.none 0) := by
  have hk := bval_c b w
  generalize hr : totR b co = r
  unfold totR at hr
  rw [run_eq, show mdT tblB 33 = some .pure from rfl, Option.bind_some, Try.func33]
  by_cases g0 : valP b = 0
  case neg =>
    have g1 : (valP b == 0) = false := by simpa using g0
    have g2 : (valP b != 0) = true := by simp [bne, g1]
    rw [g1] at hr
    simp only [cond_false] at hr
    subst hr
    simp -implicitDefEqProofs [Try.f33, hk, g2, depth]
  have vb := valid_of g0
  rw [g0] at hk hr
  simp only [BEq.rfl, cond_true] at hr
  cases g3 : outP co 0 11
  case true =>
    rw [g3] at hr
    simp only [cond_true] at hr
    subst hr
    simp -implicitDefEqProofs [Try.f33, hk, g3, depth]
  rw [g3] at hr
  simp only [cond_false] at hr
  subst hr
  have hbl := vb.book
  simp -implicitDefEqProofs [Try.f33, hk, g3, room, Option.bind_assoc]
  refine count_to (R := Ans (.tup [.ro false (ints (totP co b.book).1), I (totP co b.book).2, E 0])) b.book.length (fun j s => s.h 0 = some ⟨5, [bc b]⟩ ∧ s.h 1 = some ⟨1, ints (totP co (b.book.take j)).1⟩ ∧ 1 < s.c ∧ s.t 1 = I co ∧ s.t 2 = .ptr 0 0 0 ∧ s.t 8 = .arr 1 1 10 ∧ s.t 9 = I (totP co (b.book.take j)).2 ∧ s.t 21 = .ro b.nb (b.book.map Ent.cells) ∧ s.t 22 = I b.book.length ∧ s.t 23 = I j) _ ?_ ?_ ?_
  · first | (simp [totP, List.replicate]; done) | (simp [totP, List.replicate]; rfl)
  · rintro j ⟨t, h, c⟩ ⟨h0, h1, hc, t1, t2, t8, t9, ta, tb, tj⟩ hj
    simp only at h0 h1 hc t1 t2 t8 t9 ta tb tj
    have e1 := vb.ents _ (List.getElem_mem hj)
    have hl := totP_len co (b.book.take j)
    rw [totP_take co hj]
    revert h1 t9 hl
    generalize totP co (b.book.take j) = T
    obtain ⟨T, S⟩ := T
    intro h1 t9 hl
    simp only at h1 t9 hl
    have k1 : decide ((j : Int) < (b.book.length : Int)) = true := decide_eq_true (by omega)
    have k2 : b.book[j].kd.toNat < T.length := by omega
    have k3 : 0 ≤ b.book[j].kd := e1.2.1.1
    have k4 : b.book[j].kd < 10 := by omega
    have k5 : b.book[j].kd.toNat < 10 := by omega
    have k6 : IntKind.i64.wrap ((j : Int) + 1) = ((j + 1 : Nat) : Int) := wrap_succ (by omega)
    have n1 : ¬ (0 = c) := by omega
    have n2 : ¬ (c = 0) := by omega
    have n3 : ¬ (1 = c) := by omega
    have n4 : ¬ (c = 1) := by omega
    unfold tot1
    cases g4 : (b.book[j].co == co)
    · simp -implicitDefEqProofs [h0, h1, hl, t1, t2, t8, t9, ta, tb, tj, hj, k1, k2, k3, k4, k5, k6, n1, n2, n3, n4, g4, Ent.cells]
      first | done | omega
    · simp -implicitDefEqProofs [h0, h1, hl, t1, t2, t8, t9, ta, tb, tj, hj, k1, k2, k3, k4, k5, k6, n1, n2, n3, n4, g4, Ent.cells, List.map_set]
      first | done | omega
  · rintro ⟨t, h, c⟩ ⟨h0, h1, hc, t1, t2, t8, t9, ta, tb, tj⟩
    simp only at h0 h1 hc t1 t2 t8 t9 ta tb tj
    rw [List.take_length] at h1 t9
    have hl := totP_len co b.book
    simp -implicitDefEqProofs [-frz, h0, h1, hl, t1, t2, t8, t9, ta, tb, tj]
    exact frz_tot hl h1
theorem btot_c (b : Bnk) (w : b.Wfb) (co : Int) (h : Heap) (c : Nat) : callA (mdT tblB) (run Try.prog (mdT tblB)) 33 [.agg (bc b), I co] h c = some (totR b co, h, c) := call_ans rfl rfl (btot_x b w co) rfl
end Go.Proofs.Ytdckleaemkcapaa.AM
namespace Go.Proofs.Ytdckleaemkcapaa.AM
open Go Go.Proofs
attribute [local simp] AV.cells okc AV.isBad fieldAddrA ld setCells stA skipV appendA hd makeA bnd sliceA kindA freshA killOk loadsAt newT empT lay_get allocA buildA buildRow builtinA lenA els indexAddrA isNil opA evA lit yldA binA binI unA pickA boolV intV fieldA mk flat lf lf.lfs frz
theorem totR_form (b : Bnk) (co : Int) : ∃ z l s e, totR b co = .tup [.ro z (ints l), I s, E e] ∧ l.length ≤ 9223372036854775807 := by
  unfold totR
  cases valP b == 0
  · exact ⟨true, [], 0, _, rfl, by simp⟩
  · cases outP co 0 11
    · exact ⟨false, _, _, 0, rfl, by rw [totP_len]; omega⟩
    · exact ⟨true, [], 0, 1, rfl, by simp⟩
theorem law8 (b : Bnk) (w : b.Wfb) (co : Int) : ∃ hp c, run Try.prog (mdT tblB) 8 [b.av, I co] Heap.none 0 = some (B true, hp, c) := by
  have kn := known_c
  have f := far_c b w
  have r1 := rtot_c b w co
  have r2 := btot_c b w co
  obtain ⟨z, l, s, e, hr, hl⟩ := totR_form b co
  rw [hr] at r1 r2
  have hs := listi_c z z l hl
  rw [run_eq, show mdT tblB 8 = some .pure from rfl, Option.bind_some, Try.func8]
  unfold Bnk.av
  cases g0 : farP b
  · simp -implicitDefEqProofs [Try.f8, g0, f, kn, r1, r2, hs]
  · simp -implicitDefEqProofs [Try.f8, g0, f, kn]
theorem pure8 (x0 x1 : AV) (h0 : TyArg Try.prog 8 25 x0) (h1 : TyArg Try.prog 8 3 x1) : ∃ h c, run Try.prog (mdT tblB) 8 [x0, x1] Heap.none 0 = some (B true, h, c) := by
  obtain ⟨b, rfl, w⟩ := arg25 h0
  obtain ⟨n, rfl, _⟩ := arg3 h1
  exact law8 b w n
end Go.Proofs.Ytdckleaemkcapaa.AM
