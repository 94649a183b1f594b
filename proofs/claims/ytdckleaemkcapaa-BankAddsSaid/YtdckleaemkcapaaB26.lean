/- Texts of the proof: part B26. -/
import Derived.Test.YtdckleaemkcapaaB25
set_option maxHeartbeats 0
set_option linter.unusedSimpArgs false
set_option linter.unusedVariables false
set_option linter.unusedSectionVars false
namespace Go.Proofs.Ytdckleaemkcapaa.AM
open Go Go.Proofs
attribute [local simp] AV.cells okc AV.isBad fieldAddrA ld setCells stA skipV appendA hd makeA bnd sliceA kindA freshA killOk loadsAt newT empT lay_get allocA buildA buildRow builtinA lenA els indexAddrA isNil opA evA lit yldA binA binI unA pickA boolV intV fieldA mk flat lf lf.lfs frz
def plainB (b : Bnk) : Bnk := ⟨false, b.accs, b.rate, b.infl, b.idx, false, b.book⟩
/-- An amount is booked. -/
def bkP (b : Bnk) (co kd n : Int) : Int × Bnk := bif n == 0 then (0, plainB b) else bif bookBad (accAt b co).cash n b.book.length then (10, noB) else
  (0, ⟨false, b.accs.set co.toNat { accAt b co with cash := (accAt b co).cash + n }, b.rate, b.infl, b.idx, false, b.book ++ [⟨co, kd, n⟩]⟩)
def moveP (b : Bnk) (co kd am sgn : Int) (strict : Bool) : Int × Bnk := bif chkP b [co] == 0 then bif outP kd 0 9 || outP am 0 1000000000000 then (1, noB) else bif strict && decide ((accAt b co).cash < am) then (12, noB) else bkP b co kd (sgn * am)
  else (chkP b [co], noB)
/-- What a function that answers a bank in its own memory comes to. -/
structure OwnRes (c : Nat) (p : Int × Bnk) (R : Option (AV × Heap × Nat) → Prop) : Prop where
  err : p.1 ≠ 0 → ∀ h' c', c ≤ c' → R (some (.tup [.agg noC, E p.1], h', c'))
  ok : p.1 = 0 → ∀ h' c' la v rows, c ≤ c' → Own (fun l => c ≤ l) c' h' la v p.2.accs p.2.book rows → Mine rows 12 → R (some (.tup [.agg [.sl la 5 0 12, I p.2.rate, I p.2.infl, I p.2.idx, v], E 0], h', c'))
theorem rmove_run (b : Bnk) (w : b.Wfb) (co kd am sgn : Int) (strict : Bool) (hs : sgn = 1 ∨ sgn = -1) (c : Nat) (R : Option (AV × Heap × Nat) → Prop) (hR : OwnRes c (moveP b co kd am sgn strict) R) :
    R (run Try.prog (mdT tblB) 77 [.agg (bc b), I co, I kd, I am, I sgn, B strict] Heap.none c) := by
  have hk := fun v h c hv => rchk_c b w [co] (by simp) v h c hv
  generalize hr : moveP b co kd am sgn strict = r at hR
  unfold moveP at hr
  have z1 : ¬ (c = c + 1 + 1) := by omega
  have z2 : ¬ (c + 1 + 1 = c) := by omega
  have z3 : ¬ (c + 1 = c + 1 + 1) := by omega
  have z4 : ¬ (c + 1 + 1 = c + 1) := by omega
  rw [run_eq, show mdT tblB 77 = some .pure from rfl, Option.bind_some, Try.func77]
  by_cases g0 : chkP b [co] = 0
  case neg =>
    have g1 : (chkP b [co] == 0) = false := by simpa using g0
    have g2 : (chkP b [co] != 0) = true := by simp [bne, g1]
    rw [g1] at hr
    simp only [cond_false] at hr
    subst hr
    simp -implicitDefEqProofs [depth, Try.f77, hk, g2, z1, z2, z3, z4]
    exact hR.err g0 _ _ (by omega)
  rw [g0] at hk
  obtain ⟨vb, gg⟩ := chk_zero g0
  obtain ⟨n0, n1, hml, hop⟩ := gg co (by simp)
  rw [g0] at hr
  simp only [BEq.rfl, cond_true] at hr
  obtain ⟨m, rfl⟩ : ∃ m : Nat, co = m := ⟨co.toNat, by omega⟩
  simp only [Int.toNat_natCast] at hml
  have hm : m < 12 := by have := vb.len; omega
  have hmi : (m : Int) < 12 := by omega
  have haa : accAt b m = b.accs[m] := by unfold accAt; simp [hml]
  unfold bkP at hr
  rw [haa] at hr
  have aok := vb.accs _ (List.getElem_mem hml)
  cases g3 : outP kd 0 9
  case true =>
    rw [g3] at hr
    simp only [cond_true, Bool.true_or] at hr
    subst hr
    simp -implicitDefEqProofs [depth, Try.f77, hk, g3, z1, z2, z3, z4]
    exact hR.err (by simp) _ _ (by omega)
  cases g4 : outP am 0 1000000000000
  case true =>
    rw [g3, g4] at hr
    simp only [cond_true, Bool.or_true] at hr
    subst hr
    simp -implicitDefEqProofs [depth, Try.f77, hk, g3, g4, z1, z2, z3, z4]
    exact hR.err (by simp) _ _ (by omega)
  rw [g3, g4] at hr
  simp only [cond_false, Bool.or_false] at hr
  have ham := outP_false.1 g4
  have hw : IntKind.i64.wrap (sgn * am) = sgn * am := wrap_id (by rcases hs with rfl | rfl <;> omega) (by rcases hs with rfl | rfl <;> omega)
  have hn : -1000000000000 ≤ sgn * am ∧ sgn * am ≤ 1000000000000 := by rcases hs with rfl | rfl <;> omega
  cases g5 : strict
  · rw [g5] at hr
    simp only [Bool.false_and, cond_false] at hr
    simp -implicitDefEqProofs [depth, Try.f77, hk, g3, g4, g5, hml, Acc.cells, z1, z2, z3, z4, obm, Option.bind_assoc]
    refine copy_to (.inl rfl) b vb w _ _ _ ?_
    intro h1 c1 la v rows hc hlow O M
    have h0 : h1 c = some ⟨5, [bc b]⟩ := by rw [hlow c (by omega)]; simp [z1, z2, z3, z4]
    have h1' : h1 (c + 1) = some ⟨5, [noC]⟩ := by rw [hlow (c + 1) (by omega)]; simp [z1, z2, z3, z4]
    have hla := O.hla
    have ha : b.accs[m]? = some b.accs[m] := List.getElem?_eq_getElem hml
    have lge := O.sep4.1
    have lc1 := O.sep4.2
    have q1 : ¬ (la = c) := by omega
    have q2 : ¬ (c = la) := by omega
    have q3 : ¬ (la = c + 1) := by omega
    have q4 : ¬ (c + 1 = la) := by omega
    have hv1 := slv_cells O.bkv
    have hv2 := slv_okc O.bkv
    unfold AV.cells at hv1
    unfold okc at hv2
    simp -implicitDefEqProofs [-frz, h0, h1', hv1, hv2, hw, q1, q2, q3, q4, z1, z2, z3, z4, obm, Option.bind_assoc]
    have O' := O.frame (h' := h1.put c (some ⟨5, [[.sl la 5 0 12, I b.rate, I b.infl, I b.idx, v]]⟩)) (Nat.le_refl _) (fun l hl hlc => by simp [show ¬ (l = c) by omega])
    have hbk := vb.book
    refine book_to (Q := fun l => c + 1 + 1 + 1 ≤ l) (p := c) (la := la) (v := v) (r := b.rate) (f := b.infl) (x := b.idx) _ _ _ (by simp [q1, q2, q3, q4, z1, z2, z3, z4]) (by simp; omega) O' M hm ha aok.cash hn (by omega) ?_ ?_ ?_
    · intro e
      have e1 : ((sgn * (am : Int)) == 0) = true := by simpa using e
      rw [e1] at hr
      simp only [cond_true] at hr
      subst hr
      simp -implicitDefEqProofs [-frz, h1', hv1, hv2, q1, q2, q3, q4, z1, z2, z3, z4]
      refine hR.ok rfl _ _ _ _ _ (by omega) (Own.weaken (fun l (hl : c + 1 + 1 + 1 ≤ l) => by omega) (Own.frame O' (Nat.le_refl _) (fun l hl hlc => by simp [show ¬ (l = c + 1) by omega]))) M
    · intro e hbad
      have e1 : ((sgn * (am : Int)) == 0) = false := by simpa using e
      rw [e1, hbad] at hr
      simp only [cond_true, cond_false] at hr
      subst hr
      simp -implicitDefEqProofs [-frz, h1', q1, q2, q3, q4, z1, z2, z3, z4]
      exact hR.err (by simp) _ _ (by omega)
    · intro e hbad h2 c2 v2 rows2 p0 pk hc2 O2 M2
      have e1 : ((sgn * (am : Int)) == 0) = false := by simpa using e
      rw [e1, hbad] at hr
      simp only [cond_false] at hr
      subst hr
      have h21 : h2 (c + 1) = some ⟨5, [noC]⟩ := by rw [pk (c + 1) (by simp; omega) (by omega)]; simp [q1, q2, q3, q4, z1, z2, z3, z4, h1']
      have hw1 := slv_cells O2.bkv
      have hw2 := slv_okc O2.bkv
      unfold AV.cells at hw1
      unfold okc at hw2
      simp -implicitDefEqProofs [-frz, p0, h21, hw1, hw2, q1, q2, q3, q4, z1, z2, z3, z4]
      refine hR.ok rfl _ _ _ _ _ (by omega) (Own.weaken (Q := fun l => c + 1 + 1 + 1 ≤ l) (fun l hl => by omega) (Own.frame O2 (Nat.le_refl _) (fun l hl hlc => by simp [show ¬ (l = c + 1) by omega]))) M2
  · cases g6 : decide (b.accs[m].cash < am)
    case true =>
      rw [g5, g6] at hr
      simp only [Bool.true_and, cond_true] at hr
      subst hr
      simp -implicitDefEqProofs [depth, Try.f77, hk, g3, g4, g5, g6, hml, Acc.cells, z1, z2, z3, z4, -decide_eq_true_eq, -decide_eq_false_iff_not]
      exact hR.err (by simp) _ _ (by omega)
    rw [g5, g6] at hr
    simp only [Bool.and_false, cond_false] at hr
    simp -implicitDefEqProofs [depth, Try.f77, hk, g3, g4, g5, g6, hml, Acc.cells, z1, z2, z3, z4, obm, Option.bind_assoc, -decide_eq_true_eq, -decide_eq_false_iff_not]
    refine copy_to (.inl rfl) b vb w _ _ _ ?_
    intro h1 c1 la v rows hc hlow O M
    have h0 : h1 c = some ⟨5, [bc b]⟩ := by rw [hlow c (by omega)]; simp [z1, z2, z3, z4]
    have h1' : h1 (c + 1) = some ⟨5, [noC]⟩ := by rw [hlow (c + 1) (by omega)]; simp [z1, z2, z3, z4]
    have hla := O.hla
    have ha : b.accs[m]? = some b.accs[m] := List.getElem?_eq_getElem hml
    have lge := O.sep4.1
    have lc1 := O.sep4.2
    have q1 : ¬ (la = c) := by omega
    have q2 : ¬ (c = la) := by omega
    have q3 : ¬ (la = c + 1) := by omega
    have q4 : ¬ (c + 1 = la) := by omega
    have hv1 := slv_cells O.bkv
    have hv2 := slv_okc O.bkv
    unfold AV.cells at hv1
    unfold okc at hv2
    simp -implicitDefEqProofs [-frz, h0, h1', hv1, hv2, hw, q1, q2, q3, q4, z1, z2, z3, z4, obm, Option.bind_assoc]
    have O' := O.frame (h' := h1.put c (some ⟨5, [[.sl la 5 0 12, I b.rate, I b.infl, I b.idx, v]]⟩)) (Nat.le_refl _) (fun l hl hlc => by simp [show ¬ (l = c) by omega])
    have hbk := vb.book
    refine book_to (Q := fun l => c + 1 + 1 + 1 ≤ l) (p := c) (la := la) (v := v) (r := b.rate) (f := b.infl) (x := b.idx) _ _ _ (by simp [q1, q2, q3, q4, z1, z2, z3, z4]) (by simp; omega) O' M hm ha aok.cash hn (by omega) ?_ ?_ ?_
    · intro e
      have e1 : ((sgn * (am : Int)) == 0) = true := by simpa using e
      rw [e1] at hr
      simp only [cond_true] at hr
      subst hr
      simp -implicitDefEqProofs [-frz, h1', hv1, hv2, q1, q2, q3, q4, z1, z2, z3, z4]
      refine hR.ok rfl _ _ _ _ _ (by omega) (Own.weaken (fun l (hl : c + 1 + 1 + 1 ≤ l) => by omega) (Own.frame O' (Nat.le_refl _) (fun l hl hlc => by simp [show ¬ (l = c + 1) by omega]))) M
    · intro e hbad
      have e1 : ((sgn * (am : Int)) == 0) = false := by simpa using e
      rw [e1, hbad] at hr
      simp only [cond_true, cond_false] at hr
      subst hr
      simp -implicitDefEqProofs [-frz, h1', q1, q2, q3, q4, z1, z2, z3, z4]
      exact hR.err (by simp) _ _ (by omega)
    · intro e hbad h2 c2 v2 rows2 p0 pk hc2 O2 M2
      have e1 : ((sgn * (am : Int)) == 0) = false := by simpa using e
      rw [e1, hbad] at hr
      simp only [cond_false] at hr
      subst hr
      have h21 : h2 (c + 1) = some ⟨5, [noC]⟩ := by rw [pk (c + 1) (by simp; omega) (by omega)]; simp [q1, q2, q3, q4, z1, z2, z3, z4, h1']
      have hw1 := slv_cells O2.bkv
      have hw2 := slv_okc O2.bkv
      unfold AV.cells at hw1
      unfold okc at hw2
      simp -implicitDefEqProofs [-frz, p0, h21, hw1, hw2, q1, q2, q3, q4, z1, z2, z3, z4]
      refine hR.ok rfl _ _ _ _ _ (by omega) (Own.weaken (Q := fun l => c + 1 + 1 + 1 ≤ l) (fun l hl => by omega) (Own.frame O2 (Nat.le_refl _) (fun l hl hlc => by simp [show ¬ (l = c + 1) by omega]))) M2
theorem bmove_run (b : Bnk) (w : b.Wfb) (co kd am sgn : Int) (strict : Bool) (hs : sgn = 1 ∨ sgn = -1) (c : Nat) (R : Option (AV × Heap × Nat) → Prop) (hR : OwnRes c (moveP b co kd am sgn strict) R) :
    R (run Try.prog (mdT tblB) 78 [.agg (bc b), I co, I kd, I am, I sgn, B strict] Heap.none c) := by
  have hk := fun v h c hv => bchk_c b w [co] (by simp) v h c hv
  generalize hr : moveP b co kd am sgn strict = r at hR
  unfold moveP at hr
  have z1 : ¬ (c = c + 1 + 1) := by omega
  have z2 : ¬ (c + 1 + 1 = c) := by omega
  have z3 : ¬ (c + 1 = c + 1 + 1) := by omega
  have z4 : ¬ (c + 1 + 1 = c + 1) := by omega
  rw [run_eq, show mdT tblB 78 = some .own from rfl, Option.bind_some, Try.func78]
  by_cases g0 : chkP b [co] = 0
  case neg =>
    have g1 : (chkP b [co] == 0) = false := by simpa using g0
    have g2 : (chkP b [co] != 0) = true := by simp [bne, g1]
    rw [g1] at hr
    simp only [cond_false] at hr
    subst hr
    simp -implicitDefEqProofs [depth, Try.f78, hk, g2, z1, z2, z3, z4]
    exact hR.err g0 _ _ (by omega)
  rw [g0] at hk
  obtain ⟨vb, gg⟩ := chk_zero g0
  obtain ⟨n0, n1, hml, hop⟩ := gg co (by simp)
  rw [g0] at hr
  simp only [BEq.rfl, cond_true] at hr
  obtain ⟨m, rfl⟩ : ∃ m : Nat, co = m := ⟨co.toNat, by omega⟩
  simp only [Int.toNat_natCast] at hml
  have hm : m < 12 := by have := vb.len; omega
  have hmi : (m : Int) < 12 := by omega
  have haa : accAt b m = b.accs[m] := by unfold accAt; simp [hml]
  unfold bkP at hr
  rw [haa] at hr
  have aok := vb.accs _ (List.getElem_mem hml)
  cases g3 : outP kd 0 9
  case true =>
    rw [g3] at hr
    simp only [cond_true, Bool.true_or] at hr
    subst hr
    simp -implicitDefEqProofs [depth, Try.f78, hk, g3, z1, z2, z3, z4]
    exact hR.err (by simp) _ _ (by omega)
  cases g4 : outP am 0 1000000000000
  case true =>
    rw [g3, g4] at hr
    simp only [cond_true, Bool.or_true] at hr
    subst hr
    simp -implicitDefEqProofs [depth, Try.f78, hk, g3, g4, z1, z2, z3, z4]
    exact hR.err (by simp) _ _ (by omega)
  rw [g3, g4] at hr
  simp only [cond_false, Bool.or_false] at hr
  have ham := outP_false.1 g4
  have hw : IntKind.i64.wrap (sgn * am) = sgn * am := wrap_id (by rcases hs with rfl | rfl <;> omega) (by rcases hs with rfl | rfl <;> omega)
  have hn : -1000000000000 ≤ sgn * am ∧ sgn * am ≤ 1000000000000 := by rcases hs with rfl | rfl <;> omega
  cases g5 : strict
  · rw [g5] at hr
    simp only [Bool.false_and, cond_false] at hr
    simp -implicitDefEqProofs [depth, Try.f78, hk, g3, g4, g5, hml, Acc.cells, z1, z2, z3, z4, obm, Option.bind_assoc]
    refine copy_to (.inr rfl) b vb w _ _ _ ?_
    intro h1 c1 la v rows hc hlow O M
    have h0 : h1 c = some ⟨5, [bc b]⟩ := by rw [hlow c (by omega)]; simp [z1, z2, z3, z4]
    have h1' : h1 (c + 1) = some ⟨5, [noC]⟩ := by rw [hlow (c + 1) (by omega)]; simp [z1, z2, z3, z4]
    have hla := O.hla
    have ha : b.accs[m]? = some b.accs[m] := List.getElem?_eq_getElem hml
    have lge := O.sep4.1
    have lc1 := O.sep4.2
    have q1 : ¬ (la = c) := by omega
    have q2 : ¬ (c = la) := by omega
    have q3 : ¬ (la = c + 1) := by omega
    have q4 : ¬ (c + 1 = la) := by omega
    have d1 : ¬ (c1 = c) := by omega
    have d2 : ¬ (c = c1) := by omega
    have d3 : ¬ (c1 = c + 1) := by omega
    have d4 : ¬ (c + 1 = c1) := by omega
    have d5 : ¬ (c1 = la) := by omega
    have d6 : ¬ (la = c1) := by omega
    have hv1 := slv_cells O.bkv
    have hv2 := slv_okc O.bkv
    unfold AV.cells at hv1
    unfold okc at hv2
    simp -implicitDefEqProofs [-frz, h0, h1', hv1, hv2, hw, booking_c, q1, q2, q3, q4, z1, z2, z3, z4, d1, d2, d3, d4, d5, d6, obm, Option.bind_assoc]
    have O' := (O.excl (Nat.le_refl c1)).frame (h' := (h1.put c (some ⟨5, [[.sl la 5 0 12, I b.rate, I b.infl, I b.idx, v]]⟩)).put c1 (some ⟨1, [[.ptr c 0 0]]⟩)) (Nat.le_refl _) (fun l hl hlc => by simp [show ¬ (l = c) by omega, hl.2])
    have hbk := vb.book
    refine book91_to (Q := fun l => c + 1 + 1 + 1 ≤ l ∧ l ≠ c1) (d := c1) (p := c) (la := la) (v := v) (r := b.rate) (f := b.infl) (x := b.idx) _ _ _ (by simp [q1, q2, q3, q4, z1, z2, z3, z4, d1, d2, d3, d4, d5, d6]) (by simp; omega) O' M hm ha aok.cash hn (by omega) (by simp [d1, d2]) (by simp) (by omega) ?_ ?_ ?_
    · intro e
      have e1 : ((sgn * (am : Int)) == 0) = true := by simpa using e
      rw [e1] at hr
      simp only [cond_true] at hr
      subst hr
      simp -implicitDefEqProofs [-frz, h1', hv1, hv2, q1, q2, q3, q4, z1, z2, z3, z4, d1, d2, d3, d4, d5, d6]
      refine hR.ok rfl _ _ _ _ _ (by omega) (Own.weaken (fun l (hl : c + 1 + 1 + 1 ≤ l ∧ l ≠ c1) => by omega) (Own.frame O' (Nat.le_refl _) (fun l hl hlc => by simp [show ¬ (l = c + 1) by omega]))) M
    · intro e hbad
      have e1 : ((sgn * (am : Int)) == 0) = false := by simpa using e
      rw [e1, hbad] at hr
      simp only [cond_true, cond_false] at hr
      subst hr
      simp -implicitDefEqProofs [-frz, h1', q1, q2, q3, q4, z1, z2, z3, z4, d1, d2, d3, d4, d5, d6]
      exact hR.err (by simp) _ _ (by omega)
    · intro e hbad h2 c2 v2 rows2 p0 pk hc2 O2 M2
      have e1 : ((sgn * (am : Int)) == 0) = false := by simpa using e
      rw [e1, hbad] at hr
      simp only [cond_false] at hr
      subst hr
      have h21 : h2 (c + 1) = some ⟨5, [noC]⟩ := by rw [pk (c + 1) (by simp; omega) (by omega)]; simp [q1, q2, q3, q4, z1, z2, z3, z4, d1, d2, d3, d4, d5, d6, h1']
      have hw1 := slv_cells O2.bkv
      have hw2 := slv_okc O2.bkv
      unfold AV.cells at hw1
      unfold okc at hw2
      simp -implicitDefEqProofs [-frz, p0, h21, hw1, hw2, q1, q2, q3, q4, z1, z2, z3, z4, d1, d2, d3, d4, d5, d6]
      refine hR.ok rfl _ _ _ _ _ (by omega) (Own.weaken (Q := fun l => c + 1 + 1 + 1 ≤ l) (fun l hl => by omega) (Own.frame (Own.weaken (Q := fun l => c + 1 + 1 + 1 ≤ l ∧ l ≠ c1) (fun l hl => hl.1) O2) (Nat.le_refl _) (fun l hl hlc => by simp [show ¬ (l = c + 1) by omega]))) M2
  · cases g6 : decide (b.accs[m].cash < am)
    case true =>
      rw [g5, g6] at hr
      simp only [Bool.true_and, cond_true] at hr
      subst hr
      simp -implicitDefEqProofs [depth, Try.f78, hk, g3, g4, g5, g6, hml, Acc.cells, z1, z2, z3, z4, -decide_eq_true_eq, -decide_eq_false_iff_not]
      exact hR.err (by simp) _ _ (by omega)
    rw [g5, g6] at hr
    simp only [Bool.and_false, cond_false] at hr
    simp -implicitDefEqProofs [depth, Try.f78, hk, g3, g4, g5, g6, hml, Acc.cells, z1, z2, z3, z4, obm, Option.bind_assoc, -decide_eq_true_eq, -decide_eq_false_iff_not]
    refine copy_to (.inr rfl) b vb w _ _ _ ?_
    intro h1 c1 la v rows hc hlow O M
    have h0 : h1 c = some ⟨5, [bc b]⟩ := by rw [hlow c (by omega)]; simp [z1, z2, z3, z4]
    have h1' : h1 (c + 1) = some ⟨5, [noC]⟩ := by rw [hlow (c + 1) (by omega)]; simp [z1, z2, z3, z4]
    have hla := O.hla
    have ha : b.accs[m]? = some b.accs[m] := List.getElem?_eq_getElem hml
    have lge := O.sep4.1
    have lc1 := O.sep4.2
    have q1 : ¬ (la = c) := by omega
    have q2 : ¬ (c = la) := by omega
    have q3 : ¬ (la = c + 1) := by omega
    have q4 : ¬ (c + 1 = la) := by omega
    have d1 : ¬ (c1 = c) := by omega
    have d2 : ¬ (c = c1) := by omega
    have d3 : ¬ (c1 = c + 1) := by omega
    have d4 : ¬ (c + 1 = c1) := by omega
    have d5 : ¬ (c1 = la) := by omega
    have d6 : ¬ (la = c1) := by omega
    have hv1 := slv_cells O.bkv
    have hv2 := slv_okc O.bkv
    unfold AV.cells at hv1
    unfold okc at hv2
    simp -implicitDefEqProofs [-frz, h0, h1', hv1, hv2, hw, booking_c, q1, q2, q3, q4, z1, z2, z3, z4, d1, d2, d3, d4, d5, d6, obm, Option.bind_assoc]
    have O' := (O.excl (Nat.le_refl c1)).frame (h' := (h1.put c (some ⟨5, [[.sl la 5 0 12, I b.rate, I b.infl, I b.idx, v]]⟩)).put c1 (some ⟨1, [[.ptr c 0 0]]⟩)) (Nat.le_refl _) (fun l hl hlc => by simp [show ¬ (l = c) by omega, hl.2])
    have hbk := vb.book
    refine book91_to (Q := fun l => c + 1 + 1 + 1 ≤ l ∧ l ≠ c1) (d := c1) (p := c) (la := la) (v := v) (r := b.rate) (f := b.infl) (x := b.idx) _ _ _ (by simp [q1, q2, q3, q4, z1, z2, z3, z4, d1, d2, d3, d4, d5, d6]) (by simp; omega) O' M hm ha aok.cash hn (by omega) (by simp [d1, d2]) (by simp) (by omega) ?_ ?_ ?_
    · intro e
      have e1 : ((sgn * (am : Int)) == 0) = true := by simpa using e
      rw [e1] at hr
      simp only [cond_true] at hr
      subst hr
      simp -implicitDefEqProofs [-frz, h1', hv1, hv2, q1, q2, q3, q4, z1, z2, z3, z4, d1, d2, d3, d4, d5, d6]
      refine hR.ok rfl _ _ _ _ _ (by omega) (Own.weaken (fun l (hl : c + 1 + 1 + 1 ≤ l ∧ l ≠ c1) => by omega) (Own.frame O' (Nat.le_refl _) (fun l hl hlc => by simp [show ¬ (l = c + 1) by omega]))) M
    · intro e hbad
      have e1 : ((sgn * (am : Int)) == 0) = false := by simpa using e
      rw [e1, hbad] at hr
      simp only [cond_true, cond_false] at hr
      subst hr
      simp -implicitDefEqProofs [-frz, h1', q1, q2, q3, q4, z1, z2, z3, z4, d1, d2, d3, d4, d5, d6]
      exact hR.err (by simp) _ _ (by omega)
    · intro e hbad h2 c2 v2 rows2 p0 pk hc2 O2 M2
      have e1 : ((sgn * (am : Int)) == 0) = false := by simpa using e
      rw [e1, hbad] at hr
      simp only [cond_false] at hr
      subst hr
      have h21 : h2 (c + 1) = some ⟨5, [noC]⟩ := by rw [pk (c + 1) (by simp; omega) (by omega)]; simp [q1, q2, q3, q4, z1, z2, z3, z4, d1, d2, d3, d4, d5, d6, h1']
      have hw1 := slv_cells O2.bkv
      have hw2 := slv_okc O2.bkv
      unfold AV.cells at hw1
      unfold okc at hw2
      simp -implicitDefEqProofs [-frz, p0, h21, hw1, hw2, q1, q2, q3, q4, z1, z2, z3, z4, d1, d2, d3, d4, d5, d6]
      refine hR.ok rfl _ _ _ _ _ (by omega) (Own.weaken (Q := fun l => c + 1 + 1 + 1 ≤ l) (fun l hl => by omega) (Own.frame (Own.weaken (Q := fun l => c + 1 + 1 + 1 ≤ l ∧ l ≠ c1) (fun l hl => hl.1) O2) (Nat.le_refl _) (fun l hl hlc => by simp [show ¬ (l = c + 1) by omega]))) M2
end Go.Proofs.Ytdckleaemkcapaa.AM
