/- Texts of the proof: part B60. -/
import Derived.Test.YtdckleaemkcapaaB59
set_option maxHeartbeats 0
set_option linter.unusedSimpArgs false
set_option linter.unusedVariables false
set_option linter.unusedSectionVars false
namespace Go.Proofs.Ytdckleaemkcapaa.AM
open Go Go.Proofs
attribute [local simp] AV.cells okc AV.isBad fieldAddrA ld setCells stA skipV appendA hd makeA bnd sliceA kindA freshA killOk loadsAt newT empT lay_get allocA buildA buildRow builtinA lenA els indexAddrA isNil opA evA lit yldA binA binI unA pickA boolV intV fieldA mk flat lf lf.lfs frz
def isum : List Int → Int
  | [] => 0
  | x :: l => x + isum l
theorem isum_app (l l' : List Int) : isum (l ++ l') = isum l + isum l' := by
  induction l with
  | nil => show isum l' = 0 + _; omega
  | cons x l ih => show x + isum (l ++ l') = x + isum l + _; omega
theorem isum_set : ∀ (l : List Int) (k : Nat) (y x : Int), l[k]? = some x → isum (l.set k y) = isum l - x + y
  | [], k, y, x, h => by simp at h
  | z :: l, 0, y, x, h => by
    simp at h
    subst h
    show y + isum l = z + isum l - z + y
    omega
  | z :: l, k + 1, y, x, h => by
    show z + isum (l.set k y) = z + isum l - x + y
    rw [isum_set l k y x (by simpa using h)]
    omega
theorem isum_take {l : List Int} {k : Nat} {x : Int} (h : l[k]? = some x) : isum (l.take (k + 1)) = isum (l.take k) + x := by
  rw [List.take_add_one, h, isum_app]
  show _ + (x + 0) = _
  omega
theorem isum_repl (n : Nat) : isum (List.replicate n 0) = 0 := by
  induction n with
  | zero => rfl
  | succ n ih => rw [List.replicate_succ]; show 0 + isum _ = 0; omega
/-- The sums of a right book, as they are. -/
structure TotOk (co : Int) (l : List Ent) (n : Nat) : Prop where
  s : (totP co l).2 = sumOf co l
  k : isum (totP co l).1 = sumOf co l
  b : ∀ (i : Nat) x, (totP co l).1[i]? = some x → -(n * 1000000000000 : Int) ≤ x ∧ x ≤ n * 1000000000000
  c : -(n * 1000000000000 : Int) ≤ sumOf co l ∧ sumOf co l ≤ n * 1000000000000
theorem tot_ok (co : Int) (l : List Ent) (hl : l.length ≤ 20000) (hk : ∀ e ∈ l, (0 ≤ e.kd ∧ e.kd ≤ 9) ∧ (-1000000000000 ≤ e.am ∧ e.am ≤ 1000000000000)) : ∀ n, n ≤ l.length → TotOk co (l.take n) n
  | 0, _ => by
    refine ⟨rfl, isum_repl 10, fun i x hx => ?_, by simp [sumOf]⟩
    have hx' : (List.replicate 10 (0 : Int))[i]? = some x := hx
    have := List.eq_of_mem_replicate (List.mem_of_getElem? hx')
    subst this
    simp
  | n + 1, hn => by
    have ih := tot_ok co l hl hk n (by omega)
    have hlt : n < l.length := by omega
    have he := hk _ (List.getElem_mem hlt)
    have len := totP_len co (l.take n)
    have e1 : sumOf co (l.take (n + 1)) = sumOf co (l.take n) + (bif l[n].co == co then l[n].am else 0) := by
      rw [List.take_add_one, List.getElem?_eq_getElem hlt, sumOf_app]
      show _ + ((bif l[n].co == co then l[n].am else 0) + 0) = _
      omega
    have e2 := totP_take co hlt
    have i1 := ih.s
    have i2 := ih.k
    have i3 := ih.b
    have i4 := ih.c
    unfold tot1 at e2
    cases g : l[n].co == co
    · rw [g] at e1 e2
      simp only [cond_false] at e1 e2
      refine ⟨by rw [e2, i1]; omega, by rw [e2, i2]; omega, fun i x hx => ?_, by omega⟩
      rw [e2] at hx
      have := i3 i x hx
      omega
    · rw [g] at e1 e2
      simp only [cond_true] at e1 e2
      have hkl : l[n].kd.toNat < (totP co (l.take n)).1.length := by omega
      have hx0 := List.getElem?_eq_getElem hkl
      have b0 := i3 _ _ hx0
      rw [hx0] at e2
      simp only [Option.getD_some] at e2
      rw [wrap_id (by omega) (by omega), wrap_id (by omega) (by omega)] at e2
      refine ⟨by rw [e2]; show (totP co (l.take n)).2 + _ = _; omega, ?_, fun i x hx => ?_, by omega⟩
      · rw [e2]
        show isum ((totP co (l.take n)).1.set _ _) = _
        rw [isum_set _ _ _ _ hx0]
        omega
      · rw [e2] at hx
        have hx' : ((totP co (l.take n)).1.set l[n].kd.toNat ((totP co (l.take n)).1[l[n].kd.toNat] + l[n].am))[i]? = some x := hx
        rw [List.getElem?_set] at hx'
        by_cases ei : l[n].kd.toNat = i
        · rw [if_pos ei, if_pos hkl] at hx'
          cases hx'
          omega
        · rw [if_neg ei] at hx'
          have := i3 i x hx'
          omega
def cashN (b : Bnk) : Nat → Int
  | 0 => 0
  | i + 1 => cashN b i + (accAt b i).cash
theorem cashN_small {b : Bnk} (v : Valid b) : ∀ (i : Nat), i ≤ 12 → -((i : Int) * 1000000000000) ≤ cashN b i ∧ cashN b i ≤ (i : Int) * 1000000000000
  | 0, _ => by simp [cashN]
  | i + 1, h => by
    have ih := cashN_small v i (by omega)
    have hm := (at_open v (n := (i : Int)) (by omega)).1
    have := (v.accs _ hm).cash
    show -(((i + 1 : Nat) : Int) * 1000000000000) ≤ cashN b i + _ ∧ cashN b i + _ ≤ _
    omega
theorem law18 (rate infl : Int) (z : Bool) (l : List Stp) (hl : l.length ≤ 9223372036854775807) (hs : ∀ s ∈ l, s.l.length ≤ 9223372036854775807) : ∃ hp c, run Try.prog (mdT tblB) 18 [I rate, I infl, .ro z (l.map Stp.cells)] Heap.none 0 = some (B true, hp, c) := by
  have kn := known_c
  have r2 := bnew_c rate infl
  rw [resB_eq] at r2
  have hw : Bnk.Wfb (pickB (newP rate infl) (newB rate infl)) := pick_sized (newB_sized _ _)
  have hv : newP rate infl = 0 → Valid (pickB (newP rate infl) (newB rate infl)) ∧ Adds (pickB (newP rate infl) (newB rate infl)) := by
    intro h
    have := newB_valid h
    rw [h]
    refine ⟨this, fun i hi => ?_⟩
    show 0 = (accAt (newB rate infl) i).cash
    unfold accAt newB
    simp only [Int.toNat_natCast]
    rw [List.getElem?_replicate, if_pos hi]
    rfl
  revert r2 hw hv
  generalize pickB (newP rate infl) (newB rate infl) = n0
  generalize newP rate infl = e
  intro r2 hw hv
  rw [run_eq, show mdT tblB 18 = some .pure from rfl, Option.bind_some, Try.func18]
  by_cases he : e = 0
  case neg =>
    have e1 : (e != 0) = true := by simpa using he
    simp -implicitDefEqProofs [Try.f18, r2, kn, e1]
  subst he
  obtain ⟨v0, a0⟩ := hv rfl
  cases g0 : decide (200 < (l.length : Int))
  case true => simp -implicitDefEqProofs [Try.f18, r2, kn, g0, -decide_eq_true_eq, -decide_eq_false_iff_not]
  have hl200 := of_decide_eq_false g0
  simp -implicitDefEqProofs [Try.f18, r2, kn, g0, Option.bind_assoc, -decide_eq_true_eq, -decide_eq_false_iff_not]
  refine count_or (R := fun o => ∃ hp c, o = some (B true, hp, c)) l.length (fun j s => ∃ b : Bnk, b.Wfb ∧ Valid b ∧ Adds b ∧ s.h 0 = some ⟨5, [bc b]⟩ ∧ 0 < s.c ∧ s.t 2 = .ro z (l.map Stp.cells) ∧ s.t 7 = .ptr 0 0 0 ∧ s.t 9 = I j) _ ?_ ?_ ?_
  · simp
    exact ⟨n0, hw, v0, a0, by simp⟩
  · rintro j ⟨t, h, d⟩ ⟨b, wb, vb, ab, h0, hd, t2, t7, t9⟩ hj
    simp only at h0 hd t2 t7 t9
    have k1 : decide ((j : Int) < (l.length : Int)) = true := decide_eq_true (by omega)
    cases g1 : decide (300 < (l[j].l.length : Int))
    case true =>
      right
      simp -implicitDefEqProofs [h0, t2, t7, t9, hj, k1, kn, g1, Stp.cells, -decide_eq_true_eq, -decide_eq_false_iff_not]
    left
    obtain ⟨x1, nx1, wx1, cx1⟩ := call_post (args := [.agg (bc b), .agg (sc l[j])]) rfl (fun h => rfl) (play_x b wb l[j] (hs _ (List.getElem_mem hj))) rfl
    have wj : IntKind.i64.wrap ((j : Int) + 1) = ((j + 1 : Nat) : Int) := wrap_succ (by omega)
    have n1 : ¬ (0 = d) := by omega
    have n2 : ¬ (d = 0) := by omega
    have n9 : ¬ (d ≤ 0) := by omega
    by_cases hz : (stepP b l[j]).1 = 0
    · have vx : Valid x1 := valid_same nx1 (stepP_valid hz)
      have ax : Adds x1 := adds_same nx1 (adds_step ab hz)
      rw [hz] at cx1
      simp -implicitDefEqProofs [h0, t2, t7, t9, hj, k1, g1, cx1, wj, n1, n2, n9, Stp.cells, -decide_eq_true_eq, -decide_eq_false_iff_not]
      refine ⟨x1, wx1, vx, ax, ?_⟩
      simp
      first | done | omega | exact wj | exact ⟨by omega, wj⟩
    · have hz1 : ((stepP b l[j]).1 == 0) = false := by simpa using hz
      simp -implicitDefEqProofs [h0, t2, t7, t9, hj, k1, g1, cx1, hz1, wj, n1, n2, n9, Stp.cells, -decide_eq_true_eq, -decide_eq_false_iff_not]
      refine ⟨b, wb, vb, ab, ?_⟩
      simp
      first | done | omega | exact wj | exact ⟨by omega, wj⟩
  · rintro ⟨t, h, d⟩ ⟨b, wb, vb, ab, h0, hd, t2, t7, t9⟩
    simp only at h0 hd t2 t7 t9
    have k1 : decide ((l.length : Int) < (l.length : Int)) = false := decide_eq_false (by omega)
    have l12 := vb.len
    simp -implicitDefEqProofs [h0, t2, t7, t9, k1, Option.bind_assoc, -decide_eq_true_eq, -decide_eq_false_iff_not]
    refine count_to (R := fun o => ∃ hp c, o = some (B true, hp, c)) 12 (fun i s => s.h 0 = some ⟨5, [bc b]⟩ ∧ s.t 7 = .ptr 0 0 0 ∧ s.t 12 = I (cashN b i) ∧ s.t 13 = I (cashN b i) ∧ s.t 14 = I i) _ ?_ ?_ ?_
    · simp [h0, t7, cashN]
    · rintro i ⟨t, h, d⟩ ⟨h0, t7, t12, t13, t14⟩ hi
      simp only at h0 t7 t12 t13 t14
      have hil : i < b.accs.length := by omega
      have ki : decide ((i : Int) < 12) = true := decide_eq_true (by omega)
      have wi : IntKind.i64.wrap ((i : Int) + 1) = ((i + 1 : Nat) : Int) := wrap_succ (by omega)
      have haa : accAt b i = b.accs[i] := by unfold accAt; simp [hil]
      have ok := vb.accs _ (List.getElem_mem hil)
      have hcash := ok.cash
      have hai := ab i hi
      rw [haa] at hai
      have T := tot_ok i b.book vb.book (fun e he => ⟨(vb.ents e he).2.1, (vb.ents e he).2.2.2⟩) b.book.length (Nat.le_refl _)
      rw [List.take_length] at T
      have ht := btot_c b wb i
      have hR : totR b i = .tup [.ro false (ints (totP i b.book).1), I (totP i b.book).2, E 0] := by
        unfold totR
        rw [valP_of vb, outP_false.2 (by omega)]
        rfl
      have hlen := totP_len i b.book
      rw [hR, T.s, hai] at ht
      have hk := T.k
      rw [hai] at hk
      have hb := T.b
      have hbl := vb.book
      revert ht hk hb hlen
      generalize (totP i b.book).1 = Kl
      intro ht hlen hk hb
      have hS := cashN_small vb i (by omega)
      have nxt : cashN b (i + 1) = cashN b i + b.accs[i].cash := by show cashN b i + (accAt b i).cash = _; rw [haa]
      have ws : IntKind.i64.wrap (cashN b i + b.accs[i].cash) = cashN b (i + 1) := by rw [nxt]; exact wrap_id (by omega) (by omega)
      have cc : (b.accs[i].cash != b.accs[i].cash) = false := by simp
      have hne : ((Kl.length : Int) != 10) = false := by rw [hlen]; rfl
      simp -implicitDefEqProofs [h0, t7, t12, t13, t14, l12, hil, hi, ki, ht, hne, Acc.cells, obm, Option.bind_assoc, -decide_eq_true_eq]
      refine count_to (R := GoesOn _) 10 (fun k s => s.h 0 = some ⟨5, [bc b]⟩ ∧ s.t 7 = .ptr 0 0 0 ∧ s.t 12 = I (cashN b i + isum (Kl.take k)) ∧ s.t 13 = I (cashN b i) ∧ s.t 14 = I i ∧ s.t 15 = .ro false (ints Kl) ∧ s.t 18 = I k ∧ (-((k : Int) * 20000000000000000) ≤ isum (Kl.take k) ∧ isum (Kl.take k) ≤ (k : Int) * 20000000000000000)) _ ?_ ?_ ?_
      · simp [h0, t7, t12, t13, t14, isum]
      · rintro k ⟨t, h, d⟩ ⟨h0, t7, t12, t13, t14, t15, t18, hbd⟩ hk10
        simp only at h0 t7 t12 t13 t14 t15 t18 hbd
        have hkl : k < Kl.length := by omega
        have kk : decide ((k : Int) < 10) = true := decide_eq_true (by omega)
        have wk : IntKind.i64.wrap ((k : Int) + 1) = ((k + 1 : Nat) : Int) := wrap_succ (by omega)
        have hx := List.getElem?_eq_getElem hkl
        have hbx := hb k _ hx
        have e1 := isum_take hx
        have wa : IntKind.i64.wrap (cashN b i + isum (Kl.take k) + Kl[k]) = cashN b i + isum (Kl.take (k + 1)) := by rw [wrap_id (by omega) (by omega)]; omega
        simp -implicitDefEqProofs [h0, t7, t12, t13, t14, t15, t18, hlen, hk10, hkl, kk, wk, wa, -decide_eq_true_eq]
        omega
      · rintro ⟨t, h, d⟩ ⟨h0, t7, t12, t13, t14, t15, t18, hbd⟩
        simp only at h0 t7 t12 t13 t14 t15 t18 hbd
        rw [List.take_of_length_le (by omega), hk] at t12
        simp -implicitDefEqProofs [h0, t7, t12, t13, t14, t15, t18, hlen, hil, hi, ws, wi, Acc.cells]
        first | done | exact nxt.symm | omega
    · rintro ⟨t, h, d⟩ ⟨h0, t7, t12, t13, t14⟩
      simp only at h0 t7 t12 t13 t14
      simp -implicitDefEqProofs [h0, t7, t12, t13, t14, l12, kn]
theorem pure18 (x0 x1 x2 : AV) (h0 : TyArg Try.prog 8 3 x0) (h1 : TyArg Try.prog 8 3 x1) (h2 : TyArg Try.prog 8 52 x2) : ∃ h c, run Try.prog (mdT tblB) 18 [x0, x1, x2] Heap.none 0 = some (B true, h, c) := by
  obtain ⟨a, rfl, _⟩ := arg3 h0
  obtain ⟨b, rfl, _⟩ := arg3 h1
  obtain ⟨z, l, rfl, hl, hs⟩ := arg52 h2
  exact law18 a b z l hl hs
end Go.Proofs.Ytdckleaemkcapaa.AM
