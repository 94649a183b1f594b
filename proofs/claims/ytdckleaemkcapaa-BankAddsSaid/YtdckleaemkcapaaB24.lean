/- Texts of the proof: part B24. -/
import Derived.Test.YtdckleaemkcapaaB23
set_option maxHeartbeats 0
set_option linter.unusedSimpArgs false
set_option linter.unusedVariables false
set_option linter.unusedSectionVars false
namespace Go.Proofs.Ytdckleaemkcapaa.AM
open Go Go.Proofs
attribute [local simp] AV.cells okc AV.isBad fieldAddrA ld setCells stA skipV appendA hd makeA bnd sliceA kindA freshA killOk loadsAt newT empT lay_get allocA buildA buildRow builtinA lenA els indexAddrA isNil opA evA lit yldA binA binI unA pickA boolV intV fieldA mk flat lf lf.lfs frz
theorem slv_okc {sz : Nat} {v : AV} (h : SlV sz v) : okc v = true := by rcases h with ⟨_, _, _, rfl⟩ | rfl | rfl <;> rfl
theorem slv_cells {sz : Nat} {v : AV} (h : SlV sz v) : v.cells = [v] := by rcases h with ⟨_, _, _, rfl⟩ | rfl | rfl <;> rfl
theorem obm {α β γ : Type} (x : Option α) (f : α → β) (g : β → Option γ) : (x.map f).bind g = x.bind fun a => g (f a) := by cases x <;> rfl
theorem booking_c (p : Nat) (h : Heap) (c : Nat) : callA (mdT tblB) (run Try.prog (mdT tblB)) 70 [.ptr p 0 0] h c = some (.fn 91 [.ptr c 0 0], h.put c (some ⟨1, [[.ptr p 0 0]]⟩), c + 1) := by
  have e : run Try.prog (mdT tblB) 70 [.ptr p 0 0] Heap.none c = some (.fn 91 [.ptr c 0 0], Heap.none.put c (some ⟨1, [[.ptr p 0 0]]⟩), c + 1) := by
    rw [run_eq, show mdT tblB 70 = some .own from rfl, Option.bind_some, Try.func70]
    simp -implicitDefEqProofs [Try.f70]
  rw [call_own_mode rfl e, cut_put]
/-- An answer: an error and a bank. -/
def PostB (e : Int) (X : Bnk) : Option (AV × Heap × Nat) → Prop
  | some (r, h, _) => ∃ b' : Bnk, frz h depth r = some (.tup [.agg (bc b'), E e]) ∧ b'.nrm = X.nrm ∧ b'.Wfb
  | none => False
theorem post_some {e : Int} {X : Bnk} {r : AV} {h : Heap} {c : Nat} : PostB e X (some (r, h, c)) ↔ ∃ b' : Bnk, frz h depth r = some (.tup [.agg (bc b'), E e]) ∧ b'.nrm = X.nrm ∧ b'.Wfb := Iff.rfl
theorem call_post {f : Nat} {args vs : List AV} {e : Int} {X : Bnk} (hm : mdT tblB f = some .pure) (ha : ∀ h, args.mapM (frz h depth) = some vs) (hp : PostB e X (run Try.prog (mdT tblB) f vs Heap.none 0)) (hl : lf.lfs args = true) :
    ∃ b' : Bnk, b'.nrm = X.nrm ∧ b'.Wfb ∧ ∀ h c, callA (mdT tblB) (run Try.prog (mdT tblB)) f args h c = some (.tup [.agg (bc b'), E e], h, c) := by
  cases e2 : run Try.prog (mdT tblB) f vs Heap.none 0 with
  | none => rw [e2] at hp; exact hp.elim
  | some p =>
    obtain ⟨r, h', c'⟩ := p
    rw [e2] at hp
    obtain ⟨b', h1, h2, h3⟩ := hp
    exact ⟨b', h2, h3, fun h c => call_frz hm (ha h) e2 h1 hl⟩
theorem post_err (e : Int) (h : Heap) (c : Nat) : PostB e noB (some (.tup [.agg noC, E e], h, c)) := ⟨noB, rfl, rfl, noB_sized⟩
theorem nrm_mem {b b' : Bnk} (h : b'.nrm = b.nrm) {a : Acc} (ha : a ∈ b'.accs) : ∃ a0 ∈ b.accs, a0.nrm = a.nrm := by
  have e : b'.accs.map Acc.nrm = b.accs.map Acc.nrm := congrArg Bnk.accs h
  have : a.nrm ∈ b.accs.map Acc.nrm := by rw [← e]; exact List.mem_map_of_mem ha
  obtain ⟨a0, h1, h2⟩ := List.mem_map.1 this
  exact ⟨a0, h1, h2⟩
def Small (accs : List Acc) : Prop := ∀ a ∈ accs, a.parts.length ≤ 9223372036854775807 ∧ a.last.length ≤ 9223372036854775807
theorem Own.scal {Q : Nat → Prop} {c : Nat} {h : Heap} {la : Nat} {v : AV} {accs : List Acc} {book : List Ent} {rows : List (List AV)} (O : Own Q c h la v accs book rows) {m : Nat} (hm : m < 12) {a : Acc} {vp vl : AV}
    (hrw : rows[m]? = some (rw5 a.opn a.cash a.loan vp vl)) (hvp : els h vp = some (ints a.parts)) (hvl : els h vl = some (ints a.last)) {o : Bool} {x y : Int} {h' : Heap} (hla : h' la = some ⟨5, rows.set m (rw5 o x y vp vl)⟩) (hh : ∀ l, l ≠ la → Q l → h' l = h l) :
    Own Q c h' la v (accs.set m { a with opn := o, cash := x, loan := y }) book (rows.set m (rw5 o x y vp vl)) := by
  have k3 := fun l (hl : l ∈ nm vp) => O.sep2 m 3 l ⟨_, vp, hrw, rfl, hl⟩
  have k4 := fun l (hl : l ∈ nm vl) => O.sep2 m 4 l ⟨_, vl, hrw, rfl, hl⟩
  refine O.upd (a' := { a with opn := o, cash := x, loan := y }) hm hrw (Nat.le_refl _) hla (fun l hl hin => hh l hl ?_) ?_ ?_ (fun l hl => .inl hl) (fun l hl => .inl hl) (fun l k1 k2 => ?_)
  · rcases hin with hin | ⟨i, f, _, hin⟩
    · exact (O.sep3 l hin).2.1
    · exact (O.sep2 i f l hin).2.2.1
  · rw [els_congr fun l hl => hh l (k3 l hl).1 (k3 l hl).2.2.1]; exact hvp
  · rw [els_congr fun l hl => hh l (k4 l hl).1 (k4 l hl).2.2.1]; exact hvl
  · have := O.sep1 m 3 m 4 l ⟨_, vp, hrw, rfl, k1⟩ ⟨_, vl, hrw, rfl, k2⟩
    omega
theorem small_of {b : Bnk} (v : Valid b) : Small b.accs := fun a h => ⟨by have := (v.accs a h).lp; omega, by have := v.last a h; omega⟩
theorem small_set {accs : List Acc} (s : Small accs) {i : Nat} {a : Acc} (h1 : a.parts.length ≤ 9223372036854775807) (h2 : a.last.length ≤ 9223372036854775807) : Small (accs.set i a) := by
  intro x hx
  rcases List.mem_or_eq_of_mem_set hx with hx | rfl
  · exact s x hx
  · exact ⟨h1, h2⟩
theorem post_own {Q : Nat → Prop} {c c' : Nat} {h : Heap} {la : Nat} {v : AV} {accs : List Acc} {book : List Ent} {rows : List (List AV)} (O : Own Q c h la v accs book rows) (M : Mine rows 12) (r f x : Int) (hb : book.length ≤ 9223372036854775807) (hs : Small accs) :
    PostB 0 ⟨false, accs, r, f, x, false, book⟩ (some (.tup [.agg [.sl la 5 0 12, I r, I f, I x, v], E 0], h, c')) := by
  obtain ⟨b', h1, h2, h3, h4, h5⟩ := O.frz M 6 r f x
  refine ⟨b', ?_, h2, ⟨fun a ha => ?_, ?_, ?_, fun hn => (by rw [h4] at hn; cases hn), h3⟩⟩
  · show (List.mapM (frz h 11) [.agg [.sl la 5 0 12, I r, I f, I x, v], E 0]).map AV.tup = _
    rw [List.mapM_cons, h1]
    rfl
  · obtain ⟨a0, k1, k2⟩ := nrm_mem h2 ha
    have k3 := hs a0 k1
    have p1 : a0.parts = a.parts := by simpa [Acc.nrm] using congrArg Acc.parts k2
    have p2 : a0.last = a.last := by simpa [Acc.nrm] using congrArg Acc.last k2
    rw [p1, p2] at k3
    exact ⟨k3.1, k3.2, (h5 a ha).1, (h5 a ha).2⟩
  · have e : b'.accs.map Acc.nrm = accs.map Acc.nrm := congrArg Bnk.accs h2
    have := congrArg List.length e
    simp [O.alen] at this
    omega
  · have e : b'.book = book := congrArg Bnk.book h2
    rw [e]; exact hb
def foundP (b : Bnk) (n : Int) : Int × Bnk := bif valP b == 0 then bif outP n 0 11 then (1, noB) else bif opnAt b n then (3, noB) else bif decide (20000 ≤ (b.book.length : Int)) then (10, noB)
  else (0, ⟨false, b.accs.set n.toNat { accAt b n with opn := true, cash := (accAt b n).cash + 100000, loan := 100000 }, b.rate, b.infl, b.idx, false, b.book ++ [⟨n, 0, 100000⟩]⟩) else (valP b, noB)
theorem rfound_x (b : Bnk) (w : b.Wfb) (n : Int) : PostB (foundP b n).1 (foundP b n).2 (run Try.prog (mdT tblB) 26 [.agg (bc b), I n] Heap.none 0) := by
  have hk := rval_c b w
  generalize hr : foundP b n = r
  unfold foundP at hr
  rw [run_eq, show mdT tblB 26 = some .pure from rfl, Option.bind_some, Try.func26]
  by_cases g0 : valP b = 0
  case neg =>
    have g1 : (valP b == 0) = false := by simpa using g0
    have g2 : (valP b != 0) = true := by simp [bne, g1]
    rw [g1] at hr
    simp only [cond_false] at hr
    subst hr
    simp -implicitDefEqProofs [-frz, Try.f26, hk, g2]
    exact post_err _ _ _
  have vb := valid_of g0
  rw [g0] at hk hr
  simp only [BEq.rfl, cond_true] at hr
  cases g3 : outP n 0 11
  case true =>
    rw [g3] at hr
    simp only [cond_true] at hr
    subst hr
    simp -implicitDefEqProofs [-frz, Try.f26, hk, g3]
    exact post_err _ _ _
  rw [g3] at hr
  simp only [cond_false] at hr
  obtain ⟨m, rfl⟩ : ∃ m : Nat, n = m := ⟨n.toNat, by have := outP_false.1 g3; omega⟩
  have hm : m < 12 := by have := outP_false.1 g3; omega
  have hml : m < b.accs.length := by have := vb.len; omega
  have hoa : opnAt b m = b.accs[m].opn := by unfold opnAt; simp [hml]
  have haa : accAt b m = b.accs[m] := by unfold accAt; simp [hml]
  rw [hoa, haa] at hr
  have aok := vb.accs _ (List.getElem_mem hml)
  cases g4 : b.accs[m].opn
  case true =>
    rw [g4] at hr
    simp only [cond_true] at hr
    subst hr
    simp -implicitDefEqProofs [-frz, Try.f26, hk, g3, g4, hml, Acc.cells]
    exact post_err _ _ _
  rw [g4] at hr
  simp only [cond_false] at hr
  have hcash := (aok.none g4).2.1
  have hmi : (m : Int) < 12 := by omega
  simp -implicitDefEqProofs [-frz, Try.f26, hk, g3, g4, hml, Acc.cells, obm, Option.bind_assoc]
  refine copy_to (.inl rfl) b vb w _ _ _ ?_
  intro h1 c1 la v rows hc hlow O M
  have h0 : h1 0 = some ⟨5, [bc b]⟩ := by rw [hlow 0 (by omega)]; simp
  have h1' : h1 1 = some ⟨5, [noC]⟩ := by rw [hlow 1 (by omega)]; simp
  have hla := O.hla
  have hlt : m < rows.length := by rw [O.len]; exact hm
  obtain ⟨a, vp, vl, ha, hrw, hvp, hvl⟩ := O.get hm
  rw [List.getElem?_eq_getElem hml] at ha
  cases ha
  have hr' : rows[m] = [B b.accs[m].opn, I b.accs[m].cash, I b.accs[m].loan, vp, vl] := by rw [List.getElem?_eq_getElem hlt] at hrw; exact Option.some.inj hrw
  have lge := O.sep4.1
  have hv1 := slv_cells O.bkv
  have hv2 := slv_okc O.bkv
  unfold AV.cells at hv1
  unfold okc at hv2
  have q1 : ¬ (la = 0) := by omega
  have q2 : ¬ (0 = la) := by omega
  have q3 : ¬ (la = 1) := by omega
  have q4 : ¬ (1 = la) := by omega
  simp -implicitDefEqProofs [-frz, h0, h1', hla, hlt, hr', hm, hmi, q1, q2, q3, q4, g4, hv1, hv2, obm, Option.bind_assoc]
  have aO : (b.accs.set m { b.accs[m] with opn := true, cash := b.accs[m].cash, loan := 100000 })[m]? = some { b.accs[m] with opn := true, cash := b.accs[m].cash, loan := 100000 } := by simp [hml]
  have hbk := vb.book
  refine book_to (Q := fun l => 2 ≤ l) (p := 0) (la := la) (v := v) (r := b.rate) (f := b.infl) (x := b.idx) (a := { b.accs[m] with opn := true, cash := b.accs[m].cash, loan := 100000 }) _ _ _ (by simp [q1, q2, q3, q4]) (by simp) (O.scal hm hrw hvp hvl (by simp [q1, q2, q3, q4]) (fun l hl hq => by simp [hl, show ¬ (l = 0) by omega])) (mine_put M (M.get hm hrw).1 (M.get hm hrw).2) hm aO (by simp only; omega) (by omega) (by omega) ?_ ?_ ?_
  · intro e; omega
  · intro _ hbad
    have hl : decide (20000 ≤ (b.book.length : Int)) = true := by
      unfold bookBad at hbad
      rw [show outP (b.accs[m].cash + 100000) (-1000000000000) 1000000000000 = false from outP_false.2 (by omega)] at hbad
      simpa using hbad
    rw [hl] at hr
    simp only [cond_true] at hr
    subst hr
    simp -implicitDefEqProofs [-frz, h1', q1, q2, q3, q4]
    exact post_err _ _ _
  · intro _ hbad h2 c2 v2 rows2 p0 pk hc2 O2 M2
    have hl : decide (20000 ≤ (b.book.length : Int)) = false := by
      unfold bookBad at hbad
      rw [show outP (b.accs[m].cash + 100000) (-1000000000000) 1000000000000 = false from outP_false.2 (by omega)] at hbad
      simpa using hbad
    rw [hl] at hr
    simp only [cond_false] at hr
    subst hr
    have h21 : h2 1 = some ⟨5, [noC]⟩ := by rw [pk 1 (by simp) (by omega)]; simp [q1, q2, q3, q4, h1']
    have hw1 := slv_cells O2.bkv
    have hw2 := slv_okc O2.bkv
    unfold AV.cells at hw1
    unfold okc at hw2
    simp -implicitDefEqProofs [-frz, p0, h21, hw1, hw2, q1, q2, q3, q4]
    rw [List.set_set] at O2
    have O3 := O2.frame (h' := h2.put 1 (some ⟨5, [[.sl la 5 0 12, I b.rate, I b.infl, I b.idx, v2]]⟩)) (Nat.le_refl _) (fun l hl hlc => by simp [show ¬ (l = 1) by omega])
    exact post_own O3 M2 _ _ _ (by simp; omega) (small_set (small_of vb) (by have := aok.lp; simp only; omega) (by have := vb.last _ (List.getElem_mem hml); simp only; omega))
theorem bfound_x (b : Bnk) (w : b.Wfb) (n : Int) : PostB (foundP b n).1 (foundP b n).2 (run Try.prog (mdT tblB) 27 [.agg (bc b), I n] Heap.none 0) := by
  have hk := bval_c b w
  generalize hr : foundP b n = r
  unfold foundP at hr
  rw [run_eq, show mdT tblB 27 = some .pure from rfl, Option.bind_some, Try.func27]
  by_cases g0 : valP b = 0
  case neg =>
    have g1 : (valP b == 0) = false := by simpa using g0
    have g2 : (valP b != 0) = true := by simp [bne, g1]
    rw [g1] at hr
    simp only [cond_false] at hr
    subst hr
    simp -implicitDefEqProofs [-frz, Try.f27, hk, g2]
    exact post_err _ _ _
  have vb := valid_of g0
  rw [g0] at hk hr
  simp only [BEq.rfl, cond_true] at hr
  cases g3 : outP n 0 11
  case true =>
    rw [g3] at hr
    simp only [cond_true] at hr
    subst hr
    simp -implicitDefEqProofs [-frz, Try.f27, hk, g3]
    exact post_err _ _ _
  rw [g3] at hr
  simp only [cond_false] at hr
  obtain ⟨m, rfl⟩ : ∃ m : Nat, n = m := ⟨n.toNat, by have := outP_false.1 g3; omega⟩
  have hm : m < 12 := by have := outP_false.1 g3; omega
  have hml : m < b.accs.length := by have := vb.len; omega
  have hoa : opnAt b m = b.accs[m].opn := by unfold opnAt; simp [hml]
  have haa : accAt b m = b.accs[m] := by unfold accAt; simp [hml]
  rw [hoa, haa] at hr
  have aok := vb.accs _ (List.getElem_mem hml)
  cases g4 : b.accs[m].opn
  case true =>
    rw [g4] at hr
    simp only [cond_true] at hr
    subst hr
    simp -implicitDefEqProofs [-frz, Try.f27, hk, g3, g4, hml, Acc.cells]
    exact post_err _ _ _
  rw [g4] at hr
  simp only [cond_false] at hr
  have hcash := (aok.none g4).2.1
  have hmi : (m : Int) < 12 := by omega
  simp -implicitDefEqProofs [-frz, Try.f27, hk, g3, g4, hml, Acc.cells, obm, Option.bind_assoc]
  refine copy_to (.inr rfl) b vb w _ _ _ ?_
  intro h1 c1 la v rows hc hlow O M
  have h0 : h1 0 = some ⟨5, [bc b]⟩ := by rw [hlow 0 (by omega)]; simp
  have h1' : h1 1 = some ⟨5, [noC]⟩ := by rw [hlow 1 (by omega)]; simp
  have hla := O.hla
  have hlt : m < rows.length := by rw [O.len]; exact hm
  obtain ⟨a, vp, vl, ha, hrw, hvp, hvl⟩ := O.get hm
  rw [List.getElem?_eq_getElem hml] at ha
  cases ha
  have hr' : rows[m] = [B b.accs[m].opn, I b.accs[m].cash, I b.accs[m].loan, vp, vl] := by rw [List.getElem?_eq_getElem hlt] at hrw; exact Option.some.inj hrw
  have lge := O.sep4.1
  have hv1 := slv_cells O.bkv
  have hv2 := slv_okc O.bkv
  unfold AV.cells at hv1
  unfold okc at hv2
  have q1 : ¬ (la = 0) := by omega
  have q2 : ¬ (0 = la) := by omega
  have q3 : ¬ (la = 1) := by omega
  have q4 : ¬ (1 = la) := by omega
  have lc1 := O.sep4.2
  have d1 : ¬ (c1 = 0) := by omega
  have d2 : ¬ (0 = c1) := by omega
  have d3 : ¬ (c1 = 1) := by omega
  have d4 : ¬ (1 = c1) := by omega
  have d5 : ¬ (c1 = la) := by omega
  have d6 : ¬ (la = c1) := by omega
  simp -implicitDefEqProofs [-frz, h0, h1', hla, hlt, hr', hm, hmi, q1, q2, q3, q4, d1, d2, d3, d4, d5, d6, g4, booking_c, hv1, hv2, obm, Option.bind_assoc]
  have aO : (b.accs.set m { b.accs[m] with opn := true, cash := b.accs[m].cash, loan := 100000 })[m]? = some { b.accs[m] with opn := true, cash := b.accs[m].cash, loan := 100000 } := by simp [hml]
  have hbk := vb.book
  refine book91_to (Q := fun l => 2 ≤ l ∧ l ≠ c1) (d := c1) (p := 0) (la := la) (v := v) (r := b.rate) (f := b.infl) (x := b.idx) (a := { b.accs[m] with opn := true, cash := b.accs[m].cash, loan := 100000 }) _ _ _ (by simp [q1, q2, q3, q4, d1, d2, d3, d4, d5, d6]) (by simp) ((O.excl (Nat.le_refl c1)).scal hm hrw hvp hvl (by simp [q1, q2, q3, q4, d1, d2, d3, d4, d5, d6]) (fun l hl hq => by simp [hl, show ¬ (l = 0) by omega, hq.2])) (mine_put M (M.get hm hrw).1 (M.get hm hrw).2) hm aO (by simp only; omega) (by omega) (by omega) (by simp) (by simp) (by omega) ?_ ?_ ?_
  · intro e; omega
  · intro _ hbad
    have hl : decide (20000 ≤ (b.book.length : Int)) = true := by
      unfold bookBad at hbad
      rw [show outP (b.accs[m].cash + 100000) (-1000000000000) 1000000000000 = false from outP_false.2 (by omega)] at hbad
      simpa using hbad
    rw [hl] at hr
    simp only [cond_true] at hr
    subst hr
    simp -implicitDefEqProofs [-frz, h1', q1, q2, q3, q4, d1, d2, d3, d4, d5, d6]
    exact post_err _ _ _
  · intro _ hbad h2 c2 v2 rows2 p0 pk hc2 O2 M2
    have hl : decide (20000 ≤ (b.book.length : Int)) = false := by
      unfold bookBad at hbad
      rw [show outP (b.accs[m].cash + 100000) (-1000000000000) 1000000000000 = false from outP_false.2 (by omega)] at hbad
      simpa using hbad
    rw [hl] at hr
    simp only [cond_false] at hr
    subst hr
    have h21 : h2 1 = some ⟨5, [noC]⟩ := by rw [pk 1 (by simp) (by omega)]; simp [q1, q2, q3, q4, d1, d2, d3, d4, d5, d6, h1']
    have hw1 := slv_cells O2.bkv
    have hw2 := slv_okc O2.bkv
    unfold AV.cells at hw1
    unfold okc at hw2
    simp -implicitDefEqProofs [-frz, p0, h21, hw1, hw2, q1, q2, q3, q4, d1, d2, d3, d4, d5, d6]
    rw [List.set_set] at O2
    have O3 := O2.frame (h' := h2.put 1 (some ⟨5, [[.sl la 5 0 12, I b.rate, I b.infl, I b.idx, v2]]⟩)) (Nat.le_refl _) (fun l hl hlc => by simp [show ¬ (l = 1) by omega])
    exact post_own O3 M2 _ _ _ (by simp; omega) (small_set (small_of vb) (by have := aok.lp; simp only; omega) (by have := vb.last _ (List.getElem_mem hml); simp only; omega))
end Go.Proofs.Ytdckleaemkcapaa.AM
