/- Texts of the proof: part B27. -/
import Derived.Test.YtdckleaemkcapaaB26
set_option maxHeartbeats 0
set_option linter.unusedSimpArgs false
set_option linter.unusedVariables false
set_option linter.unusedSectionVars false
namespace Go.Proofs.Ytdckleaemkcapaa.AM
open Go Go.Proofs
attribute [local simp] AV.cells okc AV.isBad fieldAddrA ld setCells stA skipV appendA hd makeA bnd sliceA kindA freshA killOk loadsAt newT empT lay_get allocA buildA buildRow builtinA lenA els indexAddrA isNil opA evA lit yldA binA binI unA pickA boolV intV fieldA mk flat lf lf.lfs frz
theorem post_nrm {e : Int} {X Y : Bnk} (h : X.nrm = Y.nrm) {o : Option (AV × Heap × Nat)} (p : PostB e X o) : PostB e Y o := by
  unfold PostB at p ⊢
  split at p
  · obtain ⟨b', h1, h2, h3⟩ := p
    exact ⟨b', h1, h2.trans h, h3⟩
  · exact p.elim
theorem post_plain {e : Int} {X b' : Bnk} (h1 : b'.nrm = X.nrm) (h2 : b'.Wfb) (h : Heap) (c : Nat) : PostB e X (some (.tup [.agg (bc b'), E e], h, c)) := ⟨b', rfl, h1, h2⟩
/-- An answer of a function: no bank where there is an error, else one that is not too large. -/
structure GoodRes (p : Int × Bnk) : Prop where
  err : p.1 ≠ 0 → p.2 = noB
  bk : p.2.book.length ≤ 9223372036854775807
  sm : Small p.2.accs
theorem good_no (e : Int) : GoodRes (e, noB) := ⟨fun _ => rfl, by simp [noB], fun a h => by simp [noB] at h⟩
theorem res_post {c : Nat} {p : Int × Bnk} (g : GoodRes p) : OwnRes c p (PostB p.1 p.2) := by
  refine ⟨fun he h' c' _ => ?_, fun he h' c' la v rows _ O M => ?_⟩
  · rw [g.err he]
    exact post_err _ _ _
  · rw [he]
    exact post_nrm (X := ⟨false, p.2.accs, p.2.rate, p.2.infl, p.2.idx, false, p.2.book⟩) rfl (post_own (c' := c') O M _ _ _ g.bk g.sm)
theorem own_to {α : Type} {R : Option α → Prop} {f : Nat} {args : List AV} {p : Int × Bnk} (hm : mdT tblB f = some .own) (h : Heap) (c : Nat) (hrun : ∀ R, OwnRes c p R → R (run Try.prog (mdT tblB) f args Heap.none c)) (K : AV × Heap × Nat → Option α)
    (kerr : p.1 ≠ 0 → ∀ h' c', c ≤ c' → (∀ l, l < c → h' l = h l) → R (K (.tup [.agg noC, E p.1], h', c')))
    (kok : p.1 = 0 → ∀ h' c' la v rows, c ≤ c' → (∀ l, l < c → h' l = h l) → Own (fun l => c ≤ l) c' h' la v p.2.accs p.2.book rows → Mine rows 12 → R (K (.tup [.agg [.sl la 5 0 12, I p.2.rate, I p.2.infl, I p.2.idx, v], E 0], h', c'))) :
    R ((callA (mdT tblB) (run Try.prog (mdT tblB)) f args h c).bind K) := by
  have low : ∀ h1 c1 l, l < c → ((Heap.cut h1 c c1).over h) l = h l := by
    intro h1 c1 l hl
    show (if c ≤ l ∧ l < c1 then h1 l else none).or (h l) = h l
    rw [if_neg (by omega)]
    rfl
  have key := hrun (fun o => ∃ r h1 c1, o = some (r, h1, c1) ∧ R (K (r, (Heap.cut h1 c c1).over h, c1))) ⟨fun he h' c' hc => ⟨_, _, _, rfl, kerr he _ _ hc (low _ _)⟩, fun he h' c' la v rows hc O M => ⟨_, _, _, rfl, kok he _ _ _ _ _ hc (low _ _) (O.up fun l b' h2 h3 h4 => ?_) M⟩⟩
  · obtain ⟨r, h1, c1, e, k⟩ := key
    rw [call_own_mode hm e, Option.bind_some]
    exact k
  · show (if c ≤ l ∧ l < c' then h' l else none).or (h l) = some b'
    rw [if_pos ⟨h2, h3⟩, h4]
    rfl
theorem same_x (a b : Bnk) (hs : a.nrm = b.nrm) (w : a.Wfb) {x y : AV} {h : Heap} (hx : frz h depth x = some (.agg (bc a))) (hy : frz h depth y = some (.agg (bc b))) (c : Nat) : callA (mdT tblB) (run Try.prog (mdT tblB)) 25 [x, y] h c = some (B true, h, c) := by
  obtain ⟨h', c', e⟩ := same_ev a b hs w
  refine call_of (vs := [.agg (bc a), .agg (bc b)]) rfl ?_ e rfl rfl
  rw [List.mapM_cons, List.mapM_cons, hx, hy]
  rfl
theorem plain_frz (b : Bnk) (h : Heap) : frz h depth (.agg (bc b)) = some (.agg (bc b)) := rfl
theorem own_read {Q : Nat → Prop} {c : Nat} {h : Heap} {la : Nat} {v : AV} {accs : List Acc} {book : List Ent} {rows : List (List AV)} (O : Own Q c h la v accs book rows) (M : Mine rows 12) (r f x : Int) (hb : book.length ≤ 9223372036854775807) (hs : Small accs) :
    ∃ b' : Bnk, frz h depth (.agg [.sl la 5 0 12, I r, I f, I x, v]) = some (.agg (bc b')) ∧ b'.nrm = (⟨false, accs, r, f, x, false, book⟩ : Bnk).nrm ∧ b'.Wfb := by
  obtain ⟨b', h1, h2, h3, h4, h5⟩ := O.frz M 7 r f x
  refine ⟨b', h1, h2, ⟨fun a ha => ?_, ?_, ?_, fun hn => (by rw [h4] at hn; cases hn), h3⟩⟩
  · obtain ⟨a0, k1, k2⟩ := nrm_mem h2 ha
    have k3 := hs a0 k1
    have p1 : a0.parts = a.parts := by simpa [Acc.nrm] using congrArg Acc.parts k2
    have p2 : a0.last = a.last := by simpa [Acc.nrm] using congrArg Acc.last k2
    rw [p1, p2] at k3
    exact ⟨k3.1, k3.2, (h5 a ha).1, (h5 a ha).2⟩
  · have e : b'.accs.map Acc.nrm = accs.map Acc.nrm := congrArg Bnk.accs h2
    have := congrArg List.length e
    simp [O.alen] at this
    omega
  · have e : b'.book = book := congrArg Bnk.book h2
    rw [e]; exact hb
theorem accAt_mem {b : Bnk} (vb : Valid b) (co : Int) : accAt b co ∈ b.accs ∨ accAt b co = shutA := by
  unfold accAt
  cases h : b.accs[co.toNat]? with
  | none => exact .inr rfl
  | some a => exact .inl (List.mem_of_getElem? h)
theorem accAt_small {b : Bnk} (vb : Valid b) (co : Int) : (accAt b co).parts.length ≤ 9223372036854775807 ∧ (accAt b co).last.length ≤ 9223372036854775807 := by
  rcases accAt_mem vb co with h | h
  · exact small_of vb _ h
  · rw [h]; simp [shutA]
theorem bk_good {b : Bnk} (vb : Valid b) (co kd n : Int) : GoodRes (bkP b co kd n) := by
  have hb := vb.book
  unfold bkP
  cases n == 0
  · simp only [cond_false]
    cases bookBad (accAt b co).cash n b.book.length
    · exact ⟨fun h => absurd rfl h, by simp; omega, small_set (small_of vb) (accAt_small vb co).1 (accAt_small vb co).2⟩
    · exact good_no _
  · exact ⟨fun h => absurd rfl h, by simp [plainB]; omega, (small_of vb : Small b.accs)⟩
theorem move_good (b : Bnk) (co kd am sgn : Int) (strict : Bool) : GoodRes (moveP b co kd am sgn strict) := by
  unfold moveP
  cases h0 : chkP b [co] == 0
  · exact good_no _
  have vb := (chk_zero (by simpa using h0)).1
  simp only [cond_true]
  cases outP kd 0 9 || outP am 0 1000000000000
  case true => exact good_no _
  simp only [cond_false]
  cases strict && decide ((accAt b co).cash < am)
  case true => exact good_no _
  simp only [cond_false]
  exact bk_good vb co kd _
theorem bpay_run (b : Bnk) (w : b.Wfb) (co kd am : Int) (c : Nat) (R : Option (AV × Heap × Nat) → Prop) (hR : OwnRes c (moveP b co kd am (-1) true) R) :
    R (run Try.prog (mdT tblB) 36 [.agg (bc b), I co, I kd, I am] Heap.none c) := by
  have g := move_good b co kd am (-1) true
  rw [run_eq, show mdT tblB 36 = some .own from rfl, Option.bind_some, Try.func36]
  simp -implicitDefEqProofs [-frz, Try.f36, obm, Option.bind_assoc]
  refine own_to rfl _ _ (fun R h => bmove_run b w co kd am (-1) true (by simp) _ R h) _ ?_ ?_
  · intro he h1 c1 hc hlow
    have h0 : h1 (c + 1) = some ⟨5, [noC]⟩ := by rw [hlow (c + 1) (by omega)]; simp
    simp -implicitDefEqProofs [-frz, h0]
    exact hR.err he _ _ (by omega)
  · intro he h1 c1 la v rows hc hlow O M
    have h0 : h1 (c + 1) = some ⟨5, [noC]⟩ := by rw [hlow (c + 1) (by omega)]; simp
    have hv1 := slv_cells O.bkv
    have hv2 := slv_okc O.bkv
    unfold AV.cells at hv1
    unfold okc at hv2
    simp -implicitDefEqProofs [-frz, h0, hv1, hv2]
    exact hR.ok he _ _ _ _ _ (by omega) (Own.weaken (fun l (hl : c + 1 + 1 ≤ l) => by omega) (O.frame (Nat.le_refl _) (fun l hl hlc => by simp [show ¬ (l = c + 1) by omega]))) M
theorem bcharge_run (b : Bnk) (w : b.Wfb) (co kd am : Int) (c : Nat) (R : Option (AV × Heap × Nat) → Prop) (hR : OwnRes c (moveP b co kd am (-1) false) R) :
    R (run Try.prog (mdT tblB) 39 [.agg (bc b), I co, I kd, I am] Heap.none c) := by
  have g := move_good b co kd am (-1) false
  rw [run_eq, show mdT tblB 39 = some .pure from rfl, Option.bind_some, Try.func39]
  simp -implicitDefEqProofs [-frz, Try.f39, obm, Option.bind_assoc]
  refine own_to rfl _ _ (fun R h => bmove_run b w co kd am (-1) false (by simp) _ R h) _ ?_ ?_
  · intro he h1 c1 hc hlow
    have h0 : h1 (c + 1) = some ⟨5, [noC]⟩ := by rw [hlow (c + 1) (by omega)]; simp
    simp -implicitDefEqProofs [-frz, h0]
    exact hR.err he _ _ (by omega)
  · intro he h1 c1 la v rows hc hlow O M
    have h0 : h1 (c + 1) = some ⟨5, [noC]⟩ := by rw [hlow (c + 1) (by omega)]; simp
    have hv1 := slv_cells O.bkv
    have hv2 := slv_okc O.bkv
    unfold AV.cells at hv1
    unfold okc at hv2
    simp -implicitDefEqProofs [-frz, h0, hv1, hv2]
    exact hR.ok he _ _ _ _ _ (by omega) (Own.weaken (fun l (hl : c + 1 + 1 ≤ l) => by omega) (O.frame (Nat.le_refl _) (fun l hl hlc => by simp [show ¬ (l = c + 1) by omega]))) M
theorem bearn_run (b : Bnk) (w : b.Wfb) (co kd am : Int) (c : Nat) (R : Option (AV × Heap × Nat) → Prop) (hR : OwnRes c (moveP b co kd am (1) false) R) :
    R (run Try.prog (mdT tblB) 40 [.agg (bc b), I co, I kd, I am] Heap.none c) := by
  have g := move_good b co kd am (1) false
  rw [run_eq, show mdT tblB 40 = some .own from rfl, Option.bind_some, Try.func40]
  simp -implicitDefEqProofs [-frz, Try.f40, obm, Option.bind_assoc]
  refine own_to rfl _ _ (fun R h => bmove_run b w co kd am (1) false (by simp) _ R h) _ ?_ ?_
  · intro he h1 c1 hc hlow
    have h0 : h1 (c + 1) = some ⟨5, [noC]⟩ := by rw [hlow (c + 1) (by omega)]; simp
    simp -implicitDefEqProofs [-frz, h0]
    exact hR.err he _ _ (by omega)
  · intro he h1 c1 la v rows hc hlow O M
    have h0 : h1 (c + 1) = some ⟨5, [noC]⟩ := by rw [hlow (c + 1) (by omega)]; simp
    have hv1 := slv_cells O.bkv
    have hv2 := slv_okc O.bkv
    unfold AV.cells at hv1
    unfold okc at hv2
    simp -implicitDefEqProofs [-frz, h0, hv1, hv2]
    exact hR.ok he _ _ _ _ _ (by omega) (Own.weaken (fun l (hl : c + 1 + 1 ≤ l) => by omega) (O.frame (Nat.le_refl _) (fun l hl hlc => by simp [show ¬ (l = c + 1) by omega]))) M
theorem bcharge_x (b : Bnk) (w : b.Wfb) (co kd am : Int) : PostB (moveP b co kd am (-1) false).1 (moveP b co kd am (-1) false).2 (run Try.prog (mdT tblB) 39 [.agg (bc b), I co, I kd, I am] Heap.none 0) := bcharge_run b w co kd am 0 _ (res_post (move_good b co kd am (-1) false))
theorem rpay_x (b : Bnk) (w : b.Wfb) (co kd am : Int) : PostB (moveP b co kd am (-1) true).1 (moveP b co kd am (-1) true).2 (run Try.prog (mdT tblB) 35 [.agg (bc b), I co, I kd, I am] Heap.none 0) := by
  obtain ⟨b1, n1, w1, c1⟩ := call_post (args := [.agg (bc b), I co, I kd, I am, I (-1), B true]) rfl (fun h => rfl) (rmove_run b w co kd am (-1) true (by simp) 0 _ (res_post (move_good b co kd am (-1) true))) rfl
  rw [run_eq, show mdT tblB 35 = some .pure from rfl, Option.bind_some, Try.func35]
  simp -implicitDefEqProofs [-frz, Try.f35, c1]
  exact post_plain n1 w1 _ _
theorem rcharge_x (b : Bnk) (w : b.Wfb) (co kd am : Int) : PostB (moveP b co kd am (-1) false).1 (moveP b co kd am (-1) false).2 (run Try.prog (mdT tblB) 37 [.agg (bc b), I co, I kd, I am] Heap.none 0) := by
  obtain ⟨b1, n1, w1, c1⟩ := call_post (args := [.agg (bc b), I co, I kd, I am, I (-1), B false]) rfl (fun h => rfl) (rmove_run b w co kd am (-1) false (by simp) 0 _ (res_post (move_good b co kd am (-1) false))) rfl
  rw [run_eq, show mdT tblB 37 = some .pure from rfl, Option.bind_some, Try.func37]
  simp -implicitDefEqProofs [-frz, Try.f37, c1]
  exact post_plain n1 w1 _ _
theorem rearn_x (b : Bnk) (w : b.Wfb) (co kd am : Int) : PostB (moveP b co kd am (1) false).1 (moveP b co kd am (1) false).2 (run Try.prog (mdT tblB) 38 [.agg (bc b), I co, I kd, I am] Heap.none 0) := by
  obtain ⟨b1, n1, w1, c1⟩ := call_post (args := [.agg (bc b), I co, I kd, I am, I (1), B false]) rfl (fun h => rfl) (rmove_run b w co kd am (1) false (by simp) 0 _ (res_post (move_good b co kd am (1) false))) rfl
  rw [run_eq, show mdT tblB 38 = some .pure from rfl, Option.bind_some, Try.func38]
  simp -implicitDefEqProofs [-frz, Try.f38, c1]
  exact post_plain n1 w1 _ _
end Go.Proofs.Ytdckleaemkcapaa.AM
