/- Texts of the proof: part S12. -/
import Derived.Test.YtgbdbenepnbajaaGreatDoorS11
set_option maxHeartbeats 0
set_option maxRecDepth 8000
set_option linter.unusedSimpArgs false
set_option linter.unusedVariables false
set_option linter.unusedSectionVars false
namespace Go.Proofs.YtgbdbenepnbajaaGreatDoor.AM
open Go Go.Proofs
attribute [local simp] fieldAddrA ld setCells stA skipV appendA hd makeA bnd kindA freshA killOk loadsAt edgesOn Region.binds newT empT lay_get allocA buildA buildRow lenA els indexAddrA isNil opA evA lit_int lit_bool lit_nil lit_nilf yldA binI unA pickA boolV intV fieldA mk eqs eqK nilC mayP sliceA shA
theorem bg_len {b : List Int} (h : (bgP b).2 = 0) : 3 ≤ b.length := by
  rcases b with _ | ⟨x, _ | ⟨y, _ | ⟨z, r⟩⟩⟩
  · cases h
  · cases h
  · cases h
  · simp
theorem frz_fr {h : Heap} {c : Nat} {v : AV} {ks : List Ck} (O : OutG 4 30 h c v (ckR ks)) (ok : Bool) : ∃ bb, frz h depth (.tup [v, B ok]) = some (.tup [.ro bb (ckR ks), B ok]) := by
  obtain ⟨bb, e⟩ := frz_ck O 0
  refine ⟨bb, ?_⟩
  have e' : (([v, E 0] : List AV).mapM (frz h 11)).map AV.tup = some (.tup [.ro bb (ckR ks), E 0]) := e
  have hk : frz h 11 v = some (.ro bb (ckR ks)) := by
    cases hq : frz h 11 v with
    | none => simp only [List.mapM_cons, List.mapM_nil, hq] at e'; cases e'
    | some w =>
      have e2 : (([v, E 0] : List AV).mapM (frz h 11)).map AV.tup = some (.tup [w, E 0]) := by
        simp only [List.mapM_cons, List.mapM_nil, hq]
        rfl
      rw [e2] at e'
      cases e'
      rfl
  show (([v, B ok] : List AV).mapM (frz h 11)).map AV.tup = _
  simp only [List.mapM_cons, List.mapM_nil, hk]
  rfl
theorem rchunks_c (nb : Bool) (b : List Int) (hb : b.length ≤ 60000) (hby : ∀ x ∈ b, 0 ≤ x ∧ x < 256) : ∃ bb, ∀ h c, callA mL (run Tryz.prog mL) 5 [.ro nb (bys b)] h c = some (.tup [.ro bb (ckR (chunkP b).1), E (chunkP b).2], h, c) := by
  have e13 := fun h c => rbegin_c nb b h c
  by_cases h0 : (bgP b).2 = 0
  · obtain ⟨v, ok, h', c', ks, e1, O, H⟩ := frame_ev nb b hb hby (bg_len h0)
    have hc : chunkP b = (match goC b.length (b.length + 1) 0 (b.drop 3) [] with | some ks => (ks, 0) | none => ([], 16)) := by unfold chunkP; rw [if_pos h0]; rfl
    obtain ⟨bb, hf⟩ := frz_fr O ok
    have e14 : ∀ h c, callA mL (run Tryz.prog mL) 14 [.ro nb (bys b)] h c = some (.tup [.ro bb (ckR ks), B ok], h, c) := fun h c => call_fz rfl rfl rfl e1 hf
    rw [h0] at e13
    rcases H with ⟨hk, rfl⟩ | ⟨hk, rfl⟩
    · rw [hk] at hc
      rw [hc]
      have key : ∃ h c, run Tryz.prog mL 5 [.ro nb (bys b)] Heap.none 0 = some (.tup [.ro bb (ckR ks), E 0], h, c) := by
        rw [run_eq (show mL 5 = some .pure from rfl) rfl, Tryz.func5]
        simp -implicitDefEqProofs [Tryz.f5, e13, e14, -decide_eq_true_eq, -decide_eq_false_iff_not, -List.any_eq_true, -List.any_eq_false, -bne_iff_ne, -beq_iff_eq, -beq_eq_false_iff_ne, -bne_eq_false_iff_eq]
      obtain ⟨h2, c2, e⟩ := key
      exact ⟨bb, fun h c => call_fz rfl rfl rfl e rfl⟩
    · rw [hk] at hc
      rw [hc]
      have key : ∃ h c, run Tryz.prog mL 5 [.ro nb (bys b)] Heap.none 0 = some (.tup [.ro true [], E 16], h, c) := by
        rw [run_eq (show mL 5 = some .pure from rfl) rfl, Tryz.func5]
        simp -implicitDefEqProofs [Tryz.f5, e13, e14, -decide_eq_true_eq, -decide_eq_false_iff_not, -List.any_eq_true, -List.any_eq_false, -bne_iff_ne, -beq_iff_eq, -beq_eq_false_iff_ne, -bne_eq_false_iff_eq]
      obtain ⟨h2, c2, e⟩ := key
      exact ⟨true, fun h c => call_fz rfl rfl rfl e rfl⟩
  · have hc : chunkP b = ([], (bgP b).2) := by unfold chunkP; rw [if_neg h0]
    rw [hc]
    have k1 : ((bgP b).2 != 0) = true := by simpa using h0
    have key : ∃ h c, run Tryz.prog mL 5 [.ro nb (bys b)] Heap.none 0 = some (.tup [.ro true [], E (bgP b).2], h, c) := by
      rw [run_eq (show mL 5 = some .pure from rfl) rfl, Tryz.func5]
      generalize bgP b = q at *
      simp -implicitDefEqProofs [Tryz.f5, e13, k1, -decide_eq_true_eq, -decide_eq_false_iff_not, -List.any_eq_true, -List.any_eq_false, -bne_iff_ne, -beq_iff_eq, -beq_eq_false_iff_ne, -bne_eq_false_iff_eq]
    obtain ⟨h', c', e⟩ := key
    exact ⟨true, fun h c => call_fz rfl rfl rfl e rfl⟩
theorem goC_len : ∀ (m : Nat) (L last : Int) (l : List Int) (acc ks : List Ck), goC L m last l acc = some ks → ks.length ≤ acc.length + l.length
  | 0, _, _, _, _, _, h => by cases h
  | m + 1, L, last, [], acc, ks, h => by cases h
  | m + 1, L, last, tag :: r, acc, ks, h => by
    rw [goC] at h
    split at h
    · split at h
      · cases h; simp
      · cases h
    · split at h
      · cases h
      · rename_i n r2 hl
        obtain ⟨_, _, p, hp, _⟩ := lenP_suf hl
        split at h
        · cases h
        · have := goC_len m _ _ _ _ _ h
          rw [hp]
          simp at this ⊢
          omega
theorem chunkP_len (b : List Int) : (chunkP b).1.length ≤ b.length := by
  unfold chunkP
  split
  · split
    · rename_i ks h
      have := goC_len _ _ _ _ _ _ h
      simp at this
      show ks.length ≤ b.length
      omega
    · simp
  · simp
theorem known_c (h : Heap) (c : Nat) : callA mL (run Tryz.prog mL) 4 [] h c = some (B true, h, c) := by
  unfold callA
  rw [show mL 4 = some (.ext gKnown) from rfl]
  rfl
theorem law_ev (nb : Bool) (b : List Int) (hby : ∀ x ∈ b, 0 ≤ x ∧ x < 256) : TOut (run Tryz.prog mL 3 [.ro nb (bys b)] Heap.none 0) := by
  rw [run_eq (show mL 3 = some .pure from rfl) rfl, Tryz.func3]
  have e4 := fun h c => known_c h c
  cases g : decide (60000 < (b.length : Int))
  · have hb : b.length ≤ 60000 := by rw [decide_eq_false_iff_not] at g; omega
    obtain ⟨b1, e5⟩ := rchunks_c nb b hb hby
    obtain ⟨b2, e6⟩ := chunks_c nb b hb hby
    have hk := chunkP_len b
    have e7 := fun h c => list_c b2 b1 (chunkP b).1 (by omega) h c
    generalize (chunkP b).1 = ks at *
    generalize (chunkP b).2 = e at *
    simp -implicitDefEqProofs [Tryz.f3, g, e4, e5, e6, e7, -decide_eq_true_eq, -decide_eq_false_iff_not, -List.any_eq_true, -List.any_eq_false, -bne_iff_ne, -beq_iff_eq, -beq_eq_false_iff_ne, -bne_eq_false_iff_eq]
    exact ⟨_, _, rfl⟩
  · simp -implicitDefEqProofs [Tryz.f3, g, e4, -decide_eq_true_eq, -decide_eq_false_iff_not, -List.any_eq_true, -List.any_eq_false, -bne_iff_ne, -beq_iff_eq, -beq_eq_false_iff_ne, -bne_eq_false_iff_eq]
    exact ⟨_, _, rfl⟩
theorem arg22 {n : Nat} {x : AV} (h : TyArg Tryz.prog (n + 3) 22 x) : ∃ (z : Bool) (l : List Int), x = .ro z (bys l) ∧ ∀ m ∈ l, 0 ≤ m ∧ m < 256 := by
  unfold TyArg at h
  rw [Tryz.underlying22] at h
  unfold TyOk at h
  rw [Tryz.underlying22] at h
  obtain ⟨z, es, h1, h2, h3, h4⟩ := h
  cases h1
  have : ∃ l : List Int, es = bys l ∧ ∀ m ∈ l, 0 ≤ m ∧ m < 256 := by
    clear h2 h3
    induction es with
    | nil => exact ⟨[], rfl, fun m hm => by cases hm⟩
    | cons e es ih =>
      obtain ⟨bs, hb, hr⟩ := ih fun r hr => h4 r (List.mem_cons_of_mem _ hr)
      obtain ⟨_, h5⟩ := h4 e (by simp)
      unfold TyOk at h5
      rw [Tryz.underlying5] at h5
      obtain ⟨i, e1, hi⟩ := h5
      have i1 : (0 : Int) ≤ i := hi.1
      have i2 : i ≤ 255 := hi.2
      refine ⟨i :: bs, by rw [e1, hb]; rfl, fun m hm => ?_⟩
      rcases List.mem_cons.1 hm with rfl | hm
      · exact ⟨i1, by omega⟩
      · exact hr m hm
  obtain ⟨l, rfl, hr⟩ := this
  exact ⟨z, l, rfl, hr⟩
theorem pure3 (x0 : AV) (h0 : TyArg Tryz.prog 8 22 x0) : ∃ h c, run Tryz.prog mL 3 [x0] Heap.none 0 = some (B true, h, c) := by
  obtain ⟨z, l, rfl, hr⟩ := arg22 (n := 5) h0
  exact law_ev z l hr
end Go.Proofs.YtgbdbenepnbajaaGreatDoor.AM
