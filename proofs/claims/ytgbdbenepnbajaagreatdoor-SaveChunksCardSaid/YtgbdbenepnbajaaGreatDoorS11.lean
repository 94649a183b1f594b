/- Texts of the proof: part S11. -/
import Derived.Test.YtgbdbenepnbajaaGreatDoorS10
set_option maxHeartbeats 0
set_option maxRecDepth 8000
set_option linter.unusedSimpArgs false
set_option linter.unusedVariables false
set_option linter.unusedSectionVars false
namespace Go.Proofs.YtgbdbenepnbajaaGreatDoor.AM
open Go Go.Proofs
attribute [local simp] fieldAddrA ld setCells stA skipV appendA hd makeA bnd kindA freshA killOk loadsAt edgesOn Region.binds newT empT lay_get allocA buildA buildRow lenA els indexAddrA isNil opA evA lit_int lit_bool lit_nil lit_nilf yldA binI unA pickA boolV intV fieldA mk eqs eqK nilC mayP sliceA shA
theorem u64_lt (n : Int) : 0 ≤ IntKind.u64.wrap n ∧ IntKind.u64.wrap n < 18446744073709551616 := by
  unfold IntKind.wrap
  simp [IntKind.bits, IntKind.signed]
  omega
theorem u64_id {n : Int} (h0 : 0 ≤ n) (h1 : n < 18446744073709551616) : IntKind.u64.wrap n = n := by
  unfold IntKind.wrap
  simp [IntKind.bits, IntKind.signed]
  omega
theorem upU_lt (u x s : Int) : 0 ≤ upU u x s ∧ upU u x s < 18446744073709551616 := u64_lt _
theorem vP_lt : ∀ (l : List Int) (u s : Int) {u' : Int} {r : List Int}, vP l u s = some (u', r) → 0 ≤ u' ∧ u' < 18446744073709551616
  | [], _, _, _, _, h => by cases h
  | x :: l, u, s, u', r, h => by
    unfold vP at h
    split at h
    · cases h
    · split at h
      · cases h
        exact upU_lt _ _ _
      · exact vP_lt l _ _ h
theorem rc_dc {u : Int} (h0 : 0 ≤ u) (h1 : u < 18446744073709551616) : rcI u = dcI u := by
  unfold rcI dcI
  split
  · have hv : 0 ≤ shrI .u64 u 1 ∧ shrI .u64 u 1 < 9223372036854775808 := by
      have : shrI .u64 u 1 = u / 2 := by
        unfold shrI
        rw [show (2 : Int) ^ (min (1 : Int).toNat IntKind.u64.bits) = 2 from rfl, Int.fdiv_eq_ediv_of_nonneg _ (by omega)]
      rw [this]
      omega
    generalize shrI .u64 u 1 = v at *
    have hw : IntKind.i64.wrap v = v := wrap_id (by omega) (by omega)
    rw [hw]
    unfold notI
    have e1 : BitVec.ofInt IntKind.u64.bits (if IntKind.u64.signed then -1 else IntKind.u64.max) = BitVec.ofInt 64 (-1) := by kernel_rfl
    have e2 : BitVec.ofInt IntKind.i64.bits (if IntKind.i64.signed then -1 else IntKind.i64.max) = BitVec.ofInt 64 (-1) := by kernel_rfl
    have key : ∀ T : BitVec 64, IntKind.i64.wrap (IntKind.u64.wrap (T.toNat : Int)) = IntKind.i64.wrap (T.toNat : Int) := fun T => by
      rw [u64_id (by omega) (by have := T.isLt; omega)]
    rw [e1, e2]
    exact key _
  · rfl
/-- A chunk that is none. -/
theorem goC_none {L : Int} {m : Nat} {last tag : Int} {r r2 : List Int} {acc : List Ck} {u : Int} (ht : tag ≠ 0) (hv : vP r 0 0 = some (u, r2)) (h : tag ≤ last ∨ dcI u < 0 ∨ (r2.length : Int) < dcI u + 4) : goC L (m + 1) last (tag :: r) acc = none := by
  rw [goC, if_neg ht]
  unfold lenP
  rw [hv]
  simp only
  by_cases g : dcI u < 0 ∨ (r2.length : Int) < dcI u
  · rw [if_pos g]
  · rw [if_neg g]
    simp only
    rw [if_pos (by omega)]
def FO (res : Option (List Ck)) (o : Option (AV × Heap × Nat)) : Prop := ∃ v ok h c ks, o = some (.tup [v, B ok], h, c) ∧ OutG 4 30 h c v (ckR ks) ∧ ((res = some ks ∧ ok = true) ∨ (res = none ∧ ok = false))
def FI (nb : Bool) (b : List Int) (res : Option (List Ck)) (kk : Nat) (st : St) : Prop := ∃ (m : Nat) (last : Int) (l : List Int) (acc : List Ck) (v : AV), kk = l.length ∧ l.length < m ∧ res = goC b.length m last l acc ∧ acc.length + l.length ≤ 60000 ∧ l.length ≤ b.length ∧ (∀ x ∈ l, 0 ≤ x ∧ x < 256) ∧
  st.t 0 = .ro nb (bys b) ∧ st.t 5 = .ptr 0 0 0 ∧ st.t 4 = v ∧ st.t 6 = I last ∧ st.h 0 = some (rdB nb l false) ∧ OutG 4 30 st.h st.c v (ckR acc) ∧ (∀ n, nm v = some n → 1 ≤ n) ∧ 1 ≤ st.c
def FE (res : Option (List Ck)) (e : Ex) (st : St) : Prop := e = .ret ∧ ∃ v ok ks, st.t 2 = v ∧ st.t 3 = B ok ∧ OutG 4 30 st.h st.c v (ckR ks) ∧ ((res = some ks ∧ ok = true) ∨ (res = none ∧ ok = false))
theorem frame_ev (nb : Bool) (b : List Int) (hb : b.length ≤ 60000) (hby0 : ∀ x ∈ b, 0 ≤ x ∧ x < 256) (b3 : 3 ≤ b.length) : FO (goC b.length (b.length + 1) 0 (b.drop 3) []) (run Tryz.prog mL 14 [.ro nb (bys b)] Heap.none 0) := by
  rw [run_eq (show mL 14 = some .pure from rfl) rfl, Tryz.func14]
  obtain ⟨res, hres0⟩ : ∃ res, res = goC b.length (b.length + 1) 0 (b.drop 3) [] := ⟨_, rfl⟩
  rw [← hres0]
  have b3' : (3 : Int) ≤ (b.length : Int) := by omega
  simp -implicitDefEqProofs [Tryz.f14, b3', -AM.hd, hd_bys, tk_bys, Option.bind_assoc, -decide_eq_true_eq, -decide_eq_false_iff_not, -List.any_eq_true, -List.any_eq_false, -bne_iff_ne, -beq_iff_eq, -beq_eq_false_iff_ne, -bne_eq_false_iff_eq]
  refine loop_to (R := FO res) (FI nb b res) (FE res) ?_ ?_ (b.drop 3).length _ ?_
  · rintro kk ⟨t, h1, c1⟩ ⟨m, last, l, acc, v, rfl, hm, hres, hacc, hlb, hby, a0, a5, a4, a6, b0, O, hv, hc⟩
    simp only at a0 a5 a4 a6 b0 O hc
    obtain ⟨m, rfl⟩ : ∃ m', m = m' + 1 := ⟨m - 1, by omega⟩
    obtain ⟨OR, S1, S2, S3, hOR, hS1, hS2, hS3, hsm⟩ := sum_F
    obtain ⟨vp1, vp2, vp3⟩ := O.nopan
    cases l with
    | nil =>
      have e32 := rone_nil (nb := nb) (c := c1) b0
      have cv0 := cv_5_3 
      simp -implicitDefEqProofs [a0, a5, a4, a6, b0, e32, cv_5_3, to_normal, to_exit, to_ret, -decide_eq_true_eq, -decide_eq_false_iff_not, -List.any_eq_true, -List.any_eq_false, -bne_iff_ne, -beq_iff_eq, -beq_eq_false_iff_ne, -bne_eq_false_iff_eq]
      exact ⟨rfl, .ro true [], false, [], by simp, by simp, OutG.nil _ _ _ _, .inr ⟨by rw [hres]; rfl, rfl⟩⟩
    | cons tag r =>
      have e32 := rone_cons (nb := nb) (c := c1) b0
      obtain ⟨ht0, ht1⟩ := hby tag (by simp)
      have wt : IntKind.i64.wrap tag = tag := wrap_id (by omega) (by omega)
      have hS0 : ∀ (hh : Heap) , (∀ m, m ≠ 0 → hh m = h1 m) → OutG 4 30 hh c1 v (ckR acc) := fun hh H => O.frame (Nat.le_refl _) fun m' hm' _ => H m' (by have := hv m' hm'; omega)
      cases g0 : (tag == 0)
      rotate_left
      · have ht : tag = 0 := by simpa using g0
        cases g1 : ((r.length : Int) == 0)
        · have hr : r.length ≠ 0 := by simp at g1; intro e; exact g1 (List.length_eq_zero_iff.1 e)
          simp -implicitDefEqProofs [a0, a5, a4, a6, b0, e32, wt, cv_5_3, g0, g1, -bin_ints, b_lss, b_eql, to_normal, to_exit, to_ret, -decide_eq_true_eq, -decide_eq_false_iff_not, -List.any_eq_true, -List.any_eq_false, -bne_iff_ne, -beq_iff_eq, -beq_eq_false_iff_ne, -bne_eq_false_iff_eq]
          exact ⟨rfl, v, false, acc, by simp, by simp, hS0 _ fun m hm => by simp [hm], .inr ⟨by rw [hres, goC, if_pos ht, if_neg hr], rfl⟩⟩
        · have hr : r.length = 0 := by simpa using g1
          simp -implicitDefEqProofs [a0, a5, a4, a6, b0, e32, wt, cv_5_3, g0, g1, -bin_ints, b_lss, b_eql, to_normal, to_exit, to_ret, -decide_eq_true_eq, -decide_eq_false_iff_not, -List.any_eq_true, -List.any_eq_false, -bne_iff_ne, -beq_iff_eq, -beq_eq_false_iff_ne, -bne_eq_false_iff_eq]
          exact ⟨rfl, v, true, acc, by simp, by simp, hS0 _ fun m hm => by simp [hm], .inl ⟨by rw [hres, goC, if_pos ht, if_pos hr], rfl⟩⟩
      have ht : tag ≠ 0 := by simpa using g0
      obtain ⟨n, h2, e33, hS, H⟩ := number_c (nb := nb) (k := 0) (c := c1) (l := r) (h := h1.put 0 (some (rdB nb r false))) (fun x hx => hby x (by simp [hx])) (by simp)
      have hSh : ∀ m, m ≠ 0 → h2 m = h1 m := fun m hm => by rw [hS m hm]; simp [hm]
      rcases H with ⟨u, r2, hv2, rfl, b1⟩ | ⟨hv2, rfl, ⟨l', b1⟩⟩
      rotate_left
      · simp -implicitDefEqProofs [a0, a5, a4, a6, b0, e32, e33, b1, wt, cv_5_3, g0, -bin_ints, b_lss, b_eql, to_normal, to_exit, to_ret, -decide_eq_true_eq, -decide_eq_false_iff_not, -List.any_eq_true, -List.any_eq_false, -bne_iff_ne, -beq_iff_eq, -beq_eq_false_iff_ne, -bne_eq_false_iff_eq]
        refine ⟨rfl, .ro true [], false, [], by simp, by simp, OutG.nil _ _ _ _, .inr ⟨?_, rfl⟩⟩
        rw [hres, goC, if_neg ht]
        unfold lenP
        rw [hv2]
      obtain ⟨hu0, hu1⟩ := vP_lt _ _ _ hv2
      rw [rc_dc hu0 hu1] at e33
      obtain ⟨p, hp, hp1⟩ := vP_suf _ _ _ hv2
      have hrl : r.length = p.length + r2.length := by rw [hp]; simp
      simp only [List.length_cons] at hm hacc hlb
      have hnone := fun h => goC_none (L := b.length) (m := m) (last := last) (acc := acc) ht hv2 h
      have hlen : lenP r = if dcI u < 0 ∨ (r2.length : Int) < dcI u then none else some (dcI u, r2) := by unfold lenP; rw [hv2]
      generalize dcI u = n at *
      have wl4 : IntKind.i64.wrap ((r2.length : Int) - 4) = (r2.length : Int) - 4 := wrap_id (by omega) (by omega)
      cases g1 : decide (tag ≤ last)
      rotate_left
      · simp -implicitDefEqProofs [a0, a5, a4, a6, b0, e32, e33, b1, wt, cv_5_3, g0, g1, wl4, -bin_ints, b_lss, b_eql, b_leq, b_gtr, b_sub, to_normal, to_exit, to_ret, -decide_eq_true_eq, -decide_eq_false_iff_not, -List.any_eq_true, -List.any_eq_false, -bne_iff_ne, -beq_iff_eq, -beq_eq_false_iff_ne, -bne_eq_false_iff_eq]
        exact ⟨rfl, .ro true [], false, [], by simp, by simp, OutG.nil _ _ _ _, .inr ⟨by rw [hres]; exact hnone (.inl (by simpa using g1)), rfl⟩⟩
      have g1' : ¬ tag ≤ last := by simpa using g1
      cases g2 : decide (n < 0)
      rotate_left
      · simp -implicitDefEqProofs [a0, a5, a4, a6, b0, e32, e33, b1, wt, cv_5_3, g0, g1, g2, wl4, -bin_ints, b_lss, b_eql, b_leq, b_gtr, b_sub, to_normal, to_exit, to_ret, -decide_eq_true_eq, -decide_eq_false_iff_not, -List.any_eq_true, -List.any_eq_false, -bne_iff_ne, -beq_iff_eq, -beq_eq_false_iff_ne, -bne_eq_false_iff_eq]
        exact ⟨rfl, .ro true [], false, [], by simp, by simp, OutG.nil _ _ _ _, .inr ⟨by rw [hres]; exact hnone (.inr (.inl (by simpa using g2))), rfl⟩⟩
      have g2' : ¬ n < 0 := by simpa using g2
      obtain ⟨N, hN⟩ : ∃ N : Int, N = (r2.length : Int) := ⟨_, rfl⟩
      cases g3 : decide ((r2.length : Int) < 4)
      rotate_left
      · have g3' : (r2.length : Int) < 4 := by simpa using g3
        simp -implicitDefEqProofs [a0, a5, a4, a6, b0, e32, e33, b1, wt, cv_5_3, g0, g1, g2, g3, wl4, -bin_ints, b_lss, b_eql, b_leq, b_gtr, b_sub, to_normal, to_exit, to_ret, -decide_eq_true_eq, -decide_eq_false_iff_not, -List.any_eq_true, -List.any_eq_false, -bne_iff_ne, -beq_iff_eq, -beq_eq_false_iff_ne, -bne_eq_false_iff_eq]
        exact ⟨rfl, .ro true [], false, [], by simp, by simp, OutG.nil _ _ _ _, .inr ⟨by rw [hres]; exact hnone (.inr (.inr (by omega))), rfl⟩⟩
      cases g4 : decide ((r2.length : Int) - 4 < n)
      rotate_left
      · have g4' : (r2.length : Int) - 4 < n := by simpa using g4
        simp -implicitDefEqProofs [a0, a5, a4, a6, b0, e32, e33, b1, wt, cv_5_3, g0, g1, g2, g3, g4, wl4, -bin_ints, b_lss, b_eql, b_leq, b_gtr, b_sub, to_normal, to_exit, to_ret, -decide_eq_true_eq, -decide_eq_false_iff_not, -List.any_eq_true, -List.any_eq_false, -bne_iff_ne, -beq_iff_eq, -beq_eq_false_iff_ne, -bne_eq_false_iff_eq]
        exact ⟨rfl, .ro true [], false, [], by simp, by simp, OutG.nil _ _ _ _, .inr ⟨by rw [hres]; exact hnone (.inr (.inr (by omega))), rfl⟩⟩
      have g4' : ¬ (r2.length : Int) - 4 < n := by simpa using g4
      rw [if_neg (by omega)] at hlen
      obtain ⟨k, rfl⟩ : ∃ k : Nat, n = k := ⟨n.toNat, by omega⟩
      have w4 : IntKind.i64.wrap ((k : Int) + 4) = ((k + 4 : Nat) : Int) := by rw [wrap_id (by omega) (by omega)]; omega
      have hgood := four (r := r2) (k := k) (by omega)
      obtain ⟨s0, q0⟩ : ∃ x, r2[k]'(by omega) = x := ⟨_, rfl⟩
      obtain ⟨s1, q1⟩ : ∃ x, r2[k + 1]'(by omega) = x := ⟨_, rfl⟩
      obtain ⟨s2, q2⟩ : ∃ x, r2[k + 2]'(by omega) = x := ⟨_, rfl⟩
      obtain ⟨s3, q3⟩ : ∃ x, r2[k + 3]'(by omega) = x := ⟨_, rfl⟩
      rw [q0, q1, q2, q3] at hgood
      have hgood' : goodP r2 k = (smI s0 s1 s2 s3 == byP (List.take k r2)) := by
        rw [hgood, Bool.eq_iff_iff, beq_iff_eq, beq_iff_eq]
        exact eq_comm
      have wL : IntKind.i64.wrap ((b.length : Int) - (r2.length : Int)) = (b.length : Int) - (r2.length : Int) := wrap_id (by omega) (by omega)
      have wF : IntKind.i64.wrap ((b.length : Int) - (r2.length : Int) + (k : Int)) = (b.length : Int) - (r2.length : Int) + (k : Int) := wrap_id (by omega) (by omega)
      obtain ⟨v', h3, c3, eA, O3, G⟩ := one_ck (hS0 h2 hSh) (by omega) ⟨tag, (b.length : Int) - (r2.length : Int), (b.length : Int) - (r2.length : Int) + k, goodP r2 k⟩
      obtain ⟨vq1, vq2, vq3⟩ := O3.nopan
      have b3 : h3 0 = some (rdB nb r2 false) := by rw [G.get 0 (by omega) (fun e => by have := hv 0 e; omega), b1]
      have e34 := fun h c => rbytes_c nb (r2.take k) (by simp; omega) h c
      rw [show bys (r2.take k) = List.take k (List.map (fun n => [Y n]) r2) from List.map_take] at e34
      have bd1 : (k : Int) ≤ (r2.length : Int) := by omega
      have bd1' : k ≤ r2.length := by omega
      have bd2 : (k : Int) + 4 ≤ (r2.length : Int) := by omega
      have bd2' : k + 4 ≤ r2.length := by omega
      have bd3 : (0 : Int) ≤ (k : Int) + 4 := by omega
      have bd4 : ((k : Int) + 4).toNat = k + 4 := by omega
      have gk : decide ((k : Int) < 0) = false := by simp
      rw [hgood', hsm] at eA
      simp only [Ck.row] at eA
      simp -implicitDefEqProofs [a0, a5, a4, a6, b0, e32, e33, b1, b3, wt, cv_5_3, -AM.hd, hd_bys, e34, q0, q1, q2, q3, hOR, hS1, hS2, hS3, -appendA, eA, vq1, vq2, vq3, putV_np, putD_np, bd1, bd1', bd2, bd2', bd3, bd4, tk_bys, g0, g1, g2, gk, g3, g4, wl4, w4, wL, wF, -bin_ints, b_lss, b_eql, b_leq, b_gtr, b_sub, b_add, to_normal, to_exit, to_ret, -decide_eq_true_eq, -decide_eq_false_iff_not, -List.any_eq_true, -List.any_eq_false, -bne_iff_ne, -beq_iff_eq, -beq_eq_false_iff_ne, -bne_eq_false_iff_eq]
      refine ⟨(r2.drop (k + 4)).length, by simp; omega, m, tag, r2.drop (k + 4), acc ++ [⟨tag, (b.length : Int) - (r2.length : Int), (b.length : Int) - (r2.length : Int) + k, goodP r2 k⟩], v', rfl, by simp; omega, ?_, by simp; omega, by simp; omega, fun x hx => hby x (by rw [hp]; simp [List.mem_of_mem_drop hx]), by simp [a0], by simp [a5], by simp, by simp, by simp, ?_, fun n hn => ?_, by have := G.le; simp only; omega⟩
      · rw [hres, goC, if_neg ht, hlen]
        simp only
        rw [if_neg (by omega), Int.toNat_natCast]
      · simp only
        refine O3.frame (Nat.le_refl _) fun m' hm' hlt => ?_
        have : 1 ≤ m' := by
          rcases G.new m' hm' with q | q
          · exact hv m' q
          · omega
        rw [put_get, if_neg (by omega)]
      · rcases G.new n hn with q | q
        · exact hv n q
        · omega
  · rintro e ⟨t, h, c⟩ ⟨rfl, v, ok, ks, t2, t3, O, H⟩
    simp only at t2 t3 O
    simp -implicitDefEqProofs [t2, t3, -decide_eq_true_eq, -decide_eq_false_iff_not, -List.any_eq_true, -List.any_eq_false, -bne_iff_ne, -beq_iff_eq, -beq_eq_false_iff_ne, -bne_eq_false_iff_eq]
    exact ⟨_, _, _, _, ks, rfl, by simpa [t2] using O, H⟩
  · exact ⟨b.length + 1, 0, b.drop 3, [], .ro true [], by simp, by simp; omega, hres0, by simp; omega, by simp, fun x hx => hby0 x (List.mem_of_mem_drop hx), by simp, by simp, by simp, by simp, by simp, OutG.nil _ _ _ _, fun n hn => (by cases hn), by simp⟩
end Go.Proofs.YtgbdbenepnbajaaGreatDoor.AM
