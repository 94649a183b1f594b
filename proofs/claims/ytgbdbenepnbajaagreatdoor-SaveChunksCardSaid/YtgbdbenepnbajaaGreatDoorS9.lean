/- Texts of the proof: part S9. -/
import Derived.Test.YtgbdbenepnbajaaGreatDoorS8
set_option maxHeartbeats 0
set_option maxRecDepth 8000
set_option linter.unusedSimpArgs false
set_option linter.unusedVariables false
set_option linter.unusedSectionVars false
namespace Go.Proofs.YtgbdbenepnbajaaGreatDoor.AM
open Go Go.Proofs
attribute [local simp] fieldAddrA ld setCells stA skipV appendA hd makeA bnd kindA freshA killOk loadsAt edgesOn Region.binds newT empT lay_get allocA buildA buildRow lenA els indexAddrA isNil opA evA lit_int lit_bool lit_nil lit_nilf yldA binI unA pickA boolV intV fieldA mk eqs eqK nilC mayP sliceA shA
theorem vP_suf : ∀ (l : List Int) (u s : Int) {u' : Int} {r : List Int}, vP l u s = some (u', r) → ∃ p, l = p ++ r ∧ 1 ≤ p.length
  | [], _, _, _, _, h => by cases h
  | x :: l, u, s, u', r, h => by
    unfold vP at h
    split at h
    · cases h
    · split at h
      · cases h
        exact ⟨[x], rfl, by simp⟩
      · obtain ⟨p, hp, _⟩ := vP_suf l _ _ h
        exact ⟨x :: p, by rw [hp]; rfl, by simp⟩
theorem lenP_suf {l r : List Int} {n : Int} (h : lenP l = some (n, r)) : 0 ≤ n ∧ n ≤ (r.length : Int) ∧ ∃ p, l = p ++ r ∧ 1 ≤ p.length := by
  unfold lenP at h
  split at h
  · cases h
  · rename_i u r' hv
    split at h
    · cases h
    · rename_i hc
      cases h
      exact ⟨by omega, by omega, vP_suf _ _ _ hv⟩
/-- The number of four bytes. -/
def smI (s0 s1 s2 s3 : Int) : Int := orI .i64 (orI .i64 (orI .i64 (IntKind.i64.wrap s0) (shlI .i64 (IntKind.i64.wrap s1) 8)) (shlI .i64 (IntKind.i64.wrap s2) 16)) (shlI .i64 (IntKind.i64.wrap s3) 24)
def goodP (r : List Int) (k : Nat) : Bool := match r.drop k with
  | s0 :: s1 :: s2 :: s3 :: _ => byP (r.take k) == smI s0 s1 s2 s3
  | _ => false
/-- The chunks. -/
def goC (L : Int) : Nat → Int → List Int → List Ck → Option (List Ck)
  | 0, _, _, _ => none
  | _ + 1, _, [], _ => none
  | m + 1, last, tag :: r, acc => if tag = 0 then (if r.length = 0 then some acc else none) else
    match lenP r with
    | none => none
    | some (n, r2) => if tag ≤ last ∨ (r2.length : Int) < n + 4 then none else goC L m tag (r2.drop (n.toNat + 4)) (acc ++ [⟨tag, L - r2.length, L - r2.length + n, goodP r2 n.toNat⟩])
theorem b_leq (a b : Int) : binA Tryz.prog .leq 3 (I a) (I b) = some (B (decide (a ≤ b))) := rfl
theorem b_gtr (a b : Int) : binA Tryz.prog .gtr 3 (I a) (I b) = some (B (decide (b < a))) := rfl
theorem b_eql (a b : Int) : binA Tryz.prog .eql 3 (I a) (I b) = some (B (a == b)) := rfl
theorem b_sub (a b : Int) : binA Tryz.prog .sub 3 (I a) (I b) = some (I (IntKind.i64.wrap (a - b))) := rfl
theorem b_eql5 (a b : Int) : binA Tryz.prog .eql 5 (Y a) (Y b) = some (B (a == b)) := rfl
theorem b_neq25 (a b : Int) : binA Tryz.prog .neq 25 (E a) (E b) = some (B (a != b)) := rfl
/-- The four bytes' number, for a kernel that would reckon. -/
theorem sum_F : ∃ OR : Int → Int → Int, ∃ S1 S2 S3 : Int → Int, (∀ a b, binA Tryz.prog .or 3 (I a) (I b) = some (I (OR a b))) ∧ (∀ a, binA Tryz.prog .shl 3 (I a) (.val (.int .u64 8)) = some (I (S1 a))) ∧ (∀ a, binA Tryz.prog .shl 3 (I a) (.val (.int .u64 16)) = some (I (S2 a))) ∧ (∀ a, binA Tryz.prog .shl 3 (I a) (.val (.int .u64 24)) = some (I (S3 a))) ∧
    ∀ s0 s1 s2 s3, smI s0 s1 s2 s3 = OR (OR (OR (IntKind.i64.wrap s0) (S1 (IntKind.i64.wrap s1))) (S2 (IntKind.i64.wrap s2))) (S3 (IntKind.i64.wrap s3)) :=
  ⟨orI .i64, fun a => shlI .i64 a 8, fun a => shlI .i64 a 16, fun a => shlI .i64 a 24, fun _ _ => rfl, fun _ => rfl, fun _ => rfl, fun _ => rfl, fun _ _ _ _ => rfl⟩
/-- What stands behind what a chunk holds. -/
theorem four {r : List Int} {k : Nat} (h : k + 4 ≤ r.length) : goodP r k = (byP (r.take k) == smI (r[k]'(by omega)) (r[k + 1]'(by omega)) (r[k + 2]'(by omega)) (r[k + 3]'(by omega))) := by
  unfold goodP
  rw [List.drop_eq_getElem_cons (show k < r.length by omega), List.drop_eq_getElem_cons (show k + 1 < r.length by omega), List.drop_eq_getElem_cons (show k + 1 + 1 < r.length by omega), List.drop_eq_getElem_cons (show k + 1 + 1 + 1 < r.length by omega)]
theorem one_ck {h : Heap} {c : Nat} {v : AV} {acc : List Ck} (O : OutG 4 30 h c v (ckR acc)) (hl : acc.length ≤ 1000000) (k : Ck) : ∃ v' h' c', appendA Tryz.prog 24 (h.put c (some ⟨4, [k.row], some 30⟩)) (c + 1) v (.sl c 4 0 1) = some (v', h', c') ∧ OutG 4 30 h' c' v' (ckR (acc ++ [k])) ∧ Grown h c v h' c' v' := by
  obtain ⟨v', h', c', e, O2, G⟩ := outG_one (t := 24) (e := 30) (sz := 4) (by_ := 32) (z := [I 0, I 0, I 0, B false]) O k.row (some 30) rfl (by simp) (by simp) (by simp) (by kernel_rfl) rfl (by simp; omega) (by simp; omega)
  exact ⟨v', h', c', e, by simpa using O2, G⟩
def CO (res : Option (List Ck)) (o : Option (AV × Heap × Nat)) : Prop := ∃ v e h c, o = some (.tup [v, E e], h, c) ∧ ((∃ ks, res = some ks ∧ e = 0 ∧ OutG 4 30 h c v (ckR ks)) ∨ (res = none ∧ e = 16 ∧ v = .ro true []))
def CI (nb : Bool) (b : List Int) (res : Option (List Ck)) (kk : Nat) (st : St) : Prop := ∃ (m : Nat) (last : Int) (l : List Int) (acc : List Ck) (v : AV), kk = l.length ∧ l.length < m ∧ res = goC b.length m last l acc ∧ acc.length + l.length ≤ 60000 ∧ l.length ≤ b.length ∧ (∀ x ∈ l, 0 ≤ x ∧ x < 256) ∧
  st.t 0 = .ro nb (bys b) ∧ st.t 6 = .ptr 0 0 0 ∧ st.t 7 = v ∧ st.t 8 = I last ∧ st.h 0 = some (cdB nb l false) ∧ OutG 4 30 st.h st.c v (ckR acc) ∧ (∀ n, nm v = some n → 1 ≤ n) ∧ 1 ≤ st.c
def CE (res : Option (List Ck)) (e : Ex) (st : St) : Prop := e = .ret ∧ ((∃ ks v, res = some ks ∧ st.t 2 = v ∧ st.t 3 = E 0 ∧ OutG 4 30 st.h st.c v (ckR ks)) ∨ (res = none ∧ st.t 2 = .ro true [] ∧ st.t 3 = E 16))
theorem chunks_ev (nb : Bool) (b : List Int) (hb : b.length ≤ 60000) (hby0 : ∀ x ∈ b, 0 ≤ x ∧ x < 256) (h0 : (bgP b).2 = 0) : CO (goC b.length (b.length + 1) 0 (b.drop 3) []) (run Tryz.prog mL 6 [.ro nb (bys b)] Heap.none 0) := by
  rw [run_eq (show mL 6 = some .pure from rfl) rfl, Tryz.func6]
  obtain ⟨res, hres0⟩ : ∃ res, res = goC b.length (b.length + 1) 0 (b.drop 3) [] := ⟨_, rfl⟩
  rw [← hres0]
  have e15 := fun h c => begin_c nb b h c
  rw [h0] at e15
  have b3 : 3 ≤ b.length := by
    rcases b with _ | ⟨x, _ | ⟨y, _ | ⟨z, r⟩⟩⟩
    · cases h0
    · cases h0
    · cases h0
    · simp
  have b3' : (3 : Int) ≤ (b.length : Int) := by omega
  generalize (bgP b).1 = q at e15
  simp -implicitDefEqProofs [Tryz.f6, e15, b3', -AM.hd, hd_bys, tk_bys, Option.bind_assoc, -decide_eq_true_eq, -decide_eq_false_iff_not, -List.any_eq_true, -List.any_eq_false, -bne_iff_ne, -beq_iff_eq, -beq_eq_false_iff_ne, -bne_eq_false_iff_eq]
  refine loop_to (R := CO res) (CI nb b res) (CE res) ?_ ?_ (b.drop 3).length _ ?_
  · rintro kk ⟨t, h1, c1⟩ ⟨m, last, l, acc, v, rfl, hm, hres, hacc, hlb, hby, a0, a6, a7, a8, b0, O, hv, hc⟩
    simp only at a0 a6 a7 a8 b0 O hc
    obtain ⟨m, rfl⟩ : ∃ m', m = m' + 1 := ⟨m - 1, by omega⟩
    obtain ⟨OR, S1, S2, S3, hOR, hS1, hS2, hS3, hsm⟩ := sum_F
    obtain ⟨vp1, vp2, vp3⟩ := O.nopan
    have d1 : c1 ≠ 0 := by omega
    have d2 : (0 : Nat) ≠ c1 := by omega
    have d3 : (0 : Nat) ≠ c1 + 1 := by omega
    have d4 : c1 + 1 ≠ 0 := by omega
    have d5 : c1 ≠ c1 + 1 := by omega
    have d6 : c1 + 1 ≠ c1 := by omega
    cases l with
    | nil =>
      have e16 := octet_nil (nb := nb) (bad := false) (x0 := 0) d1 (h := h1.put c1 (some (yB 0))) (c := c1 + 1) (by simp [d2, b0]) (by simp)
      simp -implicitDefEqProofs [a0, a6, a7, a8, b0, e16, d1, d2, d3, d4, d5, d6, to_normal, to_exit, to_ret, -decide_eq_true_eq, -decide_eq_false_iff_not, -List.any_eq_true, -List.any_eq_false, -bne_iff_ne, -beq_iff_eq, -beq_eq_false_iff_ne, -bne_eq_false_iff_eq]
      exact ⟨rfl, .inr ⟨by rw [hres]; rfl, by simp, by simp⟩⟩
    | cons tag r =>
      have e16 := octet_cons (nb := nb) (bad := false) (x0 := 0) (y := tag) (l := r) d1 (h := h1.put c1 (some (yB 0))) (c := c1 + 1) (by simp [d2, b0]) (by simp)
      obtain ⟨ht0, ht1⟩ := hby tag (by simp)
      have wt : IntKind.i64.wrap tag = tag := wrap_id (by omega) (by omega)
      cases g0 : (tag == 0)
      rotate_left
      · have ht : tag = 0 := by simpa using g0
        cases r with
        | nil =>
          simp -implicitDefEqProofs [a0, a6, a7, a8, b0, e16, g0, d1, d2, d3, d4, d5, d6, -bin_ints, b_lss, b_eql5, b_gtr, to_normal, to_exit, to_ret, -decide_eq_true_eq, -decide_eq_false_iff_not, -List.any_eq_true, -List.any_eq_false, -bne_iff_ne, -beq_iff_eq, -beq_eq_false_iff_ne, -bne_eq_false_iff_eq]
          refine ⟨rfl, .inl ⟨acc, v, by rw [hres, goC, if_pos ht]; rfl, by simp [a7], by simp, ?_⟩⟩
          simp only
          refine O.frame (by omega) fun m' hm' hlt => ?_
          have := hv m' hm'
          have q1 : m' ≠ c1 := by omega
          have q2 : m' ≠ 0 := by omega
          simp [q1, q2]
        | cons y r =>
          have gl : decide (0 < (r.length : Int) + 1) = true := decide_eq_true (by omega)
          simp -implicitDefEqProofs [a0, a6, a7, a8, b0, e16, g0, gl, d1, d2, d3, d4, d5, d6, -bin_ints, b_lss, b_eql5, b_gtr, to_normal, to_exit, to_ret, -decide_eq_true_eq, -decide_eq_false_iff_not, -List.any_eq_true, -List.any_eq_false, -bne_iff_ne, -beq_iff_eq, -beq_eq_false_iff_ne, -bne_eq_false_iff_eq]
          exact ⟨rfl, .inr ⟨by rw [hres, goC, if_pos ht, if_neg (by simp)], by simp, by simp⟩⟩
      have ht : tag ≠ 0 := by simpa using g0
      have e17' := length_c (nb := nb) (k := 0) (q := c1 + 1) (c := c1 + 1 + 1) (l := r) (n0 := 0) (h := ((((h1.put c1 (some (yB 0))).put c1 (some (yB tag))).put 0 (some (cdB nb r false))).put (c1 + 1) (some (iB 0))).put (c1 + 1) (some (iB 0))) (by omega) (by omega) (by omega) (by simp [d3]) (by simp)
      obtain ⟨h2, c2, e17, hc2, hS, H⟩ := e17'
      have k0 : h2 c1 = some (yB tag) := by
        rw [hS c1 (by omega) d1 d5]
        simp [d5, d1]
      rcases H with ⟨n, r2, hlen, b1, b2⟩ | ⟨hlen, ⟨l', b1⟩, b2⟩
      rotate_left
      · simp -implicitDefEqProofs [a0, a6, a7, a8, b0, e16, e17, b1, b2, k0, g0, d1, d2, d3, d4, d5, d6, -bin_ints, b_lss, b_eql5, b_gtr, to_normal, to_exit, to_ret, -decide_eq_true_eq, -decide_eq_false_iff_not, -List.any_eq_true, -List.any_eq_false, -bne_iff_ne, -beq_iff_eq, -beq_eq_false_iff_ne, -bne_eq_false_iff_eq]
        exact ⟨rfl, .inr ⟨by rw [hres, goC, if_neg ht, hlen], by simp, by simp⟩⟩
      obtain ⟨hn0, hn1, p, hp, hp1⟩ := lenP_suf hlen
      obtain ⟨k, rfl⟩ : ∃ k : Nat, n = k := ⟨n.toNat, by omega⟩
      have hrl : r.length = p.length + r2.length := by rw [hp]; simp
      simp only [List.length_cons] at hm hacc hlb
      have w4 : IntKind.i64.wrap ((k : Int) + 4) = ((k + 4 : Nat) : Int) := by rw [wrap_id (by omega) (by omega)]; omega
      cases g1 : decide (tag ≤ last)
      rotate_left
      · have g1' : tag ≤ last := by simpa using g1
        simp -implicitDefEqProofs [a0, a6, a7, a8, b0, e16, e17, b1, b2, k0, g0, g1, wt, cv_5_3, d1, d2, d3, d4, d5, d6, -bin_ints, b_lss, b_eql5, b_gtr, b_leq, b_add, to_normal, to_exit, to_ret, -decide_eq_true_eq, -decide_eq_false_iff_not, -List.any_eq_true, -List.any_eq_false, -bne_iff_ne, -beq_iff_eq, -beq_eq_false_iff_ne, -bne_eq_false_iff_eq]
        exact ⟨rfl, .inr ⟨by rw [hres, goC, if_neg ht, hlen]; simp only; rw [if_pos (.inl g1')], by simp, by simp⟩⟩
      have g1' : ¬ tag ≤ last := by simpa using g1
      by_cases g2 : (r2.length : Int) < (k : Int) + 4
      · have g2' : decide ((r2.length : Int) < (k : Int) + 4) = true := by simp; omega
        simp -implicitDefEqProofs [a0, a6, a7, a8, b0, e16, e17, b1, b2, k0, g0, g1, g2', w4, wt, cv_5_3, d1, d2, d3, d4, d5, d6, -bin_ints, b_lss, b_eql5, b_gtr, b_leq, b_add, to_normal, to_exit, to_ret, -decide_eq_true_eq, -decide_eq_false_iff_not, -List.any_eq_true, -List.any_eq_false, -bne_iff_ne, -beq_iff_eq, -beq_eq_false_iff_ne, -bne_eq_false_iff_eq]
        exact ⟨rfl, .inr ⟨by rw [hres, goC, if_neg ht, hlen]; simp only; rw [if_pos (.inr g2)], by simp, by simp⟩⟩
      have g2' : decide ((r2.length : Int) < (k : Int) + 4) = false := by simp; omega
      have hgood := four (r := r2) (k := k) (by omega)
      obtain ⟨s0, q0⟩ : ∃ x, r2[k]'(by omega) = x := ⟨_, rfl⟩
      obtain ⟨s1, q1⟩ : ∃ x, r2[k + 1]'(by omega) = x := ⟨_, rfl⟩
      obtain ⟨s2, q2⟩ : ∃ x, r2[k + 2]'(by omega) = x := ⟨_, rfl⟩
      obtain ⟨s3, q3⟩ : ∃ x, r2[k + 3]'(by omega) = x := ⟨_, rfl⟩
      rw [q0, q1, q2, q3] at hgood
      have wL : IntKind.i64.wrap ((b.length : Int) - (r2.length : Int)) = (b.length : Int) - (r2.length : Int) := wrap_id (by omega) (by omega)
      have wF : IntKind.i64.wrap ((b.length : Int) - (r2.length : Int) + (k : Int)) = (b.length : Int) - (r2.length : Int) + (k : Int) := wrap_id (by omega) (by omega)
      have O2 : OutG 4 30 h2 c2 v (ckR acc) := O.frame (by omega) fun m' hm' hlt => by
        have hm1 := hv m' hm'
        have z1 : m' ≠ c1 := by omega
        have z2 : m' ≠ 0 := by omega
        have z3 : m' ≠ c1 + 1 := by omega
        rw [hS m' (by omega) z2 z3]
        simp [z1, z2, z3]
      obtain ⟨v', h3, c3, eA, O3, G⟩ := one_ck O2 (by omega) ⟨tag, (b.length : Int) - (r2.length : Int), (b.length : Int) - (r2.length : Int) + k, goodP r2 k⟩
      obtain ⟨vq1, vq2, vq3⟩ := O3.nopan
      have b3 : h3 0 = some (cdB nb r2 false) := by rw [G.get 0 (by omega) (fun e => by have := hv 0 e; omega), b1]
      have b4 : h3 (c1 + 1) = some (iB k) := by rw [G.get (c1 + 1) (by omega) (fun e => by have := O.lt e; omega), b2]
      have e12 := fun h c => bytes_c nb (r2.take k) (by simp; omega) h c
      rw [show bys (r2.take k) = List.take k (List.map (fun n => [Y n]) r2) from List.map_take] at e12
      have bd1 : (k : Int) ≤ (r2.length : Int) := by omega
      have bd1' : k ≤ r2.length := by omega
      have bd2 : (k : Int) + 4 ≤ (r2.length : Int) := by omega
      have bd2' : k + 4 ≤ r2.length := by omega
      have bd3 : (0 : Int) ≤ (k : Int) + 4 := by omega
      have bd4 : ((k : Int) + 4).toNat = k + 4 := by omega
      have dk : List.drop (k + 4) (List.map (fun n => [Y n]) r2) = List.map (fun n => [Y n]) (r2.drop (k + 4)) := List.map_drop.symm
      rw [hgood, hsm] at eA
      simp only [Ck.row] at eA
      simp -implicitDefEqProofs [a0, a6, a7, a8, b0, e16, e17, b1, b2, b3, b4, k0, g0, g1, g2', w4, wt, wL, wF, cv_5_3, -AM.hd, hd_bys, e12, q0, q1, q2, q3, hOR, hS1, hS2, hS3, -appendA, eA, vq1, vq2, vq3, putV_np, putD_np, bd1, bd1', bd2, bd2', bd3, bd4, tk_bys, d1, d2, d3, d4, d5, d6, -bin_ints, b_lss, b_eql5, b_gtr, b_leq, b_add, b_sub, b_eql, to_normal, to_exit, to_ret, -decide_eq_true_eq, -decide_eq_false_iff_not, -List.any_eq_true, -List.any_eq_false, -bne_iff_ne, -beq_iff_eq, -beq_eq_false_iff_ne, -bne_eq_false_iff_eq]
      refine ⟨(r2.drop (k + 4)).length, by simp; omega, m, tag, r2.drop (k + 4), acc ++ [⟨tag, (b.length : Int) - (r2.length : Int), (b.length : Int) - (r2.length : Int) + k, goodP r2 k⟩], v', rfl, by simp; omega, ?_, by simp; omega, by simp; omega, fun x hx => hby x (by rw [hp]; simp [List.mem_of_mem_drop hx]), by simp [a0], by simp [a6], by simp, by simp, by simp, ?_, fun n hn => ?_, by have := G.le; simp only; omega⟩
      · rw [hres, goC, if_neg ht, hlen]
        simp only
        rw [if_neg (by omega), Int.toNat_natCast]
      · simp only
        rw [hgood, hsm]
        rw [hgood, hsm] at O3
        refine O3.frame (Nat.le_refl _) fun m' hm' hlt => ?_
        have : 1 ≤ m' := by
          rcases G.new m' hm' with q | q
          · exact hv m' q
          · omega
        rw [put_get, if_neg (by omega)]
      · rcases G.new n hn with q | q
        · exact hv n q
        · omega
  · rintro e ⟨t, h, c⟩ ⟨rfl, H⟩
    rcases H with ⟨ks, v, hres, t2, t3, O⟩ | ⟨hres, t2, t3⟩
    · simp only at t2 t3 O
      simp -implicitDefEqProofs [t2, t3, -decide_eq_true_eq, -decide_eq_false_iff_not, -List.any_eq_true, -List.any_eq_false, -bne_iff_ne, -beq_iff_eq, -beq_eq_false_iff_ne, -bne_eq_false_iff_eq]
      exact ⟨_, _, _, _, rfl, .inl ⟨ks, hres, rfl, by simpa [t2] using O⟩⟩
    · simp only at t2 t3
      simp -implicitDefEqProofs [t2, t3, -decide_eq_true_eq, -decide_eq_false_iff_not, -List.any_eq_true, -List.any_eq_false, -bne_iff_ne, -beq_iff_eq, -beq_eq_false_iff_ne, -bne_eq_false_iff_eq]
      exact ⟨_, _, _, _, rfl, .inr ⟨hres, rfl, rfl⟩⟩
  · exact ⟨b.length + 1, 0, b.drop 3, [], .ro true [], by simp, by simp; omega, hres0, by simp; omega, by simp, fun x hx => hby0 x (List.mem_of_mem_drop hx), by simp, by simp, by simp, by simp, by simp, OutG.nil _ _ _ _, fun n hn => (by cases hn), by simp⟩
/-- The chunks of bytes, or the error. -/
def chunkP (b : List Int) : List Ck × Int := if (bgP b).2 = 0 then (match goC b.length (b.length + 1) 0 (b.drop 3) [] with | some ks => (ks, 0) | none => ([], 16)) else ([], (bgP b).2)
theorem frz_ck {h : Heap} {c : Nat} {v : AV} {ks : List Ck} (O : OutG 4 30 h c v (ckR ks)) (e : Int) : ∃ bb, frz h depth (.tup [v, E e]) = some (.tup [.ro bb (ckR ks), E e]) := by
  have key : ∃ bb, frz h 11 v = some (.ro bb (ckR ks)) := by
    rcases O with ⟨rfl, hk⟩ | ⟨n, rfl, _, _, hb⟩
    · rw [hk]; exact ⟨true, rfl⟩
    · refine ⟨false, ?_⟩
      have hel : els h (.sl n 4 0 (ckR ks).length) = some (ckR ks) := by
        simp only [els, hb, Option.bind_some, List.drop_zero, Nat.zero_add]
        rw [if_pos (Nat.le_refl _), List.take_of_length_le (Nat.le_refl _)]
      show ((els h (.sl n 4 0 (ckR ks).length)).bind fun es => (es.mapM fun (e : List AV) => e.mapM (frz h 10)).map (AV.ro false)) = _
      rw [hel, Option.bind_some]
      have : ∀ l : List Ck, (ckR l).mapM (fun (e : List AV) => e.mapM (frz h 10)) = some (ckR l) := by
        intro l
        induction l with
        | nil => rfl
        | cons x l ih =>
          simp only [ckR, List.map_cons, List.mapM_cons] at ih ⊢
          rw [ih]
          rfl
      rw [this]
      rfl
  obtain ⟨bb, hk⟩ := key
  refine ⟨bb, ?_⟩
  show (([v, E e] : List AV).mapM (frz h 11)).map AV.tup = _
  simp only [List.mapM_cons, List.mapM_nil, hk]
  rfl
theorem chunks_c (nb : Bool) (b : List Int) (hb : b.length ≤ 60000) (hby : ∀ x ∈ b, 0 ≤ x ∧ x < 256) : ∃ bb, ∀ h c, callA mL (run Tryz.prog mL) 6 [.ro nb (bys b)] h c = some (.tup [.ro bb (ckR (chunkP b).1), E (chunkP b).2], h, c) := by
  by_cases h0 : (bgP b).2 = 0
  · obtain ⟨v, e, h', c', e1, H⟩ := chunks_ev nb b hb hby h0
    have hc : chunkP b = (match goC b.length (b.length + 1) 0 (b.drop 3) [] with | some ks => (ks, 0) | none => ([], 16)) := by unfold chunkP; rw [if_pos h0]
    rcases H with ⟨ks, hk, rfl, O⟩ | ⟨hk, rfl, rfl⟩
    · rw [hk] at hc
      rw [hc]
      obtain ⟨bb, hf⟩ := frz_ck O 0
      exact ⟨bb, fun h c => call_fz rfl rfl rfl e1 hf⟩
    · rw [hk] at hc
      rw [hc]
      exact ⟨true, fun h c => call_fz rfl rfl rfl e1 rfl⟩
  · have hc : chunkP b = ([], (bgP b).2) := by unfold chunkP; rw [if_neg h0]
    rw [hc]
    have k1 : ((bgP b).2 != 0) = true := by simpa using h0
    have e15 := fun h c => begin_c nb b h c
    have key : ∃ h c, run Tryz.prog mL 6 [.ro nb (bys b)] Heap.none 0 = some (.tup [.ro true [], E (bgP b).2], h, c) := by
      rw [run_eq (show mL 6 = some .pure from rfl) rfl, Tryz.func6]
      generalize bgP b = q at *
      simp -implicitDefEqProofs [Tryz.f6, e15, k1, -decide_eq_true_eq, -decide_eq_false_iff_not, -List.any_eq_true, -List.any_eq_false, -bne_iff_ne, -beq_iff_eq, -beq_eq_false_iff_ne, -bne_eq_false_iff_eq]
    obtain ⟨h', c', e⟩ := key
    exact ⟨true, fun h c => call_fz rfl rfl rfl e rfl⟩
end Go.Proofs.YtgbdbenepnbajaaGreatDoor.AM
