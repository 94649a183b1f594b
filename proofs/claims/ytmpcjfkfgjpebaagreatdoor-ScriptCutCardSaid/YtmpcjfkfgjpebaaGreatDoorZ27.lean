/- Texts of the proof: part Z27. -/
import Derived.Test.YtmpcjfkfgjpebaaGreatDoorZ26
set_option maxHeartbeats 0
set_option maxRecDepth 8000
set_option linter.unusedSimpArgs false
set_option linter.unusedVariables false
set_option linter.unusedSectionVars false
namespace Go.Proofs.YtmpcjfkfgjpebaaGreatDoor.AM
open Go Go.Proofs
attribute [local simp] fieldAddrA ld setCells stA skipV appendA hd makeA bnd kindA freshA killOk loadsAt edgesOn Region.binds newT empT lay_get allocA buildA buildRow lenA els indexAddrA isNil opA evA lit_int lit_bool lit_nil lit_nilf yldA binI unA pickA boolV intV fieldA mk eqs nilC mayP
theorem suf_c (orc : Orc) (s : Str) (hs : s.length ≤ 100000) (h : Heap) (c : Nat) : callA mZ orc 45 [S s, S [10]] h c = some (S (Lib.trimSuffix s [10]), h, c) := by
  have hg : gSuffix [S s, S [10]] = if s.length ≤ 9223372036854775807 then some (S (Lib.trimSuffix s [10])) else none := rfl
  rw [if_pos (by omega)] at hg
  exact extA (g := gSuffix) rfl (fun _ => rfl) hg rfl h c
theorem trim_c (orc : Orc) (s : Str) (h : Heap) (c : Nat) : callA mZ orc 46 [S s, S [32]] h c = some (S (Lib.trimLeftB s 32), h, c) := extA (g := gTrim) rfl (fun _ => rfl) rfl rfl h c
theorem count_c (orc : Orc) (s : Str) (h : Heap) (c : Nat) : callA mZ orc 114 [S s, S [10]] h c = some (I (Lib.countByte s 10 : Nat), h, c) := extA (g := gCount) rfl (fun _ => rfl) rfl rfl h c
theorem index_c (orc : Orc) (s : Str) (h : Heap) (c : Nat) : callA mZ orc 110 [S s, S [10]] h c = some (I (Lib.indexByte s 10), h, c) := extA (g := gIndex) rfl (fun _ => rfl) rfl rfl h c
theorem suf_len (s p : Str) : (Lib.trimSuffix s p).length ≤ s.length := by
  unfold Lib.trimSuffix
  split
  · simp
  · exact Nat.le_refl _
theorem trim_len (s : Str) (x : UInt8) : (Lib.trimLeftB s x).length ≤ s.length := (List.dropWhile_suffix _).length_le
theorem set_le {rows : List Str} {n i : Nat} {y : Str} (h : ∀ x ∈ rows, x.length ≤ n) (hy : y.length ≤ n) : ∀ x ∈ rows.set i y, x.length ≤ n := fun x hx => by
  rcases List.mem_or_eq_of_mem_set hx with hx | rfl
  · exact h x hx
  · exact hy
theorem strs_set (rows : List Str) (i : Nat) (y : Str) : (strs rows).set i [S y] = strs (rows.set i y) := by simp
/-- Strings in a row of the call's own. -/
def SplOut (c n : Nat) (o : Option (AV × Heap × Nat)) : Prop := ∃ (k : Nat) (rows : List Str) (h' : Heap) (c' : Nat), o = some (.sl c 1 0 k, h', c') ∧ h' c = some ⟨1, strs rows, some 9⟩ ∧ c < c' ∧ k ≤ rows.length ∧ rows.length ≤ n + 1 ∧ ∀ x ∈ rows, x.length ≤ n
def SInv (c n N : Nat) (kk : Nat) (st : St) : Prop := ∃ (i : Nat) (rows : List Str) (r : Str), kk = N - i ∧ st.t 0 = S r ∧ st.t 1 = S [10] ∧ st.t 2 = I 0 ∧ st.t 3 = I ((N : Nat) : Int) ∧ st.t 9 = .sl c 1 0 (N + 1) ∧ st.t 10 = I i ∧ i ≤ N ∧ rows.length = N + 1 ∧ st.h c = some ⟨1, strs rows, some 9⟩ ∧ c < st.c ∧ r.length ≤ n ∧ ∀ x ∈ rows, x.length ≤ n
def SEnd (c n N : Nat) (e : Ex) (st : St) : Prop := e = .exit 0 ∧ ∃ (i : Nat) (rows : List Str) (r : Str), st.t 0 = S r ∧ st.t 9 = .sl c 1 0 (N + 1) ∧ st.t 10 = I i ∧ i ≤ N ∧ rows.length = N + 1 ∧ st.h c = some ⟨1, strs rows, some 9⟩ ∧ c < st.c ∧ r.length ≤ n ∧ ∀ x ∈ rows, x.length ≤ n
theorem split_ev (s : Str) (hs : s.length ≤ 100000) (h : Heap) (c : Nat) : SplOut c s.length (callA mZ (run Tryz.prog mZ) 76 [S s, S [10], I 0, I (-1)] h c) := by
  rw [call_heap rfl, run_eq (show mZ 76 = some .heap from rfl) rfl, Tryz.func76]
  have hcl : Lib.countByte s 10 ≤ s.length := List.count_le_length
  have e0 := fun h c => count_c (run Tryz.prog mZ) s h c
  generalize Lib.countByte s 10 = N0 at hcl e0
  obtain ⟨q, hq⟩ : ∃ q, q = N0 + 1 := ⟨_, rfl⟩
  obtain ⟨q2, hq2⟩ : ∃ q2, q2 = s.length + 1 := ⟨_, rfl⟩
  have k1 : IntKind.i64.wrap ((N0 : Int) + 1) = (q : Int) := by rw [wrap_succ (by omega), hq]
  have k2 : IntKind.i64.wrap ((s.length : Int) + 1) = (q2 : Int) := by rw [wrap_succ (by omega), hq2]
  have k3 : IntKind.i64.wrap ((q : Int) - 1) = (N0 : Int) := by rw [wrap_id (by omega) (by omega)]; omega
  have hmin : ∀ (ts : List TypeId) (h : Heap) (c : Nat), builtinA Tryz.prog .min ts h c [I (q : Nat), I (q2 : Nat)] = some (I (q : Nat), h, c) := by
    intro ts h c
    have : (if (q2 : Int) < (q : Int) then (q2 : Int) else (q : Int)) = (q : Int) := by rw [if_neg (by omega)]
    show some (I (if (q2 : Int) < (q : Int) then (q2 : Int) else (q : Int)), h, c) = _
    rw [this]
  have hmk : ∀ (h : Heap) (c : Nat), makeA Tryz.prog 23 h c (I (q : Nat)) (I (q : Nat)) = some (.sl c 1 0 q, h.put c (some ⟨1, strs (List.replicate q []), some 9⟩), c + 1) := by
    intro h c
    have hc : (0 : Int) ≤ (q : Int) ∧ (q : Int) ≤ (q : Int) ∧ (q : Int) * ((16 : Nat) : Int) ≤ ((room : Nat) : Int) ∧ (q : Int) ≤ ((room : Nat) : Int) ∧ ([.val (.string ⟨#[]⟩)] : List AV).length = 1 ∧ 0 < 1 := by
      have : (room : Nat) = 140737488355328 := rfl
      rw [this]
      refine ⟨by omega, by omega, by omega, by omega, rfl, by omega⟩
    have hrep : (List.replicate q [.val (.string ⟨#[]⟩)] : List (List AV)) = strs (List.replicate q []) := by
      show _ = (List.replicate q ([] : Str)).map fun l => [S l]
      rw [List.map_replicate]
      rfl
    unfold makeA
    have t1 : slT Tryz.prog 23 = some 9 := by simp
    have t2 : szT Tryz.prog 9 = some 1 := by simp
    have t3 : byT Tryz.prog 9 = some 16 := by simp
    have t4 : zeT Tryz.prog 9 = some [.val (.string ⟨#[]⟩)] := by kernel_rfl
    simp only [t1, t2, t3, t4, Option.bind_some]
    rw [if_pos hc]
    simp only [Int.toNat_natCast, hrep]
  simp -implicitDefEqProofs [Tryz.f76, e0, k1, k2, k3, hmin, -makeA, hmk, Option.bind_assoc, -decide_eq_true_eq, -decide_eq_false_iff_not, -List.any_eq_true, -List.any_eq_false, -bne_iff_ne, -beq_iff_eq, -beq_eq_false_iff_ne, -bne_eq_false_iff_eq]
  refine loop_to (R := SplOut c s.length) (SInv c s.length N0) (SEnd c s.length N0) ?_ ?_ N0 _ ?_
  · rintro kk ⟨t, h1, c1⟩ ⟨i, rows, r, rfl, a0, a1, a2, a3, a9, a10, hi, hrl, hb, hc1, hr, hx⟩
    simp only at a0 a1 a2 a3 a9 a10 hb hc1
    by_cases g : i < N0
    · have g1 : decide (i < N0) = true := by simp [g]
      have e1 := fun h c => index_c (run Tryz.prog mZ) r h c
      have h2 := idx_lt 10 r
      cases g2 : decide (Lib.indexByte r 10 < 0)
      · obtain ⟨n, hn⟩ : ∃ n : Nat, Lib.indexByte r 10 = n := ⟨(Lib.indexByte r 10).toNat, by rw [decide_eq_false_iff_not] at g2; omega⟩
        rw [hn] at e1 h2 g2
        have w0 : IntKind.i64.wrap (n : Int) = n := wrap_id (by omega) (by omega)
        obtain ⟨p, hp⟩ : ∃ p, p = n + 1 := ⟨_, rfl⟩
        have w1 : IntKind.i64.wrap ((n : Int) + 1) = (p : Int) := by rw [wrap_succ (by omega), hp]
        have w2 : IntKind.i64.wrap ((i : Int) + 1) = ((i + 1 : Nat) : Int) := wrap_succ (by omega)
        have m1 : n ≤ r.length := by omega
        have m2 : p ≤ r.length := by omega
        have m3 : (p : Int) ≤ (r.length : Int) := by omega
        have m4 : i < N0 + 1 := by omega
        have m5 : (i : Int) < (N0 : Int) + 1 := by omega
        have m6 : i < rows.length := by omega
        obtain ⟨y, hy⟩ : ∃ y, rows[i]? = some y := ⟨rows[i], by simp [m6]⟩
        have ht : List.take r.length r = r := List.take_length
        simp -implicitDefEqProofs [a0, a1, a2, a3, a9, a10, hb, g1, e1, g2, w0, w1, w2, m1, m2, m3, m4, m5, hy, ht, to_normal, to_exit, to_ret, -decide_eq_true_eq, -decide_eq_false_iff_not, -List.any_eq_true, -List.any_eq_false, -bne_iff_ne, -beq_iff_eq, -beq_eq_false_iff_ne, -bne_eq_false_iff_eq]
        exact ⟨N0 - (i + 1), by omega, i + 1, rows.set i (r.take n), r.drop p, rfl, by simp, by simp [a1], by simp [a2], by simp [a3], by simp [a9], by simp, by omega, by simpa using hrl, by simp, hc1, by simp; omega, set_le hx (by simp; omega)⟩
      · simp -implicitDefEqProofs [a0, a1, a2, a3, a9, a10, hb, g1, e1, g2, to_normal, to_exit, to_ret, -decide_eq_true_eq, -decide_eq_false_iff_not, -List.any_eq_true, -List.any_eq_false, -bne_iff_ne, -beq_iff_eq, -beq_eq_false_iff_ne, -bne_eq_false_iff_eq]
        exact ⟨rfl, i, rows, r, by simp [a0], by simp [a9], by simp [a10], by omega, hrl, hb, hc1, hr, hx⟩
    · have g1 : decide (i < N0) = false := by simp; omega
      simp -implicitDefEqProofs [a0, a1, a2, a3, a9, a10, hb, g1, to_normal, to_exit, to_ret, -decide_eq_true_eq, -decide_eq_false_iff_not, -List.any_eq_true, -List.any_eq_false, -bne_iff_ne, -beq_iff_eq, -beq_eq_false_iff_ne, -bne_eq_false_iff_eq]
      exact ⟨rfl, i, rows, r, by simp [a0], by simp [a9], by simp [a10], by omega, hrl, hb, hc1, hr, hx⟩
  · rintro e ⟨t, h1, c1⟩ ⟨rfl, i, rows, r, a0, a9, a10, hi, hrl, hb, hc1, hr, hx⟩
    simp only at a0 a9 a10 hb hc1
    obtain ⟨p, hp⟩ : ∃ p, p = i + 1 := ⟨_, rfl⟩
    have w2 : IntKind.i64.wrap ((i : Int) + 1) = (p : Int) := by rw [wrap_succ (by omega), hp]
    have m4 : i < N0 + 1 := by omega
    have m5 : (i : Int) < (N0 : Int) + 1 := by omega
    have m6 : i < rows.length := by omega
    have m7 : p ≤ N0 + 1 := by omega
    have m8 : (p : Int) ≤ (N0 : Int) + 1 := by omega
    obtain ⟨y, hy⟩ : ∃ y, rows[i]? = some y := ⟨rows[i], by simp [m6]⟩
    simp -implicitDefEqProofs [a0, a9, a10, hb, w2, m4, m5, m7, m8, hy, sliceA, -decide_eq_true_eq, -decide_eq_false_iff_not, -List.any_eq_true, -List.any_eq_false, -bne_iff_ne, -beq_iff_eq, -beq_eq_false_iff_ne, -bne_eq_false_iff_eq]
    exact ⟨p, rows.set i r, _, c1, rfl, by simp, hc1, by simp; omega, by simp; omega, set_le hx hr⟩
  · exact ⟨0, List.replicate (N0 + 1) [], s, by simp, by simp, by simp, by simp, by simp, by simp [hq], by simp, by omega, by simp, by simp [hq], by simp, Nat.le_refl _, fun x hx => by simp at hx; simp [hx]⟩
theorem splitc_c (s : Str) (hs : s.length ≤ 100000) (h : Heap) (c : Nat) : SplOut c s.length (callA mZ (run Tryz.prog mZ) 44 [S s, S [10]] h c) := by
  obtain ⟨k, rows, h', c', e, r⟩ := split_ev s hs h c
  refine ⟨k, rows, h', c', ?_, r⟩
  rw [call_heap rfl, run_eq (show mZ 44 = some .heap from rfl) rfl, Tryz.func44]
  simp -implicitDefEqProofs [Tryz.f44, e, -decide_eq_true_eq, -decide_eq_false_iff_not, -List.any_eq_true, -List.any_eq_false, -bne_iff_ne, -beq_iff_eq, -beq_eq_false_iff_ne, -bne_eq_false_iff_eq]
def LnsOut (n : Nat) (o : Option (AV × Heap × Nat)) : Prop := ∃ (v : AV) (h' : Heap) (c' : Nat) (b : Bool) (ls : List Str), o = some (v, h', c') ∧ frz h' depth v = some (.ro b (strs ls)) ∧ ls.length ≤ n + 1 ∧ ∀ x ∈ ls, x.length ≤ n
def LInv (n k m : Nat) (kk : Nat) (st : St) : Prop := ∃ (i : Nat) (rows : List Str), kk = k - i ∧ st.t 3 = .sl 0 1 0 k ∧ st.t 11 = I k ∧ st.t 12 = I i ∧ i ≤ k ∧ k ≤ rows.length ∧ rows.length = m ∧ st.h 0 = some ⟨1, strs rows, some 9⟩ ∧ ∀ x ∈ rows, x.length ≤ n
def LEnd (n k m : Nat) (e : Ex) (st : St) : Prop := e = .exit 0 ∧ ∃ (rows : List Str), st.t 3 = .sl 0 1 0 k ∧ k ≤ rows.length ∧ rows.length = m ∧ st.h 0 = some ⟨1, strs rows, some 9⟩ ∧ ∀ x ∈ rows, x.length ≤ n
theorem lines_ev (s : Str) (hs : s.length ≤ 100000) : LnsOut s.length (run Tryz.prog mZ 22 [S s] Heap.none 0) := by
  rw [run_eq (show mZ 22 = some .pure from rfl) rfl, Tryz.func22]
  cases g0 : (s == ([] : Str))
  · have e1 := fun h c => suf_c (run Tryz.prog mZ) s hs h c
    have hl := suf_len s [10]
    generalize Lib.trimSuffix s [10] = t0 at e1 hl
    obtain ⟨k, rows, h', c', e2, hb, hc, hk, hrl, hx⟩ := splitc_c t0 (by omega) Heap.none 0
    simp -implicitDefEqProofs [Tryz.f22, g0, e1, e2, Option.bind_assoc, -decide_eq_true_eq, -decide_eq_false_iff_not, -List.any_eq_true, -List.any_eq_false, -bne_iff_ne, -beq_iff_eq, -beq_eq_false_iff_ne, -bne_eq_false_iff_eq]
    refine loop_to (R := LnsOut s.length) (LInv s.length k rows.length) (LEnd s.length k rows.length) ?_ ?_ k _ ?_
    · rintro kk ⟨t, h1, c1⟩ ⟨i, rows1, rfl, a3, a11, a12, hi, hk1, hrl1, hb1, hx1⟩
      simp only at a3 a11 a12 hb1
      by_cases g : i < k
      · have g1 : decide (i < k) = true := by simp [g]
        have w2 : IntKind.i64.wrap ((i : Int) + 1) = ((i + 1 : Nat) : Int) := wrap_succ (by omega)
        obtain ⟨y, hy⟩ : ∃ y, rows1[i]? = some y := ⟨rows1[i], by simp [show i < rows1.length by omega]⟩
        have m5 : (i : Int) < (k : Int) := by omega
        have e3 := fun h c => trim_c (run Tryz.prog mZ) y h c
        have hyl := hx1 y (List.mem_of_getElem? hy)
        have htl := trim_len y 32
        generalize Lib.trimLeftB y 32 = z at e3 htl
        simp -implicitDefEqProofs [a3, a11, a12, hb1, g1, g, m5, hy, e3, w2, to_normal, to_exit, to_ret, -decide_eq_true_eq, -decide_eq_false_iff_not, -List.any_eq_true, -List.any_eq_false, -bne_iff_ne, -beq_iff_eq, -beq_eq_false_iff_ne, -bne_eq_false_iff_eq]
        exact ⟨k - (i + 1), by omega, i + 1, rows1.set i z, rfl, by simp [a3], by simp [a11], by simp, by omega, by simpa using hk1, by simpa using hrl1, by simp, set_le hx1 (by omega)⟩
      · have g1 : decide (i < k) = false := by simp; omega
        simp -implicitDefEqProofs [a3, a11, a12, g1, to_normal, to_exit, to_ret, -decide_eq_true_eq, -decide_eq_false_iff_not, -List.any_eq_true, -List.any_eq_false, -bne_iff_ne, -beq_iff_eq, -beq_eq_false_iff_ne, -bne_eq_false_iff_eq]
        exact ⟨rfl, rows1, by simp [a3], hk1, hrl1, hb1, hx1⟩
    · rintro e ⟨t, h1, c1⟩ ⟨rfl, rows1, a3, hk1, hrl1, hb1, hx1⟩
      simp only at a3 hb1
      simp -implicitDefEqProofs [a3, -decide_eq_true_eq, -decide_eq_false_iff_not, -List.any_eq_true, -List.any_eq_false, -bne_iff_ne, -beq_iff_eq, -beq_eq_false_iff_ne, -bne_eq_false_iff_eq]
      refine ⟨_, _, _, false, rows1.take k, rfl, ?_, by simp; omega, fun x hx => hx1 x (List.mem_of_mem_take hx)⟩
      have hel : els h1 (.sl 0 1 0 k) = some (strs (rows1.take k)) := by
        simp only [els, hb1, Option.bind_some]
        rw [if_pos (by simp; omega)]
        simp
      show ((els h1 (.sl 0 1 0 k)).bind fun es => (es.mapM fun (e : List AV) => e.mapM (frz h1 11)).map (AV.ro false)) = _
      rw [hel, Option.bind_some, frzS]
      rfl
    · exact ⟨0, rows, by simp, by simp, by simp, by simp, by omega, hk, rfl, by simpa using hb, fun x h => by have := hx x h; omega⟩
  · simp -implicitDefEqProofs [Tryz.f22, g0, -decide_eq_true_eq, -decide_eq_false_iff_not, -List.any_eq_true, -List.any_eq_false, -bne_iff_ne, -beq_iff_eq, -beq_eq_false_iff_ne, -bne_eq_false_iff_eq]
    exact ⟨_, _, _, true, [], rfl, rfl, by simp, fun x hx => by cases hx⟩
theorem lines_c (s : Str) (hs : s.length ≤ 100000) : ∃ (b : Bool) (ls : List Str), (∀ h c, callA mZ (run Tryz.prog mZ) 22 [S s] h c = some (.ro b (strs ls), h, c)) ∧ ls.length ≤ s.length + 1 ∧ ∀ x ∈ ls, x.length ≤ s.length := by
  obtain ⟨v, h', c', b, ls, e, f, h1, h2⟩ := lines_ev s hs
  refine ⟨b, ls, fun h c => ?_, h1, h2⟩
  rw [call_pure _ _ _ _ _ _ rfl]
  show (((some [S s] : Option (List AV))).bind _) = _
  rw [Option.bind_some, e, Option.bind_some, f, Option.bind_some]
  rfl
end Go.Proofs.YtmpcjfkfgjpebaaGreatDoor.AM
