/- Parts of the proof: Z14, Z15, Z16, Z17, Z18. -/
import Derived.Test.YtmpcjfkfgjpebaaGreatDoorZ13
set_option maxHeartbeats 0
set_option maxRecDepth 8000
set_option linter.unusedSimpArgs false
set_option linter.unusedVariables false
set_option linter.unusedSectionVars false
namespace Go.Proofs.YtmpcjfkfgjpebaaGreatDoor.AM
open Go Go.Proofs
attribute [local simp] fieldAddrA ld setCells stA skipV appendA hd makeA bnd kindA freshA killOk loadsAt edgesOn Region.binds newT empT lay_get allocA buildA buildRow lenA els indexAddrA isNil opA evA lit_int lit_bool lit_nil lit_nilf yldA binI unA pickA boolV intV fieldA mk eqs nilC mayP
@[simp] theorem ifT20 : ifT Tryz.prog 20 = true := by kernel_rfl
@[simp] theorem coT27 : coT Tryz.prog 27 = true := by kernel_rfl
@[simp] theorem mpT55 : mpT Tryz.prog 55 = some 3 := by kernel_rfl
@[simp] theorem ziT3 : ziT Tryz.prog 3 = some (I 0) := by kernel_rfl
/-- Rows of a map from names to places. -/
def RowsOk (na : Nat) (rows : List (List AV)) : Prop := ∀ e ∈ rows, ∃ (k : ByteArray) (n : Nat), e = [.val (.string k), I n] ∧ n < na
theorem RowsOk.mono {na nb : Nat} {rows : List (List AV)} (h : RowsOk na rows) (hn : na ≤ nb) : RowsOk nb rows := fun e he => let ⟨k, n, h1, h2⟩ := h e he; ⟨k, n, h1, by omega⟩
theorem mrows_get {na : Nat} (s : ByteArray) : ∀ {rows : List (List AV)}, RowsOk na rows → ∃ r, mpGet s rows = some r ∧ ∀ v, r = some v → ∃ k : Nat, v = I k ∧ k < na
  | [], _ => ⟨none, rfl, fun v h => by cases h⟩
  | e :: rows, h => by
    obtain ⟨k, n, rfl, hn⟩ := h e (by simp)
    unfold mpGet
    split
    · exact ⟨_, rfl, fun v hv => by cases hv; exact ⟨n, rfl, hn⟩⟩
    · exact mrows_get s (fun e he => h e (by simp [he]))
theorem mrows_set {na : Nat} (s : ByteArray) (m : Nat) (hm : m < na) : ∀ {rows : List (List AV)}, RowsOk na rows → ∃ rows', mpSet s (I m) rows = some rows' ∧ RowsOk na rows'
  | [], _ => ⟨_, rfl, fun e he => by simp at he; exact ⟨s, m, he, hm⟩⟩
  | e :: rows, h => by
    obtain ⟨k, n, rfl, hn⟩ := h e (by simp)
    unfold mpSet
    split
    · refine ⟨_, rfl, fun e he => ?_⟩
      rcases List.mem_cons.1 he with rfl | he
      · exact ⟨s, m, rfl, hm⟩
      · exact h e (by simp [he])
    · obtain ⟨rows', h1, h2⟩ := mrows_set s m hm (rows := rows) (fun e he => h e (by simp [he]))
      refine ⟨_, by rw [h1]; rfl, fun e he => ?_⟩
      rcases List.mem_cons.1 he with rfl | he
      · exact ⟨k, n, rfl, hn⟩
      · exact h2 e he
theorem places_ev (nb : Bool) (ns : List Str) (hl : ns.length ≤ 1000) (h : Heap) (c : Nat) :
    ∃ rows, callA mA (run Tryz.prog mA) 181 [.ro nb (strs ns)] h c = some (.mp c, h.put c (some (mpBlk rows)), c + 1) ∧ RowsOk ns.length rows := by
  rw [call_heap rfl, run_eq (show mA 181 = some .heap from rfl) rfl, Tryz.func181]
  simp -implicitDefEqProofs [Tryz.f181, Option.bind_assoc, -decide_eq_true_eq, -decide_eq_false_iff_not, -List.any_eq_true, -List.any_eq_false, -bne_iff_ne, -beq_iff_eq, -beq_eq_false_iff_ne, -bne_eq_false_iff_eq]
  refine count_to (R := fun (o : Option (AV × Heap × Nat)) => ∃ rows, o = some (.mp c, h.put c (some (mpBlk rows)), c + 1) ∧ RowsOk ns.length rows)
    ns.length (fun j s => s.t 7 = .ro nb (strs ns) ∧ s.t 8 = I ns.length ∧ s.t 9 = I j ∧ s.t 3 = .mp c ∧ s.c = c + 1 ∧ ∃ rows, s.h = h.put c (some (mpBlk rows)) ∧ RowsOk ns.length rows) _ ?_ ?_ ?_
  · exact ⟨by simp, by simp, by simp, by simp, by simp, [], by simp, fun e he => by cases he⟩
  · rintro j ⟨t, h1, c1⟩ ⟨h7, h8, h9, h3, hc, rows, hh, hr⟩ hj
    simp only at h7 h8 h9 h3 hc hh
    subst hc hh
    have k1 : decide (j < ns.length) = true := by simp [hj]
    obtain ⟨x, hx⟩ : ∃ x, ns[j]? = some x := ⟨ns[j], by simp [hj]⟩
    have hx2 : (strs ns)[j]? = some [S x] := by simp [hx]
    have kn : IntKind.i64.wrap ((j : Int) + 1) = ((j + 1 : Nat) : Int) := wrap_succ (by omega)
    obtain ⟨rows', e1, e2⟩ := mrows_set ⟨x.toArray⟩ j hj hr
    have hS : S x = .val (.string ⟨x.toArray⟩) := rfl
    simp -implicitDefEqProofs [h7, h8, h9, h3, k1, hx, hx2, kn, hS, e1, mpOf_blk, -decide_eq_true_eq, -decide_eq_false_iff_not, -List.any_eq_true, -List.any_eq_false, -bne_iff_ne, -beq_iff_eq, -beq_eq_false_iff_ne, -bne_eq_false_iff_eq]
    exact ⟨rows', by funext m; simp; split <;> rfl, e2⟩
  · rintro ⟨t, h1, c1⟩ ⟨h7, h8, h9, h3, hc, rows, hh, hr⟩
    simp only at h7 h8 h9 h3 hc hh
    subst hc hh
    simp -implicitDefEqProofs [h7, h8, h9, h3, -decide_eq_true_eq, -decide_eq_false_iff_not, -List.any_eq_true, -List.any_eq_false, -bne_iff_ne, -beq_iff_eq, -beq_eq_false_iff_ne, -bne_eq_false_iff_eq]
    exact ⟨rows, rfl, hr⟩
theorem close_nil (s : St) : ∃ t', closeW (exL Tryz.prog mA) 0 0 0 (.val .nilIface) s = some ⟨t', s.h, s.c⟩ := by
  unfold closeW
  simp -implicitDefEqProofs [restC, Tryz.f180, ifcA, -decide_eq_true_eq, -decide_eq_false_iff_not, -List.any_eq_true, -List.any_eq_false, -bne_iff_ne, -beq_iff_eq, -beq_eq_false_iff_ne, -bne_eq_false_iff_eq]
theorem close_pan (s : St) (n : Int) {x0 : AV} {T : Option Nat} (h0 : s.h 0 = some ⟨1, [[x0]], T⟩) : ∃ t', closeW (exL Tryz.prog mA) 0 0 0 (.val (.iface 27 (.int .i64 n))) s = some ⟨t', s.h.put 0 (some ⟨1, [[I n]], T⟩), s.c⟩ := by
  unfold closeW
  simp -implicitDefEqProofs [restC, Tryz.f180, ifcA, h0, -decide_eq_true_eq, -decide_eq_false_iff_not, -List.any_eq_true, -List.any_eq_false, -bne_iff_ne, -beq_iff_eq, -beq_eq_false_iff_ne, -bne_eq_false_iff_eq]
end Go.Proofs.YtmpcjfkfgjpebaaGreatDoor.AM
namespace Go.Proofs.YtmpcjfkfgjpebaaGreatDoor.AM
open Go Go.Proofs
attribute [local simp] fieldAddrA ld setCells stA skipV appendA hd makeA bnd kindA freshA killOk loadsAt edgesOn Region.binds newT empT lay_get allocA buildA buildRow lenA els indexAddrA isNil opA evA lit_int lit_bool lit_nil lit_nilf yldA binI unA pickA boolV intV fieldA mk eqs nilC mayP
theorem names_ok {X : Cx} {na : Nat} (h : RowsOk na X.rows) : NamesOk X na := fun s => mrows_get s h
/-- A text that is one expression. -/
theorem whole_ev (nb : Bool) (ns : List Str) (hn : ns.length ≤ 1000) (s : Str) (hs : s.length ≤ 400) :
    ∃ (v : AV) (e : Int) (h' : Heap) (c' : Nat), gWhole [.ro true [], .ro nb (strs ns), S s] Heap.none 0 = some (.tup [v, I e], h', c') ∧
      ((e = 0 ∧ ∃ ops, OutG 2 108 h' c' v (opsE ops) ∧ Bal ns.length ops ∧ ops.length ≤ 60) ∨ (e ≠ 0 ∧ v = .ro true [])) := by
  obtain ⟨rows, e1, hr⟩ := places_ev nb ns hn (Heap.none.put 0 (some ⟨1, [[I 0]], some 27⟩)) 1
  obtain ⟨X, hX⟩ : ∃ X : Cx, X = ⟨s, 1, 2, 0, rows, ⟨1, [[I 0]], some 27⟩⟩ := ⟨_, rfl⟩
  have x1 : X.s = s := by rw [hX]
  have x2 : X.nb = 2 := by rw [hX]
  have x3 : X.ml = 1 := by rw [hX]
  have x4 : X.z = 0 := by rw [hX]
  have x5 : X.zb = ⟨1, [[I 0]], some 27⟩ := by rw [hX]
  have x6 : X.rows = rows := by rw [hX]
  have hA : exL Tryz.prog mA (.region 0 opsWA false) ⟨init [.ro true [], .ro nb (strs ns), S s], Heap.none, 0⟩ = some (.normal, ⟨upd (upd (init [.ro true [], .ro nb (strs ns), S s]) (some 6) (.ro true [])) (some 7) (.ptr 0 0 0), Heap.none.put 0 (some ⟨1, [[I 0]], some 27⟩), 1⟩) := by
    simp -implicitDefEqProofs [opsWA, -decide_eq_true_eq, -decide_eq_false_iff_not, -List.any_eq_true, -List.any_eq_false, -bne_iff_ne, -beq_iff_eq, -beq_eq_false_iff_ne, -bne_eq_false_iff_eq]
  unfold gWhole gW
  rw [hA]
  simp only [Option.bind_some, upd_some, if_true]
  generalize hh3 : ((Heap.none.put 0 (some ⟨1, [[I 0]], some 27⟩)).put 1 (some (mpBlk rows))).put 2 (some (rdB X (0 : Nat) (.ro true []) 0 0)) = h3
  have R : Rd X h3 3 0 [] := by
    refine ⟨by omega, by omega, by omega, by omega, by omega, by rw [x1]; omega, by omega, by simp, ?_, ?_, .ro true [], 0, 0, ?_, OutG.nil _ _ _ _, by simp, by simp, by simp⟩
    · rw [x3, ← hh3, x6]; simp
    · rw [x4, ← hh3, x5]; simp
    · rw [x2, ← hh3]; simp
  have hb3 : rdB X (0 : Nat) (.ro true []) 0 0 = ⟨7, [[S s, I 0, .ro true [], .mp 1, .ro true [], I 0, I 0]], some 236⟩ := by rw [hX]; rfl
  rw [hb3] at hh3
  have pan : ∀ (t : Nat → AV) (h4 : Heap) (c4 : Nat) (n : Int) (r : Option (Ex × St)), r = some (.pan 27 .i64 n, ⟨t, h4, c4⟩) → t 6 = .ro true [] → t 7 = .ptr 0 0 0 → n ≠ 0 → h4 0 = some ⟨1, [[I 0]], some 27⟩ →
      ∃ (v : AV) (e : Int) (h' : Heap) (c' : Nat), r.bind (endW (exL Tryz.prog mA) 0 0 0) = some (.tup [v, I e], h', c') ∧
        ((e = 0 ∧ ∃ ops, OutG 2 108 h' c' v (opsE ops) ∧ Bal ns.length ops ∧ ops.length ≤ 60) ∨ (e ≠ 0 ∧ v = .ro true [])) := by
    rintro t h4 c4 n r rfl t6 t7 hn h0
    obtain ⟨t', hcl⟩ := close_pan ⟨t, h4, c4⟩ n h0
    refine ⟨.ro true [], n, h4.put 0 (some ⟨1, [[I n]], some 27⟩), c4, ?_, .inr ⟨hn, rfl⟩⟩
    simp -implicitDefEqProofs [endW, recW, h0, hcl, t6, t7, Tryz.f153, -decide_eq_true_eq, -decide_eq_false_iff_not, -List.any_eq_true, -List.any_eq_false, -bne_iff_ne, -beq_iff_eq, -beq_eq_false_iff_ne, -bne_eq_false_iff_eq]
  have ee := expr_ev (names_ok (X := X) (na := ns.length) (by rw [x6]; exact hr)) 0 h3 3 [] R
  rw [x2] at ee
  rcases ee with ⟨h4, c4, j, b, e2, lj, R4, B4, q4⟩ | ⟨n, h4, c4, e2, hn0, hz⟩
  rotate_left
  · rw [x4, x5] at hz
    refine pan _ h4 c4 n _ (by
      simp -implicitDefEqProofs [restW, Tryz.f153, e1, hh3, e2, -decide_eq_true_eq, -decide_eq_false_iff_not, -List.any_eq_true, -List.any_eq_false, -bne_iff_ne, -beq_iff_eq, -beq_eq_false_iff_ne, -bne_eq_false_iff_eq]
      rfl) (by simp) (by simp) hn0 hz
  simp only [List.nil_append] at R4
  obtain ⟨v, a1, b1, hb4, O4, n1, n2, n3⟩ := R4.blk
  have hz4 := R4.hz
  have hsz := size_ev R4
  rw [x4, x5] at hz4
  rw [x2] at hb4 n1 hsz
  rw [x4] at n3
  have hb4' : h4 2 = some ⟨7, [[S s, I (j : Nat), .ro true [], .mp 1, v, I a1, I b1]], some 236⟩ := by rw [hb4, hX]
  cases g1 : decide (j < s.length)
  rotate_left
  · refine pan _ h4 c4 14 _ (by
      simp -implicitDefEqProofs [restW, Tryz.f153, e1, hh3, e2, hb4', g1, fail_c, -decide_eq_true_eq, -decide_eq_false_iff_not, -List.any_eq_true, -List.any_eq_false, -bne_iff_ne, -beq_iff_eq, -beq_eq_false_iff_ne, -bne_eq_false_iff_eq]
      rfl) (by simp) (by simp) (by decide) hz4
  rcases hsz with ⟨e3, hops⟩ | e3
  rotate_left
  · refine pan _ h4 c4 4 _ (by
      simp -implicitDefEqProofs [restW, Tryz.f153, e1, hh3, e2, hb4', g1, e3, -decide_eq_true_eq, -decide_eq_false_iff_not, -List.any_eq_true, -List.any_eq_false, -bne_iff_ne, -beq_iff_eq, -beq_eq_false_iff_ne, -bne_eq_false_iff_eq]
      rfl) (by simp) (by simp) (by decide) hz4
  obtain ⟨q1, q2, q3⟩ := O4.nopan
  have fin : ∀ (t : Nat → AV), t 6 = v → t 7 = .ptr 0 0 0 → ∀ r : Option (Ex × St), r = some (.ret, ⟨t, h4.put 0 (some ⟨1, [[I 0]], some 27⟩), c4⟩) →
      ∃ (v : AV) (e : Int) (h' : Heap) (c' : Nat), r.bind (endW (exL Tryz.prog mA) 0 0 0) = some (.tup [v, I e], h', c') ∧
        ((e = 0 ∧ ∃ ops, OutG 2 108 h' c' v (opsE ops) ∧ Bal ns.length ops ∧ ops.length ≤ 60) ∨ (e ≠ 0 ∧ v = .ro true [])) := by
    rintro t t6 t7 r rfl
    obtain ⟨t', hcl⟩ := close_nil ⟨t, h4.put 0 (some ⟨1, [[I 0]], some 27⟩), c4⟩
    refine ⟨v, 0, h4.put 0 (some ⟨1, [[I 0]], some 27⟩), c4, ?_, .inl ⟨rfl, b, O4.frame (Nat.le_refl _) fun m hm _ => ?_, B4, hops⟩⟩
    · simp -implicitDefEqProofs [endW, recW, hcl, t6, t7, Tryz.f153, -decide_eq_true_eq, -decide_eq_false_iff_not, -List.any_eq_true, -List.any_eq_false, -bne_iff_ne, -beq_iff_eq, -beq_eq_false_iff_ne, -bne_eq_false_iff_eq]
    · have : m ≠ 0 := fun e => n3 (by rw [hm, e])
      simp [this]
  refine fin _ ?_ ?_ _ (by
    simp -implicitDefEqProofs [restW, Tryz.f153, e1, hh3, e2, hb4', g1, e3, hz4, q1, q2, q3, -decide_eq_true_eq, -decide_eq_false_iff_not, -List.any_eq_true, -List.any_eq_false, -bne_iff_ne, -beq_iff_eq, -beq_eq_false_iff_ne, -bne_eq_false_iff_eq]
    rfl)
  · simp
  · simp
end Go.Proofs.YtmpcjfkfgjpebaaGreatDoor.AM
namespace Go.Proofs.YtmpcjfkfgjpebaaGreatDoor.AM
open Go Go.Proofs
attribute [local simp] fieldAddrA ld setCells stA skipV appendA hd makeA bnd kindA freshA killOk loadsAt edgesOn Region.binds newT empT lay_get allocA buildA buildRow lenA els indexAddrA isNil opA evA lit_int lit_bool lit_nil lit_nilf yldA binI unA pickA boolV intV fieldA mk eqs nilC mayP
theorem idx_ge (l : Str) (x : UInt8) : -1 ≤ Lib.indexByte l x := Lib.indexByte_ge l x
theorem idx_lt (x : UInt8) : ∀ l : Str, Lib.indexByte l x < l.length
  | [] => by simp [Lib.indexByte]
  | b :: l => by
    have := idx_lt x l
    unfold Lib.indexByte
    simp only [List.length_cons]
    split
    · omega
    · split <;> omega
/-- A text's part ahead of its first blank, what stands behind it, and whether there is one. -/
def cutP (s : Str) : Str × Str × Bool := if 0 ≤ Lib.indexByte s 32 then (s.take (Lib.indexByte s 32).toNat, s.drop ((Lib.indexByte s 32).toNat + 1), true) else (s, [], false)
theorem cutP_len (s : Str) : (cutP s).1.length ≤ s.length ∧ (cutP s).2.1.length ≤ s.length := by
  unfold cutP
  split <;> simp <;> omega
theorem cutP_more {s : Str} (h : (cutP s).2.1 ≠ []) : (cutP s).2.2 = true := by
  unfold cutP at h ⊢
  split
  · rfl
  · rename_i g; rw [if_neg g] at h; exact absurd rfl h
theorem ix_c {orc : Orc} (s : Str) (h : Heap) (c : Nat) : callA mZ orc 119 [S s, S [32]] h c = some (I (Lib.indexByte s 32), h, c) := extA (g := gIndex) rfl (fun _ => rfl) rfl rfl h c
theorem cutI_ev (s : Str) (hs : s.length ≤ 1000000) : ∃ h c, run Tryz.prog mZ 84 [S s, S [32]] Heap.none 0 = some (.tup [S (cutP s).1, S (cutP s).2.1, B (cutP s).2.2], h, c) := by
  rw [run_eq (show mZ 84 = some .pure from rfl) rfl, Tryz.func84]
  have h1 := idx_ge s 32
  have h2 := idx_lt 32 s
  unfold cutP
  by_cases g : 0 ≤ Lib.indexByte s 32
  · rw [if_pos g]
    obtain ⟨n, hn⟩ : ∃ n : Nat, Lib.indexByte s 32 = n := ⟨(Lib.indexByte s 32).toNat, by omega⟩
    rw [hn] at h2 g ⊢
    have ei := fun h c => ix_c (orc := run Tryz.prog mZ) s h c
    rw [hn] at ei
    have kw : IntKind.i64.wrap ((n : Int) + 1) = ((n + 1 : Nat) : Int) := wrap_succ (by omega)
    have k2 : n ≤ s.length := by omega
    have k3 : n + 1 ≤ s.length := by omega
    have k4 : ((n + 1 : Nat) : Int) ≤ (s.length : Int) := by omega
    simp only [Int.toNat_natCast]
    obtain ⟨q, hq⟩ : ∃ q, q = n + 1 := ⟨_, rfl⟩
    rw [← hq] at kw k3 k4 ⊢
    have k5 : decide ((0 : Int) ≤ (n : Int)) = true := by simp
    have ht : List.take s.length s = s := List.take_length
    simp -implicitDefEqProofs [Tryz.f84, ei, kw, k2, k3, k4, ht, -decide_eq_true_eq, -decide_eq_false_iff_not, -List.any_eq_true, -List.any_eq_false, -bne_iff_ne, -beq_iff_eq, -beq_eq_false_iff_ne, -bne_eq_false_iff_eq]
  · rw [if_neg g]
    have k5 : decide ((0 : Int) ≤ Lib.indexByte s 32) = false := by simp; omega
    simp -implicitDefEqProofs [Tryz.f84, ix_c, k5, -decide_eq_true_eq, -decide_eq_false_iff_not, -List.any_eq_true, -List.any_eq_false, -bne_iff_ne, -beq_iff_eq, -beq_eq_false_iff_ne, -bne_eq_false_iff_eq]
theorem cutI_c (s : Str) (hs : s.length ≤ 1000000) (h : Heap) (c : Nat) : callA mZ (run Tryz.prog mZ) 84 [S s, S [32]] h c = some (.tup [S (cutP s).1, S (cutP s).2.1, B (cutP s).2.2], h, c) := by
  obtain ⟨h', c', e⟩ := cutI_ev s hs
  exact call_of rfl rfl e rfl rfl
theorem cut_ev (s : Str) (hs : s.length ≤ 1000000) : ∃ h c, run Tryz.prog mZ 52 [S s, S [32]] Heap.none 0 = some (.tup [S (cutP s).1, S (cutP s).2.1, B (cutP s).2.2], h, c) := by
  rw [run_eq (show mZ 52 = some .pure from rfl) rfl, Tryz.func52]
  have e := fun h c => cutI_c s hs h c
  simp -implicitDefEqProofs [Tryz.f52, e, -decide_eq_true_eq, -decide_eq_false_iff_not, -List.any_eq_true, -List.any_eq_false, -bne_iff_ne, -beq_iff_eq, -beq_eq_false_iff_ne, -bne_eq_false_iff_eq]
theorem cut_c (s : Str) (hs : s.length ≤ 1000000) (h : Heap) (c : Nat) : callA mZ (run Tryz.prog mZ) 52 [S s, S [32]] h c = some (.tup [S (cutP s).1, S (cutP s).2.1, B (cutP s).2.2], h, c) := by
  obtain ⟨h', c', e⟩ := cut_ev s hs
  exact call_of rfl rfl e rfl rfl
/-- The words of the language. -/
def wordP (s : Str) : Bool := s == ([108, 101, 116] : Str) || s == ([105, 102] : Str) || s == ([101, 108, 115, 101] : Str) || s == ([119, 104, 105, 108, 101] : Str) || s == ([101, 110, 100] : Str) || s == ([100, 111] : Str) || s == ([97, 115, 107] : Str) || s == ([119, 97, 105, 116] : Str) || s == ([115, 116, 111, 112] : Str) || s == ([109, 105, 110] : Str) || s == ([109, 97, 120] : Str) || s == ([110, 111, 110, 101] : Str) || s == ([121, 101, 115] : Str) || s == ([110, 111] : Str) || s == ([116, 97, 107, 101, 115] : Str) || s == ([109, 97, 107, 101, 115] : Str)
theorem word_s (s : Str) : ∃ h c, run Tryz.prog mZ 90 [S s] Heap.none 0 = some (B (wordP s), h, c) := by
  rw [run_eq (show mZ 90 = some .pure from rfl) rfl, Tryz.func90]
  cases g0 : (s == ([108, 101, 116] : Str))
  rotate_left
  · have e : wordP s = true := by simp only [wordP, g0, Bool.false_or, Bool.true_or, Bool.or_true]
    simp -implicitDefEqProofs [Tryz.f90, e, g0, -decide_eq_true_eq, -decide_eq_false_iff_not, -List.any_eq_true, -List.any_eq_false, -bne_iff_ne, -beq_iff_eq, -beq_eq_false_iff_ne, -bne_eq_false_iff_eq]
  cases g1 : (s == ([105, 102] : Str))
  rotate_left
  · have e : wordP s = true := by simp only [wordP, g0, g1, Bool.false_or, Bool.true_or, Bool.or_true]
    simp -implicitDefEqProofs [Tryz.f90, e, g0, g1, -decide_eq_true_eq, -decide_eq_false_iff_not, -List.any_eq_true, -List.any_eq_false, -bne_iff_ne, -beq_iff_eq, -beq_eq_false_iff_ne, -bne_eq_false_iff_eq]
  cases g2 : (s == ([101, 108, 115, 101] : Str))
  rotate_left
  · have e : wordP s = true := by simp only [wordP, g0, g1, g2, Bool.false_or, Bool.true_or, Bool.or_true]
    simp -implicitDefEqProofs [Tryz.f90, e, g0, g1, g2, -decide_eq_true_eq, -decide_eq_false_iff_not, -List.any_eq_true, -List.any_eq_false, -bne_iff_ne, -beq_iff_eq, -beq_eq_false_iff_ne, -bne_eq_false_iff_eq]
  cases g3 : (s == ([119, 104, 105, 108, 101] : Str))
  rotate_left
  · have e : wordP s = true := by simp only [wordP, g0, g1, g2, g3, Bool.false_or, Bool.true_or, Bool.or_true]
    simp -implicitDefEqProofs [Tryz.f90, e, g0, g1, g2, g3, -decide_eq_true_eq, -decide_eq_false_iff_not, -List.any_eq_true, -List.any_eq_false, -bne_iff_ne, -beq_iff_eq, -beq_eq_false_iff_ne, -bne_eq_false_iff_eq]
  cases g4 : (s == ([101, 110, 100] : Str))
  rotate_left
  · have e : wordP s = true := by simp only [wordP, g0, g1, g2, g3, g4, Bool.false_or, Bool.true_or, Bool.or_true]
    simp -implicitDefEqProofs [Tryz.f90, e, g0, g1, g2, g3, g4, -decide_eq_true_eq, -decide_eq_false_iff_not, -List.any_eq_true, -List.any_eq_false, -bne_iff_ne, -beq_iff_eq, -beq_eq_false_iff_ne, -bne_eq_false_iff_eq]
  cases g5 : (s == ([100, 111] : Str))
  rotate_left
  · have e : wordP s = true := by simp only [wordP, g0, g1, g2, g3, g4, g5, Bool.false_or, Bool.true_or, Bool.or_true]
    simp -implicitDefEqProofs [Tryz.f90, e, g0, g1, g2, g3, g4, g5, -decide_eq_true_eq, -decide_eq_false_iff_not, -List.any_eq_true, -List.any_eq_false, -bne_iff_ne, -beq_iff_eq, -beq_eq_false_iff_ne, -bne_eq_false_iff_eq]
  cases g6 : (s == ([97, 115, 107] : Str))
  rotate_left
  · have e : wordP s = true := by simp only [wordP, g0, g1, g2, g3, g4, g5, g6, Bool.false_or, Bool.true_or, Bool.or_true]
    simp -implicitDefEqProofs [Tryz.f90, e, g0, g1, g2, g3, g4, g5, g6, -decide_eq_true_eq, -decide_eq_false_iff_not, -List.any_eq_true, -List.any_eq_false, -bne_iff_ne, -beq_iff_eq, -beq_eq_false_iff_ne, -bne_eq_false_iff_eq]
  cases g7 : (s == ([119, 97, 105, 116] : Str))
  rotate_left
  · have e : wordP s = true := by simp only [wordP, g0, g1, g2, g3, g4, g5, g6, g7, Bool.false_or, Bool.true_or, Bool.or_true]
    simp -implicitDefEqProofs [Tryz.f90, e, g0, g1, g2, g3, g4, g5, g6, g7, -decide_eq_true_eq, -decide_eq_false_iff_not, -List.any_eq_true, -List.any_eq_false, -bne_iff_ne, -beq_iff_eq, -beq_eq_false_iff_ne, -bne_eq_false_iff_eq]
  cases g8 : (s == ([115, 116, 111, 112] : Str))
  rotate_left
  · have e : wordP s = true := by simp only [wordP, g0, g1, g2, g3, g4, g5, g6, g7, g8, Bool.false_or, Bool.true_or, Bool.or_true]
    simp -implicitDefEqProofs [Tryz.f90, e, g0, g1, g2, g3, g4, g5, g6, g7, g8, -decide_eq_true_eq, -decide_eq_false_iff_not, -List.any_eq_true, -List.any_eq_false, -bne_iff_ne, -beq_iff_eq, -beq_eq_false_iff_ne, -bne_eq_false_iff_eq]
  cases g9 : (s == ([109, 105, 110] : Str))
  rotate_left
  · have e : wordP s = true := by simp only [wordP, g0, g1, g2, g3, g4, g5, g6, g7, g8, g9, Bool.false_or, Bool.true_or, Bool.or_true]
    simp -implicitDefEqProofs [Tryz.f90, e, g0, g1, g2, g3, g4, g5, g6, g7, g8, g9, -decide_eq_true_eq, -decide_eq_false_iff_not, -List.any_eq_true, -List.any_eq_false, -bne_iff_ne, -beq_iff_eq, -beq_eq_false_iff_ne, -bne_eq_false_iff_eq]
  cases g10 : (s == ([109, 97, 120] : Str))
  rotate_left
  · have e : wordP s = true := by simp only [wordP, g0, g1, g2, g3, g4, g5, g6, g7, g8, g9, g10, Bool.false_or, Bool.true_or, Bool.or_true]
    simp -implicitDefEqProofs [Tryz.f90, e, g0, g1, g2, g3, g4, g5, g6, g7, g8, g9, g10, -decide_eq_true_eq, -decide_eq_false_iff_not, -List.any_eq_true, -List.any_eq_false, -bne_iff_ne, -beq_iff_eq, -beq_eq_false_iff_ne, -bne_eq_false_iff_eq]
  cases g11 : (s == ([110, 111, 110, 101] : Str))
  rotate_left
  · have e : wordP s = true := by simp only [wordP, g0, g1, g2, g3, g4, g5, g6, g7, g8, g9, g10, g11, Bool.false_or, Bool.true_or, Bool.or_true]
    simp -implicitDefEqProofs [Tryz.f90, e, g0, g1, g2, g3, g4, g5, g6, g7, g8, g9, g10, g11, -decide_eq_true_eq, -decide_eq_false_iff_not, -List.any_eq_true, -List.any_eq_false, -bne_iff_ne, -beq_iff_eq, -beq_eq_false_iff_ne, -bne_eq_false_iff_eq]
  cases g12 : (s == ([121, 101, 115] : Str))
  rotate_left
  · have e : wordP s = true := by simp only [wordP, g0, g1, g2, g3, g4, g5, g6, g7, g8, g9, g10, g11, g12, Bool.false_or, Bool.true_or, Bool.or_true]
    simp -implicitDefEqProofs [Tryz.f90, e, g0, g1, g2, g3, g4, g5, g6, g7, g8, g9, g10, g11, g12, -decide_eq_true_eq, -decide_eq_false_iff_not, -List.any_eq_true, -List.any_eq_false, -bne_iff_ne, -beq_iff_eq, -beq_eq_false_iff_ne, -bne_eq_false_iff_eq]
  cases g13 : (s == ([110, 111] : Str))
  rotate_left
  · have e : wordP s = true := by simp only [wordP, g0, g1, g2, g3, g4, g5, g6, g7, g8, g9, g10, g11, g12, g13, Bool.false_or, Bool.true_or, Bool.or_true]
    simp -implicitDefEqProofs [Tryz.f90, e, g0, g1, g2, g3, g4, g5, g6, g7, g8, g9, g10, g11, g12, g13, -decide_eq_true_eq, -decide_eq_false_iff_not, -List.any_eq_true, -List.any_eq_false, -bne_iff_ne, -beq_iff_eq, -beq_eq_false_iff_ne, -bne_eq_false_iff_eq]
  cases g14 : (s == ([116, 97, 107, 101, 115] : Str))
  rotate_left
  · have e : wordP s = true := by simp only [wordP, g0, g1, g2, g3, g4, g5, g6, g7, g8, g9, g10, g11, g12, g13, g14, Bool.false_or, Bool.true_or, Bool.or_true]
    simp -implicitDefEqProofs [Tryz.f90, e, g0, g1, g2, g3, g4, g5, g6, g7, g8, g9, g10, g11, g12, g13, g14, -decide_eq_true_eq, -decide_eq_false_iff_not, -List.any_eq_true, -List.any_eq_false, -bne_iff_ne, -beq_iff_eq, -beq_eq_false_iff_ne, -bne_eq_false_iff_eq]
  cases g15 : (s == ([109, 97, 107, 101, 115] : Str))
  rotate_left
  · have e : wordP s = true := by simp only [wordP, g0, g1, g2, g3, g4, g5, g6, g7, g8, g9, g10, g11, g12, g13, g14, g15, Bool.false_or, Bool.true_or, Bool.or_true]
    simp -implicitDefEqProofs [Tryz.f90, e, g0, g1, g2, g3, g4, g5, g6, g7, g8, g9, g10, g11, g12, g13, g14, g15, -decide_eq_true_eq, -decide_eq_false_iff_not, -List.any_eq_true, -List.any_eq_false, -bne_iff_ne, -beq_iff_eq, -beq_eq_false_iff_ne, -bne_eq_false_iff_eq]
  have e : wordP s = false := by simp only [wordP, g0, g1, g2, g3, g4, g5, g6, g7, g8, g9, g10, g11, g12, g13, g14, g15, Bool.false_or]
  simp -implicitDefEqProofs [Tryz.f90, e, g0, g1, g2, g3, g4, g5, g6, g7, g8, g9, g10, g11, g12, g13, g14, g15, -decide_eq_true_eq, -decide_eq_false_iff_not, -List.any_eq_true, -List.any_eq_false, -bne_iff_ne, -beq_iff_eq, -beq_eq_false_iff_ne, -bne_eq_false_iff_eq]
theorem word_c (s : Str) (h : Heap) (c : Nat) : callA mZ (run Tryz.prog mZ) 90 [S s] h c = some (B (wordP s), h, c) := by
  obtain ⟨h', c', e⟩ := word_s s
  exact call_of rfl rfl e rfl rfl
/-- A name. -/
def nameP (s : Str) : Bool := s.all letb && decide (1 ≤ s.length) && decide (s.length ≤ 12) && !wordP s
theorem take_all {α : Type} (f : α → Bool) {l : List α} {j : Nat} {x : α} (hx : l[j]? = some x) (h : (l.take j).all f = true) : (l.take (j + 1)).all f = f x := by
  rw [List.take_add_one, hx, List.all_append, h]
  simp
theorem name_ev (s : Str) (hs : s.length ≤ 1000000) : ∃ h c, run Tryz.prog mZ 57 [S s] Heap.none 0 = some (B (nameP s), h, c) := by
  rw [run_eq (show mZ 57 = some .pure from rfl) rfl, Tryz.func57]
  simp -implicitDefEqProofs [Tryz.f57, Option.bind_assoc, -decide_eq_true_eq, -decide_eq_false_iff_not, -List.any_eq_true, -List.any_eq_false, -bne_iff_ne, -beq_iff_eq, -beq_eq_false_iff_ne, -bne_eq_false_iff_eq]
  refine loop_to (R := fun (o : Option (AV × Heap × Nat)) => ∃ h c, o = some (B (nameP s), h, c))
    (fun k st => ∃ n : Nat, k = s.length - n ∧ st.t 0 = S s ∧ st.t 5 = I s.length ∧ st.t 6 = I n ∧ n ≤ s.length ∧ (s.take n).all letb = true)
    (fun e st => (e = .exit 0 ∧ st.t 0 = S s ∧ s.all letb = true) ∨ (e = .ret ∧ st.t 2 = B false ∧ s.all letb = false)) ?_ ?_ s.length _ ?_
  · rintro k ⟨t, h, c⟩ ⟨n, rfl, h0, h5, h6, hn, hp⟩
    simp only at h0 h5 h6
    by_cases g : n < s.length
    · have k1 : decide (n < s.length) = true := by simp [g]
      obtain ⟨x, hx⟩ : ∃ x, s[n]? = some x := ⟨s[n], by simp [g]⟩
      have kn : IntKind.i64.wrap ((n : Int) + 1) = ((n + 1 : Nat) : Int) := wrap_succ (by omega)
      have hno : letb x = false → s.all letb = false := by
        intro h
        rw [List.all_eq_false]
        exact ⟨x, List.mem_of_getElem? hx, by simp [h]⟩
      cases g1 : decide ((x.toNat : Int) < 97)
      · cases g2 : decide (122 < (x.toNat : Int))
        · have hl : letb x = true := by
            unfold letb
            simp at g1 g2 ⊢
            omega
          simp -implicitDefEqProofs [h0, h5, h6, k1, hx, g1, g2, kn, to_normal, to_exit, to_ret, -decide_eq_true_eq, -decide_eq_false_iff_not, -List.any_eq_true, -List.any_eq_false, -bne_iff_ne, -beq_iff_eq, -beq_eq_false_iff_ne, -bne_eq_false_iff_eq]
          exact ⟨s.length - (n + 1), by omega, n + 1, rfl, rfl, by omega, by have h5 := take_all letb hx hp; rw [hl] at h5; simpa using h5⟩
        · have hl : letb x = false := by
            unfold letb
            simp at g1 g2 ⊢
            omega
          simp -implicitDefEqProofs [h0, h5, h6, k1, hx, g1, g2, kn, to_normal, to_exit, to_ret, hno hl, -decide_eq_true_eq, -decide_eq_false_iff_not, -List.any_eq_true, -List.any_eq_false, -bne_iff_ne, -beq_iff_eq, -beq_eq_false_iff_ne, -bne_eq_false_iff_eq]
      · have hl : letb x = false := by
          unfold letb
          simp at g1 ⊢
          omega
        simp -implicitDefEqProofs [h0, h5, h6, k1, hx, g1, kn, to_normal, to_exit, to_ret, hno hl, -decide_eq_true_eq, -decide_eq_false_iff_not, -List.any_eq_true, -List.any_eq_false, -bne_iff_ne, -beq_iff_eq, -beq_eq_false_iff_ne, -bne_eq_false_iff_eq]
    · have k1 : decide (n < s.length) = false := by simp; omega
      have ha : s.all letb = true := by rw [← hp, List.take_of_length_le (by omega)]
      simp -implicitDefEqProofs [h0, h5, h6, k1, to_normal, to_exit, to_ret, ha, -decide_eq_true_eq, -decide_eq_false_iff_not, -List.any_eq_true, -List.any_eq_false, -bne_iff_ne, -beq_iff_eq, -beq_eq_false_iff_ne, -bne_eq_false_iff_eq]
  · rintro e ⟨t, h, c⟩ (⟨rfl, h0, ha⟩ | ⟨rfl, h2, ha⟩)
    · simp only at h0
      cases g3 : decide ((1 : Int) ≤ (s.length : Int))
      · have e : nameP s = false := by
          have g3' : decide (1 ≤ s.length) = false := by rw [decide_eq_false_iff_not] at g3 ⊢; omega
          simp only [nameP, g3', ha, Bool.and_false, Bool.false_and]
        simp -implicitDefEqProofs [h0, g3, e, -decide_eq_true_eq, -decide_eq_false_iff_not, -List.any_eq_true, -List.any_eq_false, -bne_iff_ne, -beq_iff_eq, -beq_eq_false_iff_ne, -bne_eq_false_iff_eq]
      · have g3' : decide (1 ≤ s.length) = true := by rw [decide_eq_true_eq] at g3 ⊢; omega
        cases g4 : decide ((s.length : Int) ≤ 12)
        · have e : nameP s = false := by
            have g4' : decide (s.length ≤ 12) = false := by rw [decide_eq_false_iff_not] at g4 ⊢; omega
            simp only [nameP, g4', ha, Bool.and_false, Bool.false_and]
          simp -implicitDefEqProofs [h0, g3, g4, e, -decide_eq_true_eq, -decide_eq_false_iff_not, -List.any_eq_true, -List.any_eq_false, -bne_iff_ne, -beq_iff_eq, -beq_eq_false_iff_ne, -bne_eq_false_iff_eq]
        · have g4' : decide (s.length ≤ 12) = true := by rw [decide_eq_true_eq] at g4 ⊢; omega
          have e : nameP s = !wordP s := by simp only [nameP, g3', g4', ha, Bool.true_and]
          simp -implicitDefEqProofs [h0, g3, g4, e, word_c, -decide_eq_true_eq, -decide_eq_false_iff_not, -List.any_eq_true, -List.any_eq_false, -bne_iff_ne, -beq_iff_eq, -beq_eq_false_iff_ne, -bne_eq_false_iff_eq]
    · simp only at h2
      have e : nameP s = false := by simp only [nameP, ha, Bool.false_and]
      simp -implicitDefEqProofs [h2, e, -decide_eq_true_eq, -decide_eq_false_iff_not, -List.any_eq_true, -List.any_eq_false, -bne_iff_ne, -beq_iff_eq, -beq_eq_false_iff_ne, -bne_eq_false_iff_eq]
  · exact ⟨0, by simp, by simp, by simp, by simp, Nat.zero_le _, by simp⟩
theorem name_c (s : Str) (hs : s.length ≤ 1000000) (h : Heap) (c : Nat) : callA mZ (run Tryz.prog mZ) 57 [S s] h c = some (B (nameP s), h, c) := by
  obtain ⟨h', c', e⟩ := name_ev s hs
  exact call_of rfl rfl e rfl rfl
end Go.Proofs.YtmpcjfkfgjpebaaGreatDoor.AM
namespace Go.Proofs.YtmpcjfkfgjpebaaGreatDoor.AM
open Go Go.Proofs
attribute [local simp] fieldAddrA ld setCells stA skipV appendA hd makeA bnd kindA freshA killOk loadsAt edgesOn Region.binds newT empT lay_get allocA buildA buildRow lenA els indexAddrA isNil opA evA lit_int lit_bool lit_nil lit_nilf yldA binI unA pickA boolV intV fieldA mk eqs nilC mayP
/-- What so many rounds tell, 'run' tells. -/
theorem run_of {P : Program} {md : Nat → Option CMode} {n f : Nat} {args : List AV} {h : Heap} {c : Nat} {v : AV} (e : (callN P md n f args h c).map (·.1) = some v) : ∃ h' c', run P md f args h c = some (v, h', c') := by
  obtain ⟨⟨r, h', c'⟩, e1, e2⟩ := Option.map_eq_some_iff.mp e
  cases e2
  exact ⟨h', c', run_some.mpr ⟨n, e1⟩⟩
theorem check_0 : (callN Tryz.prog mZ 40 59 [.ro true []] Heap.none 0).map (·.1) = some (E 0) := by kernel_rfl
theorem check_c (h : Heap) (c : Nat) : callA mZ (run Tryz.prog mZ) 59 [.ro true []] h c = some (E 0, h, c) := by
  obtain ⟨h', c', e⟩ := run_of check_0
  exact call_of rfl rfl e rfl rfl
theorem map_take' (l : List Str) (n : Nat) : List.take n (strs l) = strs (l.take n) := by simp
/-- Is a text among others? -/
def hasP (l : List Str) (x : Str) : Bool := l.contains x
theorem hasP_iff {l : List Str} {x : Str} : hasP l x = true ↔ x ∈ l := by simp [hasP]
theorem take_has {l : List Str} {x y : Str} {j : Nat} (hx : l[j]? = some y) (h : hasP (l.take j) x = false) : hasP (l.take (j + 1)) x = (x == y) := by
  unfold hasP at h ⊢
  rw [List.take_add_one, hx]
  simp only [Option.toList_some, List.contains_eq_mem, List.mem_append, List.mem_singleton] at h ⊢
  have h' : ¬ x ∈ l.take j := by simpa using h
  by_cases g : x = y
  · simp [g]
  · simp [g, h']
def HasOut (b : Bool) (o : Option (AV × Heap × Nat)) : Prop := ∃ (k : Int) (h : Heap) (c : Nat), o = some (I k, h, c) ∧ decide (0 ≤ k) = b
def BoolOut (o : Option (AV × Heap × Nat)) : Prop := ∃ (b : Bool) (h : Heap) (c : Nat), o = some (B b, h, c)
theorem sidx_ev (nb : Bool) (l : List Str) (x : Str) (hl : l.length ≤ 1000000) : HasOut (hasP l x) (run Tryz.prog mZ 91 [.ro nb (strs l), S x] Heap.none 0) := by
  rw [run_eq (show mZ 91 = some .pure from rfl) rfl, Tryz.func91]
  simp -implicitDefEqProofs [Tryz.f91, Option.bind_assoc, -decide_eq_true_eq, -decide_eq_false_iff_not, -List.any_eq_true, -List.any_eq_false, -bne_iff_ne, -beq_iff_eq, -beq_eq_false_iff_ne, -bne_eq_false_iff_eq]
  refine loop_to (R := HasOut _)
    (fun k st => ∃ n : Nat, k = l.length - n ∧ st.t 0 = .ro nb (strs l) ∧ st.t 1 = S x ∧ st.t 7 = I l.length ∧ st.t 8 = I n ∧ n ≤ l.length ∧ hasP (l.take n) x = false)
    (fun e st => (e = .exit 0 ∧ hasP l x = false) ∨ (e = .ret ∧ ∃ n : Nat, st.t 4 = I n ∧ hasP l x = true)) ?_ ?_ l.length _ ?_
  · rintro k ⟨t, h, c⟩ ⟨n, rfl, h0, h1, h7, h8, hn, hp⟩
    simp only at h0 h1 h7 h8
    by_cases g : n < l.length
    · have k1 : decide (n < l.length) = true := by simp [g]
      obtain ⟨y, hy⟩ : ∃ y, l[n]? = some y := ⟨l[n], by simp [g]⟩
      have kn : IntKind.i64.wrap ((n : Int) + 1) = ((n + 1 : Nat) : Int) := wrap_succ (by omega)
      have ht := take_has hy hp
      cases g1 : (x == y)
      · simp -implicitDefEqProofs [h0, h1, h7, h8, k1, hy, g1, kn, to_normal, to_exit, to_ret, -decide_eq_true_eq, -decide_eq_false_iff_not, -List.any_eq_true, -List.any_eq_false, -bne_iff_ne, -beq_iff_eq, -beq_eq_false_iff_ne, -bne_eq_false_iff_eq]
        exact ⟨l.length - (n + 1), by omega, n + 1, rfl, rfl, by omega, by rw [ht, g1]⟩
      · have hc : hasP l x = true := by
          simp only [beq_iff_eq] at g1
          rw [g1, hasP_iff]
          exact List.mem_of_getElem? hy
        simp -implicitDefEqProofs [h0, h1, h7, h8, k1, hy, g1, kn, to_normal, to_exit, to_ret, -decide_eq_true_eq, -decide_eq_false_iff_not, -List.any_eq_true, -List.any_eq_false, -bne_iff_ne, -beq_iff_eq, -beq_eq_false_iff_ne, -bne_eq_false_iff_eq]
        exact ⟨⟨n, rfl⟩, hc⟩
    · have k1 : decide (n < l.length) = false := by simp; omega
      have ha : hasP l x = false := by rw [← hp, List.take_of_length_le (by omega)]
      simp -implicitDefEqProofs [h0, h1, h7, h8, k1, to_normal, to_exit, to_ret, -decide_eq_true_eq, -decide_eq_false_iff_not, -List.any_eq_true, -List.any_eq_false, -bne_iff_ne, -beq_iff_eq, -beq_eq_false_iff_ne, -bne_eq_false_iff_eq]
      exact ha
  · rintro e ⟨t, h, c⟩ (⟨rfl, ha⟩ | ⟨rfl, n, h4, ha⟩)
    · rw [ha]
      simp -implicitDefEqProofs [-decide_eq_true_eq, -decide_eq_false_iff_not, -List.any_eq_true, -List.any_eq_false, -bne_iff_ne, -beq_iff_eq, -beq_eq_false_iff_ne, -bne_eq_false_iff_eq]
      exact ⟨_, _, _, rfl, by decide⟩
    · simp only at h4
      rw [ha]
      simp -implicitDefEqProofs [h4, -decide_eq_true_eq, -decide_eq_false_iff_not, -List.any_eq_true, -List.any_eq_false, -bne_iff_ne, -beq_iff_eq, -beq_eq_false_iff_ne, -bne_eq_false_iff_eq]
      exact ⟨_, _, _, rfl, by simp⟩
  · exact ⟨0, by simp, by simp, by simp, by simp, by simp, Nat.zero_le _, by simp [hasP]⟩
theorem has_ev (nb : Bool) (l : List Str) (x : Str) (hl : l.length ≤ 1000000) : ∃ h c, run Tryz.prog mZ 58 [.ro nb (strs l), S x] Heap.none 0 = some (B (hasP l x), h, c) := by
  rw [run_eq (show mZ 58 = some .pure from rfl) rfl, Tryz.func58]
  obtain ⟨k, h', c', e, hk⟩ := sidx_ev nb l x hl
  have e2 : ∀ h c, callA mZ (run Tryz.prog mZ) 91 [.ro nb (strs l), S x] h c = some (I k, h, c) := fun h c => call_of rfl rfl e rfl rfl
  simp -implicitDefEqProofs [Tryz.f58, e2, hk, -decide_eq_true_eq, -decide_eq_false_iff_not, -List.any_eq_true, -List.any_eq_false, -bne_iff_ne, -beq_iff_eq, -beq_eq_false_iff_ne, -bne_eq_false_iff_eq]
theorem has_c (nb : Bool) (l : List Str) (x : Str) (hl : l.length ≤ 1000000) (h : Heap) (c : Nat) : callA mZ (run Tryz.prog mZ) 58 [.ro nb (strs l), S x] h c = some (B (hasP l x), h, c) := by
  obtain ⟨h', c', e⟩ := has_ev nb l x hl
  exact call_of rfl rfl e rfl rfl
theorem reserved_ev (s : Str) : ∃ b h c, run Tryz.prog mZ 158 [S s] Heap.none 0 = some (B b, h, c) := by
  rw [run_eq (show mZ 158 = some .pure from rfl) rfl, Tryz.func158]
  cases g0 : (s == ([109, 105, 110] : Str))
  rotate_left
  · refine ⟨true, ?_⟩
    simp -implicitDefEqProofs [Tryz.f158, g0, -decide_eq_true_eq, -decide_eq_false_iff_not, -List.any_eq_true, -List.any_eq_false, -bne_iff_ne, -beq_iff_eq, -beq_eq_false_iff_ne, -bne_eq_false_iff_eq]
  cases g1 : (s == ([109, 97, 120] : Str))
  rotate_left
  · refine ⟨true, ?_⟩
    simp -implicitDefEqProofs [Tryz.f158, g0, g1, -decide_eq_true_eq, -decide_eq_false_iff_not, -List.any_eq_true, -List.any_eq_false, -bne_iff_ne, -beq_iff_eq, -beq_eq_false_iff_ne, -bne_eq_false_iff_eq]
  cases g2 : (s == ([110, 111, 110, 101] : Str))
  rotate_left
  · refine ⟨true, ?_⟩
    simp -implicitDefEqProofs [Tryz.f158, g0, g1, g2, -decide_eq_true_eq, -decide_eq_false_iff_not, -List.any_eq_true, -List.any_eq_false, -bne_iff_ne, -beq_iff_eq, -beq_eq_false_iff_ne, -bne_eq_false_iff_eq]
  cases g3 : (s == ([121, 101, 115] : Str))
  rotate_left
  · refine ⟨true, ?_⟩
    simp -implicitDefEqProofs [Tryz.f158, g0, g1, g2, g3, -decide_eq_true_eq, -decide_eq_false_iff_not, -List.any_eq_true, -List.any_eq_false, -bne_iff_ne, -beq_iff_eq, -beq_eq_false_iff_ne, -bne_eq_false_iff_eq]
  cases g4 : (s == ([110, 111] : Str))
  rotate_left
  · refine ⟨true, ?_⟩
    simp -implicitDefEqProofs [Tryz.f158, g0, g1, g2, g3, g4, -decide_eq_true_eq, -decide_eq_false_iff_not, -List.any_eq_true, -List.any_eq_false, -bne_iff_ne, -beq_iff_eq, -beq_eq_false_iff_ne, -bne_eq_false_iff_eq]
  cases g5 : (s == ([116, 97, 107, 101, 115] : Str))
  rotate_left
  · refine ⟨true, ?_⟩
    simp -implicitDefEqProofs [Tryz.f158, g0, g1, g2, g3, g4, g5, -decide_eq_true_eq, -decide_eq_false_iff_not, -List.any_eq_true, -List.any_eq_false, -bne_iff_ne, -beq_iff_eq, -beq_eq_false_iff_ne, -bne_eq_false_iff_eq]
  cases g6 : (s == ([109, 97, 107, 101, 115] : Str))
  rotate_left
  · refine ⟨true, ?_⟩
    simp -implicitDefEqProofs [Tryz.f158, g0, g1, g2, g3, g4, g5, g6, -decide_eq_true_eq, -decide_eq_false_iff_not, -List.any_eq_true, -List.any_eq_false, -bne_iff_ne, -beq_iff_eq, -beq_eq_false_iff_ne, -bne_eq_false_iff_eq]
  refine ⟨false, ?_⟩
  simp -implicitDefEqProofs [Tryz.f158, g0, g1, g2, g3, g4, g5, g6, -decide_eq_true_eq, -decide_eq_false_iff_not, -List.any_eq_true, -List.any_eq_false, -bne_iff_ne, -beq_iff_eq, -beq_eq_false_iff_ne, -bne_eq_false_iff_eq]
theorem tname_ev (s : Str) (hs : s.length ≤ 1000000) : ∃ b h c, run Tryz.prog mZ 155 [S s] Heap.none 0 = some (B b, h, c) := by
  rw [run_eq (show mZ 155 = some .pure from rfl) rfl, Tryz.func155]
  obtain ⟨b, h', c', e⟩ := reserved_ev s
  have e2 : ∀ h c, callA mZ (run Tryz.prog mZ) 158 [S s] h c = some (B b, h, c) := fun h c => call_of rfl rfl e rfl rfl
  have e3 := fun h c => letters_c (md := mZ) rfl s (by omega) h c
  cases g1 : decide ((1 : Int) ≤ (s.length : Int))
  · exact ⟨false, by simp -implicitDefEqProofs [Tryz.f155, g1, -decide_eq_true_eq, -decide_eq_false_iff_not, -List.any_eq_true, -List.any_eq_false, -bne_iff_ne, -beq_iff_eq, -beq_eq_false_iff_ne, -bne_eq_false_iff_eq]⟩
  · cases g2 : decide ((s.length : Int) ≤ 12)
    · exact ⟨false, by simp -implicitDefEqProofs [Tryz.f155, g1, g2, -decide_eq_true_eq, -decide_eq_false_iff_not, -List.any_eq_true, -List.any_eq_false, -bne_iff_ne, -beq_iff_eq, -beq_eq_false_iff_ne, -bne_eq_false_iff_eq]⟩
    · cases g3 : (((letP s : Nat) : Int) == (s.length : Int))
      · exact ⟨false, by simp -implicitDefEqProofs [Tryz.f155, g1, g2, e3, g3, -decide_eq_true_eq, -decide_eq_false_iff_not, -List.any_eq_true, -List.any_eq_false, -bne_iff_ne, -beq_iff_eq, -beq_eq_false_iff_ne, -bne_eq_false_iff_eq]⟩
      · exact ⟨!b, by simp -implicitDefEqProofs [Tryz.f155, g1, g2, e3, g3, e2, -decide_eq_true_eq, -decide_eq_false_iff_not, -List.any_eq_true, -List.any_eq_false, -bne_iff_ne, -beq_iff_eq, -beq_eq_false_iff_ne, -bne_eq_false_iff_eq]⟩
theorem unlike_ev (nb : Bool) (l : List Str) (hl : l.length ≤ 1000000) (hs : ∀ s ∈ l, s.length ≤ 1000000) : BoolOut (run Tryz.prog mZ 152 [.ro nb (strs l)] Heap.none 0) := by
  rw [run_eq (show mZ 152 = some .pure from rfl) rfl, Tryz.func152]
  simp -implicitDefEqProofs [Tryz.f152, Option.bind_assoc, -decide_eq_true_eq, -decide_eq_false_iff_not, -List.any_eq_true, -List.any_eq_false, -bne_iff_ne, -beq_iff_eq, -beq_eq_false_iff_ne, -bne_eq_false_iff_eq]
  refine loop_to (R := BoolOut)
    (fun k st => ∃ n : Nat, k = l.length - n ∧ st.t 0 = .ro nb (strs l) ∧ st.t 5 = .ro nb (strs l) ∧ st.t 6 = I l.length ∧ st.t 7 = I n ∧ n ≤ l.length)
    (fun e st => e = .exit 0 ∨ (e = .ret ∧ st.t 2 = B false)) ?_ ?_ l.length _ ?_
  · rintro k ⟨t, h, c⟩ ⟨n, rfl, h0, h5, h6, h7, hn⟩
    simp only at h0 h5 h6 h7
    by_cases g : n < l.length
    · have k1 : decide (n < l.length) = true := by simp [g]
      obtain ⟨y, hy⟩ : ∃ y, l[n]? = some y := ⟨l[n], by simp [g]⟩
      have kn : IntKind.i64.wrap ((n : Int) + 1) = ((n + 1 : Nat) : Int) := wrap_succ (by omega)
      obtain ⟨b, h', c', e⟩ := tname_ev y (hs y (List.mem_of_getElem? hy))
      have e2 : ∀ h c, callA mZ (run Tryz.prog mZ) 155 [S y] h c = some (B b, h, c) := fun h c => call_of rfl rfl e rfl rfl
      have e3 := fun h c => has_c nb (l.take n) y (by simp; omega) h c
      simp only [strs, List.map_take] at e3
      have hd1 : AM.hd (strs l) 1 = true := hd_strs l
      have k2 : n ≤ l.length := by omega
      have k3 : (n : Int) ≤ (l.length : Int) := by omega
      cases b
      · simp -implicitDefEqProofs [h0, h5, h6, h7, k1, hy, kn, e2, to_normal, to_exit, to_ret, -decide_eq_true_eq, -decide_eq_false_iff_not, -List.any_eq_true, -List.any_eq_false, -bne_iff_ne, -beq_iff_eq, -beq_eq_false_iff_ne, -bne_eq_false_iff_eq]
      · cases g2 : (hasP (l.take n) y)
        · simp -implicitDefEqProofs [h0, h5, h6, h7, k1, hy, kn, e2, e3, -AM.hd, hd1, k2, k3, g2, sliceA, to_normal, to_exit, to_ret, -decide_eq_true_eq, -decide_eq_false_iff_not, -List.any_eq_true, -List.any_eq_false, -bne_iff_ne, -beq_iff_eq, -beq_eq_false_iff_ne, -bne_eq_false_iff_eq]
          exact ⟨l.length - (n + 1), by omega, n + 1, rfl, rfl, by omega⟩
        · simp -implicitDefEqProofs [h0, h5, h6, h7, k1, hy, kn, e2, e3, -AM.hd, hd1, k2, k3, g2, sliceA, to_normal, to_exit, to_ret, -decide_eq_true_eq, -decide_eq_false_iff_not, -List.any_eq_true, -List.any_eq_false, -bne_iff_ne, -beq_iff_eq, -beq_eq_false_iff_ne, -bne_eq_false_iff_eq]
    · have k1 : decide (n < l.length) = false := by simp; omega
      simp -implicitDefEqProofs [h0, h5, h6, h7, k1, to_normal, to_exit, to_ret, -decide_eq_true_eq, -decide_eq_false_iff_not, -List.any_eq_true, -List.any_eq_false, -bne_iff_ne, -beq_iff_eq, -beq_eq_false_iff_ne, -bne_eq_false_iff_eq]
  · rintro e ⟨t, h, c⟩ (rfl | ⟨rfl, h2⟩)
    · simp -implicitDefEqProofs [-decide_eq_true_eq, -decide_eq_false_iff_not, -List.any_eq_true, -List.any_eq_false, -bne_iff_ne, -beq_iff_eq, -beq_eq_false_iff_ne, -bne_eq_false_iff_eq]
      exact ⟨_, _, _, rfl⟩
    · simp only at h2
      simp -implicitDefEqProofs [h2, -decide_eq_true_eq, -decide_eq_false_iff_not, -List.any_eq_true, -List.any_eq_false, -bne_iff_ne, -beq_iff_eq, -beq_eq_false_iff_ne, -bne_eq_false_iff_eq]
      exact ⟨_, _, _, rfl⟩
  · exact ⟨0, by simp, by simp, by simp, by simp, by simp, Nat.zero_le _⟩
/-- An expression is read. -/
theorem expr_call (nb : Bool) (ns : List Str) (hn : ns.length ≤ 1000) (hs : ∀ s ∈ ns, s.length ≤ 1000000) (s : Str) (hl : s.length ≤ 1000000) :
    ∃ (v : AV) (e : Int) (h' : Heap) (c' : Nat), run Tryz.prog mZ 120 [.ro true [], .ro nb (strs ns), S s] Heap.none 0 = some (.tup [v, E e], h', c') ∧
      ((e = 0 ∧ ∃ ops, OutG 2 108 h' c' v (opsE ops) ∧ Bal ns.length ops ∧ ops.length ≤ 60) ∨ (e ≠ 0 ∧ v = .ro true [])) := by
  rw [run_eq (show mZ 120 = some .pure from rfl) rfl, Tryz.func120]
  obtain ⟨b, h', c', e⟩ := unlike_ev nb ns (by omega) hs
  have e2 : ∀ h c, callA mZ (run Tryz.prog mZ) 152 [.ro nb (strs ns)] h c = some (B b, h, c) := fun h c => call_of rfl rfl e rfl rfl
  cases b
  · refine ⟨.ro true [], 1, Heap.none, 0, ?_, .inr ⟨by decide, rfl⟩⟩
    simp -implicitDefEqProofs [Tryz.f120, check_c, e2, -decide_eq_true_eq, -decide_eq_false_iff_not, -List.any_eq_true, -List.any_eq_false, -bne_iff_ne, -beq_iff_eq, -beq_eq_false_iff_ne, -bne_eq_false_iff_eq]
  · cases g1 : decide (16 < (ns.length : Int))
    · cases g2 : decide (400 < (s.length : Int))
      · obtain ⟨v, e, h', c', e3, H⟩ := whole_ev nb ns hn s (by simp at g2; omega)
        have e4 : callA mZ (run Tryz.prog mZ) 153 [.ro true [], .ro nb (strs ns), S s] Heap.none 0 = some (.tup [v, I e], h', c') := by
          rw [← e3]; rfl
        have hv : v.isPan = false := by
          rcases H with ⟨_, ops, O, _⟩ | ⟨_, rfl⟩
          · exact O.nopan.1
          · rfl
        refine ⟨v, e, h', c', ?_, H⟩
        simp -implicitDefEqProofs [Tryz.f120, check_c, e2, g1, g2, e4, -decide_eq_true_eq, -decide_eq_false_iff_not, -List.any_eq_true, -List.any_eq_false, -bne_iff_ne, -beq_iff_eq, -beq_eq_false_iff_ne, -bne_eq_false_iff_eq]
      · refine ⟨.ro true [], 4, Heap.none, 0, ?_, .inr ⟨by decide, rfl⟩⟩
        simp -implicitDefEqProofs [Tryz.f120, check_c, e2, g1, g2, -decide_eq_true_eq, -decide_eq_false_iff_not, -List.any_eq_true, -List.any_eq_false, -bne_iff_ne, -beq_iff_eq, -beq_eq_false_iff_ne, -bne_eq_false_iff_eq]
    · refine ⟨.ro true [], 1, Heap.none, 0, ?_, .inr ⟨by decide, rfl⟩⟩
      simp -implicitDefEqProofs [Tryz.f120, check_c, e2, g1, -decide_eq_true_eq, -decide_eq_false_iff_not, -List.any_eq_true, -List.any_eq_false, -bne_iff_ne, -beq_iff_eq, -beq_eq_false_iff_ne, -bne_eq_false_iff_eq]
end Go.Proofs.YtmpcjfkfgjpebaaGreatDoor.AM
namespace Go.Proofs.YtmpcjfkfgjpebaaGreatDoor.AM
open Go Go.Proofs
attribute [local simp] fieldAddrA ld setCells stA skipV appendA hd makeA bnd kindA freshA killOk loadsAt edgesOn Region.binds newT empT lay_get allocA buildA buildRow lenA els indexAddrA isNil opA evA lit_int lit_bool lit_nil lit_nilf yldA binI unA pickA boolV intV fieldA mk eqs nilC mayP
theorem atoi_rng {d : Str} {v : Int} (h : Lib.atoiAll d = .ok v) : -9223372036854775808 ≤ v ∧ v ≤ 9223372036854775807 := by
  cases d with
  | nil => simp [Lib.atoiAll] at h
  | cons x r =>
    unfold Lib.atoiAll at h
    simp only at h
    split at h
    · cases h
    · cases h
    · split at h
      · cases h
      · split at h
        · cases h
        · cases h
          split <;> omega
/-- A number of a command or a question: what it is, and whether it is one. -/
def numP (s : Str) : Int × Bool := match Lib.atoiAll s with
  | .ok v => (v, (Lib.itoa v == s) && decide (0 ≤ v) && decide (v ≤ 99))
  | .«syntax» => (0, false)
  | .range => (Lib.atoiSat s, false)
theorem numP_of {s : Str} (h : (numP s).2 = true) : 0 ≤ (numP s).1 ∧ (numP s).1 ≤ 99 := by
  unfold numP at h ⊢
  split at h
  · simp only [Bool.and_eq_true, decide_eq_true_eq] at h
    exact ⟨h.1.2, h.2⟩
  · cases h
  · cases h
theorem atoiV_c {md : Nat → Option CMode} (hm : md 75 = some (.ext gAtoi)) {orc : Orc} (d : Str) (hd : d.length ≤ 100000) (h : Heap) (c : Nat) : callA md orc 75 [S d] h c = some (match Lib.atoiAll d with | .ok v => .tup [I v, .val .nilIface] | .«syntax» => .tup [I 0, .ifc] | .range => .tup [I (Lib.atoiSat d), .ifc], h, c) := by
  have hg : gAtoi [S d] = if d.length ≤ 281474976710656 then (match Lib.atoiAll d with | .ok v => some (.tup [I v, .val .nilIface]) | .«syntax» => some (.tup [I 0, .ifc]) | .range => some (.tup [I (Lib.atoiSat d), .ifc])) else none := rfl
  rw [if_pos (by omega)] at hg
  cases e : Lib.atoiAll d with
  | ok v => rw [e] at hg; exact extA hm (fun _ => rfl) hg rfl h c
  | range => rw [e] at hg; exact extA hm (fun _ => rfl) hg rfl h c
  | _ => rw [e] at hg; exact extA hm (fun _ => rfl) hg rfl h c
theorem itoa_c {md : Nat → Option CMode} (hm : md 40 = some (.ext gItoa)) {orc : Orc} (n : Int) (h1 : -9223372036854775808 ≤ n) (h2 : n ≤ 9223372036854775807) (h : Heap) (c : Nat) : callA md orc 40 [I n] h c = some (S (Lib.itoa n), h, c) := by
  have hg : gItoa [I n] = if -9223372036854775808 ≤ n ∧ n ≤ 9223372036854775807 then some (S (Lib.itoa n)) else none := rfl
  rw [if_pos ⟨h1, h2⟩] at hg
  exact extA hm (fun _ => rfl) hg rfl h c
theorem num_ev (s : Str) (hs : s.length ≤ 100000) : ∃ h c, run Tryz.prog mZ 82 [S s] Heap.none 0 = some (.tup [I (numP s).1, B (numP s).2], h, c) := by
  rw [run_eq (show mZ 82 = some .pure from rfl) rfl, Tryz.func82]
  have e1 := fun h c => atoiV_c (md := mZ) rfl (orc := run Tryz.prog mZ) s hs h c
  unfold numP
  cases e : Lib.atoiAll s with
  | range =>
    rw [e] at e1
    simp -implicitDefEqProofs [Tryz.f82, e1, ifcA, -decide_eq_true_eq, -decide_eq_false_iff_not, -List.any_eq_true, -List.any_eq_false, -bne_iff_ne, -beq_iff_eq, -beq_eq_false_iff_ne, -bne_eq_false_iff_eq]
  | ok v =>
    rw [e] at e1
    have hr := atoi_rng e
    have e2 := fun h c => itoa_c (md := mZ) rfl (orc := run Tryz.prog mZ) v hr.1 hr.2 h c
    cases g1 : (Lib.itoa v == s)
    · simp -implicitDefEqProofs [Tryz.f82, e1, ifcA, e2, g1, -decide_eq_true_eq, -decide_eq_false_iff_not, -List.any_eq_true, -List.any_eq_false, -bne_iff_ne, -beq_iff_eq, -beq_eq_false_iff_ne, -bne_eq_false_iff_eq]
    · cases g2 : decide (0 ≤ v)
      · simp -implicitDefEqProofs [Tryz.f82, e1, ifcA, e2, g1, g2, -decide_eq_true_eq, -decide_eq_false_iff_not, -List.any_eq_true, -List.any_eq_false, -bne_iff_ne, -beq_iff_eq, -beq_eq_false_iff_ne, -bne_eq_false_iff_eq]
      · cases g3 : decide (v ≤ 99)
        · simp -implicitDefEqProofs [Tryz.f82, e1, ifcA, e2, g1, g2, g3, -decide_eq_true_eq, -decide_eq_false_iff_not, -List.any_eq_true, -List.any_eq_false, -bne_iff_ne, -beq_iff_eq, -beq_eq_false_iff_ne, -bne_eq_false_iff_eq]
        · simp -implicitDefEqProofs [Tryz.f82, e1, ifcA, e2, g1, g2, g3, -decide_eq_true_eq, -decide_eq_false_iff_not, -List.any_eq_true, -List.any_eq_false, -bne_iff_ne, -beq_iff_eq, -beq_eq_false_iff_ne, -bne_eq_false_iff_eq]
  | _ =>
    rw [e] at e1
    simp -implicitDefEqProofs [Tryz.f82, e1, ifcA, -decide_eq_true_eq, -decide_eq_false_iff_not, -List.any_eq_true, -List.any_eq_false, -bne_iff_ne, -beq_iff_eq, -beq_eq_false_iff_ne, -bne_eq_false_iff_eq]
theorem num_c (s : Str) (hs : s.length ≤ 100000) (h : Heap) (c : Nat) : callA mZ (run Tryz.prog mZ) 82 [S s] h c = some (.tup [I (numP s).1, B (numP s).2], h, c) := by
  obtain ⟨h', c', e⟩ := num_ev s hs
  exact call_of rfl rfl e rfl rfl
abbrev wLet : Str := [108, 101, 116]
abbrev wAsk : Str := [97, 115, 107]
/-- What a line tells. -/
def telN (s : Str) : Str := (cutP (cutP s).2.1).1
def telR (s : Str) : Str := (cutP (cutP s).2.1).2.1
def telB (s : Str) : Bool := nameP (telN s) && (((cutP s).1 == wLet) && Lib.hasPrefix (telR s) [61, 32] || ((cutP s).1 == wAsk) && (numP (cutP (telR s)).1).2)
theorem has_pre (orc : Orc) (s : Str) (h : Heap) (c : Nat) : callA mZ orc 83 [S s, S [61, 32]] h c = some (B (Lib.hasPrefix s [61, 32]), h, c) := extA (g := gHas) rfl (fun _ => rfl) rfl rfl h c
theorem tells_ev (s : Str) (hs : s.length ≤ 100000) : ∃ h c, run Tryz.prog mZ 48 [S s] Heap.none 0 = some (.tup [S (telN s), B (telB s)], h, c) := by
  rw [run_eq (show mZ 48 = some .pure from rfl) rfl, Tryz.func48]
  have l1 := cutP_len s
  have l2 := cutP_len (cutP s).2.1
  have l3 := cutP_len (cutP (cutP s).2.1).2.1
  have e1 := fun h c => cut_c s (by omega) h c
  have e2 := fun h c => cut_c (cutP s).2.1 (by omega) h c
  have e3 := fun h c => cut_c (cutP (cutP s).2.1).2.1 (by omega) h c
  have e4 := fun h c => num_c (cutP (cutP (cutP s).2.1).2.1).1 (by omega) h c
  have e5 := fun h c => name_c (cutP (cutP s).2.1).1 (by omega) h c
  have e6 := fun h c => has_pre (run Tryz.prog mZ) (cutP (cutP s).2.1).2.1 h c
  unfold telB telR telN
  generalize (cutP s).1 = a at *
  generalize (cutP s).2.1 = r1 at *
  generalize (cutP r1).1 = n at *
  generalize (cutP r1).2.1 = r2 at *
  generalize (cutP r2).1 = w at *
  generalize (numP w).2 = nb at *
  generalize nameP n = g1 at *
  generalize Lib.hasPrefix r2 [61, 32] = g3 at *
  cases g1
  · simp -implicitDefEqProofs [Tryz.f48, e1, e2, e3, e4, e5, -decide_eq_true_eq, -decide_eq_false_iff_not, -List.any_eq_true, -List.any_eq_false, -bne_iff_ne, -beq_iff_eq, -beq_eq_false_iff_ne, -bne_eq_false_iff_eq]
  · cases g2 : (a == wLet)
    · cases g4 : (a == wAsk)
      · simp -implicitDefEqProofs [Tryz.f48, e1, e2, e3, e4, e5, g2, g4, -decide_eq_true_eq, -decide_eq_false_iff_not, -List.any_eq_true, -List.any_eq_false, -bne_iff_ne, -beq_iff_eq, -beq_eq_false_iff_ne, -bne_eq_false_iff_eq]
      · simp -implicitDefEqProofs [Tryz.f48, e1, e2, e3, e4, e5, g2, g4, -decide_eq_true_eq, -decide_eq_false_iff_not, -List.any_eq_true, -List.any_eq_false, -bne_iff_ne, -beq_iff_eq, -beq_eq_false_iff_ne, -bne_eq_false_iff_eq]
    · cases g3
      · cases g4 : (a == wAsk)
        · simp -implicitDefEqProofs [Tryz.f48, e1, e2, e3, e4, e5, e6, g2, g4, -decide_eq_true_eq, -decide_eq_false_iff_not, -List.any_eq_true, -List.any_eq_false, -bne_iff_ne, -beq_iff_eq, -beq_eq_false_iff_ne, -bne_eq_false_iff_eq]
        · simp -implicitDefEqProofs [Tryz.f48, e1, e2, e3, e4, e5, e6, g2, g4, -decide_eq_true_eq, -decide_eq_false_iff_not, -List.any_eq_true, -List.any_eq_false, -bne_iff_ne, -beq_iff_eq, -beq_eq_false_iff_ne, -bne_eq_false_iff_eq]
      · simp -implicitDefEqProofs [Tryz.f48, e1, e2, e3, e4, e5, e6, g2, -decide_eq_true_eq, -decide_eq_false_iff_not, -List.any_eq_true, -List.any_eq_false, -bne_iff_ne, -beq_iff_eq, -beq_eq_false_iff_ne, -bne_eq_false_iff_eq]
theorem tells_c (s : Str) (hs : s.length ≤ 100000) (h : Heap) (c : Nat) : callA mZ (run Tryz.prog mZ) 48 [S s] h c = some (.tup [S (telN s), B (telB s)], h, c) := by
  obtain ⟨h', c', e⟩ := tells_ev s hs
  exact call_of rfl rfl e rfl rfl
end Go.Proofs.YtmpcjfkfgjpebaaGreatDoor.AM
