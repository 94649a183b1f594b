/- Texts of the proof: part T27. -/
import Derived.Test.YtbaoaodimbcebaaDoorT26
set_option maxHeartbeats 0
set_option maxRecDepth 8000
set_option linter.unusedSimpArgs false
set_option linter.unusedVariables false
set_option linter.unusedSectionVars false
namespace Go.Proofs.YtbaoaodimbcebaaDoor.AM
open Go Go.Proofs
attribute [local simp] fieldAddrA ld setCells stA skipV appendA hd makeA bnd kindA freshA killOk loadsAt newT empT lay_get allocA buildA buildRow lenA els indexAddrA isNil opA evA lit_int lit_bool lit_nil lit_nilf yldA binI unA pickA boolV intV fieldA mk eqs
theorem u_32 (x : UInt8) : ((x.toNat : Int) == 32) = (x == 32) := by
  rw [Bool.eq_iff_iff, beq_iff_eq, beq_iff_eq]
  constructor
  · intro h
    have : x.toNat = 32 := by omega
    exact UInt8.toNat_inj.1 this
  · rintro rfl
    rfl
theorem last_cases (y : Str) : y = [] ∨ ∃ z x, y = z ++ [x] := by
  rcases List.eq_nil_or_concat y with h | ⟨z, x, h⟩
  · exact .inl h
  · exact .inr ⟨z, x, by simpa using h⟩
theorem trimb_ev (l : Str) (hl : l.length ≤ 9000000000000) : ∃ h c, run Tryd.prog (mdT tblT) 44 [S l, U 32] Heap.none 0 = some (S (trimR l), h, c) := by
  rw [run_eq (show mdT tblT 44 = some .pure from rfl) rfl, Tryd.func44]
  simp -implicitDefEqProofs [Tryd.f44, Option.bind_assoc, -decide_eq_true_eq, -decide_eq_false_iff_not, -List.any_eq_true, -List.any_eq_false, -bne_iff_ne, -beq_iff_eq, -beq_eq_false_iff_ne, -bne_eq_false_iff_eq]
  refine loop_to (R := fun (o : Option (AV × Heap × Nat)) => ∃ h c, o = some (S (trimR l), h, c))
    (fun k s => ∃ y : Str, k = y.length ∧ s.t 0 = S y ∧ s.t 1 = .val (.int .u8 32) ∧ trimR y = trimR l ∧ y.length ≤ l.length)
    (fun e s => e = .exit 0 ∧ s.t 0 = S (trimR l)) ?_ ?_ l.length _ ?_
  · rintro k ⟨t, h, c⟩ ⟨y, rfl, h0, h1, ht, hle⟩
    simp only at h0 h1
    rcases last_cases y with rfl | ⟨z, x, rfl⟩
    · simp -implicitDefEqProofs [h0, h1, to_normal, to_exit, to_ret, -decide_eq_true_eq, -decide_eq_false_iff_not, -List.any_eq_true, -List.any_eq_false, -bne_iff_ne, -beq_iff_eq, -beq_eq_false_iff_ne, -bne_eq_false_iff_eq]
      rw [← ht]
      rfl
    · have hle2 : z.length + 1 ≤ l.length := by simpa using hle
      have k2 : IntKind.i64.wrap (z.length : Int) = (z.length : Int) := wrap_id (by omega) (by omega)
      have k1 : IntKind.i64.wrap ((z.length : Int) + 1 - 1) = (z.length : Int) := by rw [Int.add_sub_cancel]; exact k2
      have kp : decide ((0 : Int) < (z.length : Int) + 1) = true := by rw [decide_eq_true_eq]; omega
      have k3 : (z.length : Int) ≤ (z.length : Int) + 1 := by omega
      have kg : (z ++ [x])[z.length]? = some x := by simp
      cases g : (x == (32 : UInt8))
      · have e : x ≠ 32 := by simpa using g
        simp -implicitDefEqProofs [h0, h1, k1, k2, kp, kg, u_32, g, to_normal, to_exit, to_ret, -decide_eq_true_eq, -decide_eq_false_iff_not, -List.any_eq_true, -List.any_eq_false, -bne_iff_ne, -beq_iff_eq, -beq_eq_false_iff_ne, -bne_eq_false_iff_eq]
        rw [← ht, trimR_other z e]
      · have e : x = 32 := beq_iff_eq.1 g
        subst e
        rw [trimR_blank] at ht
        simp -implicitDefEqProofs [h0, h1, k1, k2, k3, kp, kg, u_32, g, to_normal, to_exit, to_ret, -decide_eq_true_eq, -decide_eq_false_iff_not, -List.any_eq_true, -List.any_eq_false, -bne_iff_ne, -beq_iff_eq, -beq_eq_false_iff_ne, -bne_eq_false_iff_eq]
        refine ⟨z.length, by omega, z, rfl, rfl, ht, by omega⟩
  · rintro e ⟨t, h, c⟩ ⟨rfl, h0⟩
    simp only at h0
    simp -implicitDefEqProofs [h0, -decide_eq_true_eq, -decide_eq_false_iff_not, -List.any_eq_true, -List.any_eq_false, -bne_iff_ne, -beq_iff_eq, -beq_eq_false_iff_ne, -bne_eq_false_iff_eq]
  · exact ⟨l, rfl, by simp, by simp, rfl, Nat.le_refl _⟩
theorem trimb_c (l : Str) (hl : l.length ≤ 9000000000000) (h : Heap) (c : Nat) : callA (mdT tblT) (run Tryd.prog (mdT tblT)) 44 [S l, U 32] h c = some (S (trimR l), h, c) := by
  obtain ⟨h', c', e⟩ := trimb_ev l hl
  exact call_of rfl rfl e rfl rfl
theorem trimb_u (l : Str) (hl : l.length ≤ 9000000000000) (h : Heap) (c : Nat) : callA (mdT tblT) (run Tryd.prog (mdT tblT)) 44 [S l, .val (.int .u8 32)] h c = some (S (trimR l), h, c) := trimb_c l hl h c
theorem trim_ev (l : Str) (hl : l.length ≤ 9000000000000) : ∃ h c, run Tryd.prog (mdT tblT) 29 [S l, S [32]] Heap.none 0 = some (S (trimR l), h, c) := by
  rw [run_eq (show mdT tblT 29 = some .pure from rfl) rfl, Tryd.func29]
  have e := fun h c => trimb_c l hl h c
  cases g : (l == ([] : Str))
  · simp -implicitDefEqProofs [Tryd.f29, g, e, -decide_eq_true_eq, -decide_eq_false_iff_not, -List.any_eq_true, -List.any_eq_false, -bne_iff_ne, -beq_iff_eq, -beq_eq_false_iff_ne, -bne_eq_false_iff_eq]
  · have e : l = [] := beq_iff_eq.1 g
    subst e
    simp -implicitDefEqProofs [Tryd.f29, g, trimR_nil, -decide_eq_true_eq, -decide_eq_false_iff_not, -List.any_eq_true, -List.any_eq_false, -bne_iff_ne, -beq_iff_eq, -beq_eq_false_iff_ne, -bne_eq_false_iff_eq]
theorem trim_c (l : Str) (hl : l.length ≤ 9000000000000) (h : Heap) (c : Nat) : callA (mdT tblT) (run Tryd.prog (mdT tblT)) 29 [S l, S [32]] h c = some (S (trimR l), h, c) := by
  obtain ⟨h', c', e⟩ := trim_ev l hl
  exact call_of rfl rfl e rfl rfl
theorem rep_eq (n : Nat) : Lib.repeatL [(32 : UInt8)] n = List.replicate n 32 := by
  induction n with
  | zero => rfl
  | succ n ih =>
    simp [Lib.repeatL] at ih ⊢
    try rw [ih]
    try simp [List.replicate_succ]
theorem rep_c (n : Nat) (hn : n ≤ 100000) (orc : Orc) (h : Heap) (c : Nat) : callA (mdT tblT) orc 27 [S [32], I n] h c = some (S (List.replicate n 32), h, c) := by
  unfold callA
  rw [show mdT tblT 27 = some (.ext repG) from rfl]
  simp only
  have ha : [S [32], I n].mapM (frz h depth) = some [S [32], I n] := rfl
  rw [ha, Option.bind_some]
  have hg : repG [S [32], I n] = some (S (List.replicate n 32)) := by
    show (if _ then some _ else none) = _
    rw [if_pos]
    · show some (AV.val (.string ⟨(Lib.repeatL [(32 : UInt8)] ((n : Int).toNat)).toArray⟩)) = _
      rw [Int.toNat_natCast, rep_eq]
      rfl
    · refine ⟨by omega, by omega, ?_⟩
      show 1 * (n : Int).toNat ≤ _
      omega
  rw [hg]
  rfl
end Go.Proofs.YtbaoaodimbcebaaDoor.AM
