/- Texts of the proof: part T15. -/
import Derived.Test.YtbaoaodimbcebaaDoorT12
import Derived.Test.YtbaoaodimbcebaaDoorT14
import Derived.Test.YtbaoaodimbcebaaDoorT13
set_option maxHeartbeats 0
set_option maxRecDepth 8000
set_option linter.unusedSimpArgs false
set_option linter.unusedVariables false
set_option linter.unusedSectionVars false
namespace Go.Proofs.YtbaoaodimbcebaaDoor.AM
open Go Go.Proofs
attribute [local simp] fieldAddrA ld setCells stA skipV appendA hd makeA bnd kindA freshA killOk loadsAt newT empT lay_get allocA buildA buildRow lenA els indexAddrA isNil opA evA lit_int lit_bool lit_nil lit_nilf yldA binI unA pickA boolV intV fieldA mk eqs
abbrev byts (bs : Str) : List (List AV) := bs.map fun b => [U b]
/-- A row of bytes of the call's own. -/
def OutB (h : Heap) (c : Nat) (v : AV) (bs : Str) : Prop := (v = .ro true [] ∧ bs = []) ∨ ∃ n, v = .sl n 1 0 bs.length ∧ n < c ∧ h n = some ⟨1, byts bs⟩
theorem outB_one {h : Heap} {c : Nat} {v : AV} {bs : Str} (O : OutB h c v bs) (hl : bs.length ≤ 1000000) (x : UInt8) :
    ∃ v' h', appendA Tryd.prog 29 (h.put c (some ⟨1, [[U x]]⟩)) (c + 1) v (.sl c 1 0 1) = some (v', h', c + 2) ∧ OutB h' (c + 2) v' (bs ++ [x]) := by
  rcases O with ⟨rfl, rfl⟩ | ⟨n, rfl, h2, h3⟩
  · exact ⟨.sl (c + 1) 1 0 1, (h.put c (some ⟨1, [[U x]]⟩)).put (c + 1) (some ⟨1, [[U x]]⟩), by simp [room], .inr ⟨c + 1, rfl, by omega, by simp⟩⟩
  · refine ⟨.sl (c + 1) 1 0 (bs.length + 1), ((h.put c (some ⟨1, [[U x]]⟩)).put n none).put (c + 1) (some ⟨1, byts bs ++ [[U x]]⟩), ?_, .inr ⟨c + 1, by simp, by omega, by simp⟩⟩
    have e1 : ¬ (n = c) := by omega
    have e2 : bs.length + 1 ≤ 140737488355328 := by omega
    simp [room, e1, h3, e2, List.take_of_length_le]
theorem hd_byts (z : Str) : AM.hd (byts z) 1 = true := by cases z <;> rfl
theorem outB_str {h : Heap} {c : Nat} {v : AV} {bs : Str} (O : OutB h c v bs) (hl : bs.length ≤ 1000000) (z : Str) (hz : z.length ≤ 1000000) :
    ∃ v' h' c', appendA Tryd.prog 29 h c v (S z) = some (v', h', c') ∧ OutB h' c' v' (bs ++ z) := by
  cases z with
  | nil =>
    refine ⟨v, h, c, ?_, by simpa using O⟩
    rcases O with ⟨rfl, rfl⟩ | ⟨n, rfl, h2, h3⟩
    · simp
    · simp
  | cons x z =>
    have hz' : z.length + 1 ≤ 1000000 := hz
    rcases O with ⟨rfl, rfl⟩ | ⟨n, rfl, h2, h3⟩
    · have e2 : z.length + 1 ≤ 140737488355328 := by omega
      exact ⟨.sl c 1 0 (z.length + 1), h.put c (some ⟨1, byts (x :: z)⟩), c + 1, by simp [room, e2], .inr ⟨c, by simp, by omega, by simp⟩⟩
    · have e2 : bs.length + (z.length + 1) ≤ 140737488355328 := by omega
      refine ⟨.sl c 1 0 (bs.length + (z.length + 1)), (h.put n none).put c (some ⟨1, byts bs ++ byts (x :: z)⟩), c + 1, ?_, .inr ⟨c, by simp, by omega, by simp⟩⟩
      simp [room, h3, e2, List.take_of_length_le]
theorem bytesM (bs : Str) : (byts bs).mapM byteA = some bs := by
  induction bs with
  | nil => rfl
  | cons b bs ih =>
    have e : byteA [U b] = some b := by
      show some (UInt8.ofNat ((b.toNat : Int).toNat)) = some b
      simp
    simp only [byts, List.map_cons, List.mapM_cons] at ih ⊢
    rw [e, ih]
    rfl
@[simp] theorem un9 : Tryd.prog.underlying 5 = some (.int .u8) := by kernel_rfl
theorem conv_B {h : Heap} {c : Nat} {v : AV} {bs : Str} (O : OutB h c v bs) : convA Tryd.prog 29 9 h v = some (S bs) := by
  have e : els h v = some (byts bs) := by
    rcases O with ⟨rfl, rfl⟩ | ⟨n, rfl, h2, h3⟩
    · rfl
    · simp [h3, List.take_of_length_le]
  unfold convA
  simp only [slT_29, Option.bind_some, un9, stT_9, if_true, e, bytesM, Option.map_some]
  rfl
theorem bare_step {l : Str} {j : Nat} {x : UInt8} (h : l[j]? = some x) : bareP (l.take (j + 1)) = if x = 32 then bareP (l.take j) else bareP (l.take j) ++ [x] := by
  rw [List.take_add_one, h, bare_app]
  by_cases e : x = 32
  · subst e; simp [bareP]
  · simp [bareP, e]
theorem bare_ev (l : Str) (hl : l.length ≤ 100000) : ∃ h c, run Tryd.prog (mdT tblT) 10 [S l] Heap.none 0 = some (S (bareP l), h, c) := by
  rw [run_eq (show mdT tblT 10 = some .pure from rfl) rfl, Tryd.func10]
  simp -implicitDefEqProofs [Tryd.f10, Option.bind_assoc]
  refine count_to (R := fun (o : Option (AV × Heap × Nat)) => ∃ h c, o = some (S (bareP l), h, c)) l.length (fun j s => s.t 0 = S l ∧ s.t 4 = I j ∧ OutB s.h s.c (s.t 3) (bareP (l.take j))) _ ?_ ?_ ?_
  · simp
    exact .inl ⟨rfl, rfl⟩
  · rintro j ⟨t, h, c⟩ ⟨h0, h4, O⟩ hj
    simp only at h0 h4 O
    obtain ⟨x, hx⟩ : ∃ x, l[j]? = some x := ⟨l[j], by simp [hj]⟩
    rw [bare_step hx]
    have k0 : decide (j < l.length) = true := by simp [hj]
    have kj : IntKind.i64.wrap ((j : Int) + 1) = ((j + 1 : Nat) : Int) := wrap_succ (by omega)
    cases g : (x != 32)
    · have e : x = 32 := by simpa using g
      rw [if_pos e]
      simp -implicitDefEqProofs [h0, h4, k0, hx, u_ne, g, kj, -decide_eq_true_eq, -decide_eq_false_iff_not, -beq_iff_eq, -beq_eq_false_iff_ne, -bne_iff_ne, -bne_eq_false_iff_eq]
      exact O
    · have e : x ≠ 32 := by simpa using g
      rw [if_neg e]
      have hfl : (bareP (l.take j)).length ≤ (l.take j).length := List.length_filter_le _ _
      rw [List.length_take] at hfl
      obtain ⟨v', h', ea, O'⟩ := outB_one O (by omega) x
      simp -implicitDefEqProofs [h0, h4, k0, hx, u_ne, g, kj, -appendA, ea, -decide_eq_true_eq, -decide_eq_false_iff_not, -beq_iff_eq, -beq_eq_false_iff_ne, -bne_iff_ne, -bne_eq_false_iff_eq]
      exact O'
  · rintro ⟨t, h, c⟩ ⟨h0, h4, O⟩
    simp only at h0 h4 O
    rw [List.take_length] at O
    have ec := conv_B O
    simp -implicitDefEqProofs [h0, h4, ec]
theorem bare_c (l : Str) (hl : l.length ≤ 100000) (h : Heap) (c : Nat) : callA (mdT tblT) (run Tryd.prog (mdT tblT)) 10 [S l] h c = some (S (bareP l), h, c) := by
  obtain ⟨h', c', e⟩ := bare_ev l hl
  exact call_of rfl rfl e rfl rfl
theorem wrapO_ok {l : Str} {n : Int} (h : (wrapO l n).1 = 0) : 1 ≤ n ∧ n ≤ 400 ∧ l.any oddb = false ∧ (wrapO l n).2 = wrapP n.toNat l ∧ l.length ≤ 20000 := by
  unfold wrapO at h ⊢
  by_cases g : (outP n 1 400 || l.any oddb) = true
  · rw [if_pos g] at h; simp at h
  · rw [if_neg g] at h ⊢
    by_cases g2 : 20000 < l.length
    · rw [if_pos g2] at h; simp at h
    · rw [if_neg g2]
      simp only [Bool.not_eq_true, Bool.or_eq_false_iff] at g
      have := outP_in g.1
      exact ⟨this.1, this.2, g.2, rfl, by omega⟩
theorem wrapO_ln {z : Str} {n : Int} (h1 : 1 ≤ n) (h2 : n ≤ 400) (hz : Ln n.toNat z) : wrapO z n = (0, [z]) := by
  obtain ⟨a, _, b⟩ := wrap_ln hz
  have ho : outP n 1 400 = false := by
    unfold outP
    simp only [Bool.or_eq_false_iff, decide_eq_false_iff_not]
    omega
  have hl := hz.1
  unfold wrapO
  rw [ho, b, if_neg (by simp), if_neg (by omega), a]
theorem law4 (l : Str) (n : Int) : ∃ h c, run Tryd.prog (mdT tblT) 4 [S l, I n] Heap.none 0 = some (B true, h, c) := by
  rw [run_eq (show mdT tblT 4 = some .pure from rfl) rfl, Tryd.func4]
  by_cases g : 30000 < l.length
  · have k : decide (30000 < (l.length : Int)) = true := by simp; omega
    simp -implicitDefEqProofs [Tryd.f4, k, -decide_eq_true_eq, -decide_eq_false_iff_not]
  · have k : decide (30000 < (l.length : Int)) = false := by simp; omega
    obtain ⟨b1, e1⟩ := vwrap_c l n (by omega)
    by_cases g1 : (wrapO l n).1 = 0
    · obtain ⟨n1, n2, hpl, hls, hlen⟩ := wrapO_ok g1
      obtain ⟨w, rfl⟩ : ∃ w : Nat, n = w := ⟨n.toNat, by omega⟩
      have hw : 0 < w := by omega
      have hall := wrapP_ln hw hpl
      have hbare := wrap_bare hw l
      rw [Int.toNat_natCast] at hls
      rw [g1, hls] at e1
      have hcnt : (wrapP w l).length ≤ 20000 := by
        have := fold_len w (wds w l) []
        have h3 := wds_len hw l
        simp only [wrapP, List.length_nil] at this ⊢
        omega
      have htot : (wrapP w l).flatten.length ≤ 100000 := by have := wrap_flat hw l; omega
      generalize wrapP w l = ls at e1 hall hbare hcnt htot
      simp -implicitDefEqProofs [Tryd.f4, k, e1, Option.bind_assoc, -decide_eq_true_eq, -decide_eq_false_iff_not]
      refine count_to (R := fun (o : Option (AV × Heap × Nat)) => ∃ h c, o = some (B true, h, c)) ls.length
        (fun j s => s.t 0 = S l ∧ s.t 1 = I w ∧ s.t 5 = .ro b1 (strs ls) ∧ s.t 8 = I j ∧ OutB s.h s.c (s.t 7) (ls.take j).flatten) _ ?_ ?_ ?_
      · simp
        exact .inl ⟨rfl, rfl⟩
      · rintro j ⟨t, h, c⟩ ⟨h0, h1, h5, h8, O⟩ hj
        simp only at h0 h1 h5 h8 O
        obtain ⟨z, hz⟩ : ∃ z, ls[j]? = some z := ⟨ls[j], by simp [hj]⟩
        have hzm : z ∈ ls := List.mem_of_getElem? hz
        have hln := hall z hzm
        obtain ⟨_, hne, _⟩ := wrap_ln hln
        obtain ⟨b2, e2⟩ := vwrap_c z w (by have := hln.1; omega)
        rw [wrapO_ln n1 n2 (by rw [Int.toNat_natCast]; exact hln)] at e2
        have hfl : (ls.take (j + 1)).flatten = (ls.take j).flatten ++ z := by rw [List.take_add_one, hz]; simp
        rw [hfl]
        have hl2 : (ls.take j).flatten.length ≤ 100000 := by
          have : ls.flatten = (ls.take j).flatten ++ (ls.drop j).flatten := by rw [← List.flatten_append, List.take_append_drop]
          rw [this, List.length_append] at htot
          omega
        obtain ⟨v', h', c', ea, O'⟩ := outB_str O (by omega) z (by have := hln.1; omega)
        have k0 : decide (j < ls.length) = true := by simp [hj]
        have kz : (z == ([] : Str)) = false := by simpa using hne
        have kw : decide (w < z.length) = false := by have := hln.1; simp; omega
        have kj : IntKind.i64.wrap ((j : Int) + 1) = ((j + 1 : Nat) : Int) := wrap_succ (by omega)
        simp -implicitDefEqProofs [h0, h1, h5, h8, k0, hz, kz, kw, kj, e2, -appendA, ea, -decide_eq_true_eq, -decide_eq_false_iff_not, -beq_iff_eq, -beq_eq_false_iff_ne, -bne_iff_ne, -bne_eq_false_iff_eq]
        exact O'
      · rintro ⟨t, h, c⟩ ⟨h0, h1, h5, h8, O⟩
        simp only at h0 h1 h5 h8 O
        rw [List.take_length] at O
        have ec := conv_B O
        have eb1 := fun h c => bare_c ls.flatten htot h c
        have eb2 := fun h c => bare_c l (by omega) h c
        simp -implicitDefEqProofs [h0, h1, h5, h8, ec, eb1, eb2, hbare]
    · have k1 : ((wrapO l n).1 != 0) = true := by simpa using g1
      simp -implicitDefEqProofs [Tryd.f4, k, e1, k1, -decide_eq_true_eq, -decide_eq_false_iff_not, -bne_iff_ne, -bne_eq_false_iff_eq]
theorem pure4 (x0 x1 : AV) (h0 : TyArg Tryd.prog 8 9 x0) (h1 : TyArg Tryd.prog 8 3 x1) : ∃ h c, run Tryd.prog (mdT tblT) 4 [x0, x1] Heap.none 0 = some (B true, h, c) := by
  obtain ⟨l, rfl⟩ := arg9 (n := 7) h0
  obtain ⟨n, rfl⟩ := arg3 (n := 7) h1
  exact law4 l n
end Go.Proofs.YtbaoaodimbcebaaDoor.AM
