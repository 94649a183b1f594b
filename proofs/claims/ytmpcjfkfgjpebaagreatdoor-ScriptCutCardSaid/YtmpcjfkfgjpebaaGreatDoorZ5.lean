/- Texts of the proof: part Z5. -/
import Derived.Test.YtmpcjfkfgjpebaaGreatDoorZ4
set_option maxHeartbeats 0
set_option maxRecDepth 8000
set_option linter.unusedSimpArgs false
set_option linter.unusedVariables false
set_option linter.unusedSectionVars false
namespace Go.Proofs.YtmpcjfkfgjpebaaGreatDoor.AM
open Go Go.Proofs
attribute [local simp] fieldAddrA ld setCells stA skipV appendA hd makeA bnd kindA freshA killOk loadsAt edgesOn Region.binds newT empT lay_get allocA buildA buildRow lenA els indexAddrA isNil opA evA lit_int lit_bool lit_nil lit_nilf yldA binI unA pickA boolV intV fieldA mk eqs nilC mayP
def letb (x : UInt8) : Bool := decide (97 ≤ (x.toNat : Int)) && decide ((x.toNat : Int) ≤ 122)
def letP (l : Str) : Nat := (l.takeWhile letb).length
theorem letP_le (l : Str) : letP l ≤ l.length := (List.takeWhile_prefix letb).length_le
theorem letP_cons (x : UInt8) (l : Str) : letP (x :: l) = if letb x then letP l + 1 else 0 := by
  unfold letP
  rw [List.takeWhile_cons]
  split <;> simp
theorem drop_at {α : Type} {l : List α} {n : Nat} {x : α} (h : l[n]? = some x) : l.drop n = x :: l.drop (n + 1) := by
  have hn := (List.getElem?_eq_some_iff.1 h).1
  rw [List.drop_eq_getElem_cons hn]
  rw [List.getElem?_eq_getElem hn] at h
  cases h
  rfl
theorem letters_ev {md : Nat → Option CMode} (hm : md 185 = some .pure) (l : Str) (hl : l.length ≤ 9000000000000) : ∃ h c, run Tryz.prog md 185 [S l] Heap.none 0 = some (I (letP l), h, c) := by
  rw [run_eq hm rfl, Tryz.func185]
  simp -implicitDefEqProofs [Tryz.f185, Option.bind_assoc, -decide_eq_true_eq, -decide_eq_false_iff_not, -List.any_eq_true, -List.any_eq_false, -bne_iff_ne, -beq_iff_eq, -beq_eq_false_iff_ne, -bne_eq_false_iff_eq]
  refine loop_to (R := fun (o : Option (AV × Heap × Nat)) => ∃ h c, o = some (I (letP l), h, c))
    (fun k s => ∃ n : Nat, k = l.length - n ∧ s.t 0 = S l ∧ s.t 3 = I n ∧ n ≤ l.length ∧ letP l = n + letP (l.drop n))
    (fun e s => e = .exit 0 ∧ s.t 3 = I (letP l)) ?_ ?_ l.length _ ?_
  · rintro k ⟨t, h, c⟩ ⟨n, rfl, h0, h3, hn, hp⟩
    simp only at h0 h3
    by_cases g : n < l.length
    · have k1 : decide (n < l.length) = true := by simp [g]
      obtain ⟨x, hx⟩ : ∃ x, l[n]? = some x := ⟨l[n], by simp [g]⟩
      have kn : IntKind.i64.wrap ((n : Int) + 1) = ((n + 1 : Nat) : Int) := wrap_succ (by omega)
      rw [drop_at hx, letP_cons] at hp
      cases g1 : decide (97 ≤ (x.toNat : Int))
      · have g3 : letb x = false := by unfold letb; rw [g1]; rfl
        rw [g3] at hp
        simp -implicitDefEqProofs [h0, h3, k1, hx, g1, to_normal, to_exit, to_ret, -decide_eq_true_eq, -decide_eq_false_iff_not, -List.any_eq_true, -List.any_eq_false, -bne_iff_ne, -beq_iff_eq, -beq_eq_false_iff_ne, -bne_eq_false_iff_eq]
        simp at hp
        omega
      · cases g2 : decide ((x.toNat : Int) ≤ 122)
        · have g3 : letb x = false := by unfold letb; rw [g1, g2]; rfl
          rw [g3] at hp
          simp -implicitDefEqProofs [h0, h3, k1, hx, g1, g2, to_normal, to_exit, to_ret, -decide_eq_true_eq, -decide_eq_false_iff_not, -List.any_eq_true, -List.any_eq_false, -bne_iff_ne, -beq_iff_eq, -beq_eq_false_iff_ne, -bne_eq_false_iff_eq]
          simp at hp
          omega
        · have g3 : letb x = true := by unfold letb; rw [g1, g2]; rfl
          rw [g3] at hp
          simp -implicitDefEqProofs [h0, h3, k1, hx, g1, g2, kn, to_normal, to_exit, to_ret, -decide_eq_true_eq, -decide_eq_false_iff_not, -List.any_eq_true, -List.any_eq_false, -bne_iff_ne, -beq_iff_eq, -beq_eq_false_iff_ne, -bne_eq_false_iff_eq]
          refine ⟨l.length - (n + 1), by omega, n + 1, rfl, by omega, by omega, ?_⟩
          simp at hp
          omega
    · have k1 : decide (n < l.length) = false := by simp; omega
      have : letP (l.drop n) = 0 := by rw [List.drop_eq_nil_of_le (by omega)]; rfl
      simp -implicitDefEqProofs [h0, h3, k1, to_normal, to_exit, to_ret, -decide_eq_true_eq, -decide_eq_false_iff_not, -List.any_eq_true, -List.any_eq_false, -bne_iff_ne, -beq_iff_eq, -beq_eq_false_iff_ne, -bne_eq_false_iff_eq]
      omega
  · rintro e ⟨t, h, c⟩ ⟨rfl, h3⟩
    simp only at h3
    simp -implicitDefEqProofs [h3, -decide_eq_true_eq, -decide_eq_false_iff_not, -List.any_eq_true, -List.any_eq_false, -bne_iff_ne, -beq_iff_eq, -beq_eq_false_iff_ne, -bne_eq_false_iff_eq]
  · exact ⟨0, by simp, by simp, by simp, by omega, by simp⟩
theorem letters_c {md : Nat → Option CMode} (hm : md 185 = some .pure) (l : Str) (hl : l.length ≤ 9000000000000) (h : Heap) (c : Nat) : callA md (run Tryz.prog md) 185 [S l] h c = some (I (letP l), h, c) := by
  obtain ⟨h', c', e⟩ := letters_ev hm l hl
  exact call_of hm rfl e rfl rfl
/-- Letters that must stand next. -/
theorem word_ev {X : Cx} {h : Heap} {c : Nat} {i : Nat} {ops : List (Int × Int)} (R : Rd X h c i ops) :
    (∃ h' n, callA mA (run Tryz.prog mA) 203 [.ptr X.nb 0 0] h c = some (S ((X.s.drop i).take n), h', c) ∧ 0 < n ∧ i + n ≤ X.s.length ∧ Rd X h' c (i + n) ops) ∨
    callA mA (run Tryz.prog mA) 203 [.ptr X.nb 0 0] h c = some (.pan 27 .i64 14, h, c) := by
  rw [call_heap rfl, run_eq (show mA 203 = some .heap from rfl) rfl, Tryz.func203]
  obtain ⟨v, a, b, hb, _⟩ := R.blk
  have hsl := R.sl
  have hle := R.le
  have hle2 : (i : Int) ≤ (X.s.length : Int) := by omega
  have cl := fun h c => letters_c (md := mA) rfl (X.s.drop i) (by simp; omega) h c
  have hll := letP_le (X.s.drop i)
  rw [List.length_drop] at hll
  obtain ⟨n, hn⟩ : ∃ n, n = letP (X.s.drop i) := ⟨_, rfl⟩
  rw [← hn] at cl hll
  cases g : ((n : Int) == 0)
  · left
    have g0 : 0 < n := by rw [beq_eq_false_iff_ne] at g; omega
    obtain ⟨j, hj⟩ : ∃ j, j = i + n := ⟨_, rfl⟩
    have kw : IntKind.i64.wrap ((i : Int) + (n : Int)) = (j : Int) := by rw [wrap_id (by omega) (by omega)]; omega
    have kw2 : IntKind.i64.wrap ((j : Int) - (n : Int)) = (i : Int) := by rw [wrap_id (by omega) (by omega)]; omega
    have hjl : j ≤ X.s.length := by omega
    have hij : i ≤ j := by omega
    have ht := take_drop X.s i n
    rw [← hj] at ht
    have hd : List.take (X.s.length - i) (X.s.drop i) = X.s.drop i := List.take_of_length_le (by simp)
    refine ⟨h.put X.nb (some (rdB X j v a b)), n, ?_, g0, hj ▸ hjl, hj ▸ R.turn hb j a b hjl (by have := R.ol; omega)⟩
    simp -implicitDefEqProofs [Tryz.f203, hb, cl, g, kw, kw2, hle, hle2, hjl, hij, ht, -decide_eq_true_eq, -decide_eq_false_iff_not, -List.any_eq_true, -List.any_eq_false, -bne_iff_ne, -beq_iff_eq, -beq_eq_false_iff_ne, -bne_eq_false_iff_eq]
  · right
    simp -implicitDefEqProofs [Tryz.f203, hb, cl, g, hle, hle2, fail_c, -decide_eq_true_eq, -decide_eq_false_iff_not, -List.any_eq_true, -List.any_eq_false, -bne_iff_ne, -beq_iff_eq, -beq_eq_false_iff_ne, -bne_eq_false_iff_eq]
end Go.Proofs.YtmpcjfkfgjpebaaGreatDoor.AM
