/- Texts of the proof: part S10. -/
import Derived.Test.YtgbdbenepnbajaaGreatDoorS9
set_option maxHeartbeats 0
set_option maxRecDepth 8000
set_option linter.unusedSimpArgs false
set_option linter.unusedVariables false
set_option linter.unusedSectionVars false
namespace Go.Proofs.YtgbdbenepnbajaaGreatDoor.AM
open Go Go.Proofs
attribute [local simp] fieldAddrA ld setCells stA skipV appendA hd makeA bnd kindA freshA killOk loadsAt edgesOn Region.binds newT empT lay_get allocA buildA buildRow lenA els indexAddrA isNil opA evA lit_int lit_bool lit_nil lit_nilf yldA binI unA pickA boolV intV fieldA mk eqs eqK nilC mayP sliceA shA
/-- A reader of the reference. -/
abbrev rdB (nb : Bool) (l : List Int) (bad : Bool) : Blk := ⟨2, [[.ro nb (bys l), B bad]], some 116⟩
theorem rone_cons {k : Nat} {h : Heap} {c : Nat} {nb : Bool} {y : Int} {l : List Int} (a : h k = some (rdB nb (y :: l) false)) : callA mL (run Tryz.prog mL) 32 [.ptr k 0 0] h c = some (Y y, h.put k (some (rdB nb l false)), c) := by
  rw [call_heap rfl, run_eq (show mL 32 = some .heap from rfl) rfl, Tryz.func32]
  have g0 : (((l.length : Int) + 1) == 0) = false := by simp; omega
  have g1 : (1 : Int) ≤ (l.length : Int) + 1 := by omega
  simp -implicitDefEqProofs [Tryz.f32, a, g0, g1, tk_bys, -decide_eq_true_eq, -decide_eq_false_iff_not, -List.any_eq_true, -List.any_eq_false, -bne_iff_ne, -beq_iff_eq, -beq_eq_false_iff_ne, -bne_eq_false_iff_eq]
theorem rone_nil {k : Nat} {h : Heap} {c : Nat} {nb : Bool} (a : h k = some (rdB nb [] false)) : callA mL (run Tryz.prog mL) 32 [.ptr k 0 0] h c = some (Y 0, h.put k (some (rdB nb [] true)), c) := by
  rw [call_heap rfl, run_eq (show mL 32 = some .heap from rfl) rfl, Tryz.func32]
  simp -implicitDefEqProofs [Tryz.f32, a, -decide_eq_true_eq, -decide_eq_false_iff_not, -List.any_eq_true, -List.any_eq_false, -bne_iff_ne, -beq_iff_eq, -beq_eq_false_iff_ne, -bne_eq_false_iff_eq]
  rfl
def gI (x : Int) : Int := IntKind.u64.wrap (andI .u8 x 127)
theorem gI_all : ((List.range 256).all fun n => gI (n : Int) == ((n % 128 : Nat) : Int)) = true := by kernel_rfl
theorem gI_eq {x : Int} (h0 : 0 ≤ x) (h1 : x < 256) : gI x = x % 128 := by
  obtain ⟨n, rfl⟩ : ∃ n : Nat, x = n := ⟨x.toNat, by omega⟩
  have := List.all_eq_true.1 gI_all n (by simp; omega)
  rw [beq_iff_eq] at this
  rw [this]
  omega
/-- The reference's number of what was read. -/
def rcI (u : Int) : Int := if andI .u64 u 1 = 1 then IntKind.i64.wrap (notI .u64 (shrI .u64 u 1)) else IntKind.i64.wrap (shrI .u64 u 1)
def NO (nb : Bool) (c0 k : Nat) (h0 : Heap) (res : Option (Int × List Int)) (o : Option (AV × Heap × Nat)) : Prop := ∃ n h', o = some (I n, h', c0) ∧ (∀ m, m ≠ k → h' m = h0 m) ∧
  ((∃ u r, res = some (u, r) ∧ n = rcI u ∧ h' k = some (rdB nb r false)) ∨ (res = none ∧ n = 0 ∧ ∃ l', h' k = some (rdB nb l' true)))
def NI (nb : Bool) (c0 k : Nat) (h0 : Heap) (res : Option (Int × List Int)) (kk : Nat) (st : St) : Prop := ∃ (l : List Int) (u s : Int), kk = l.length ∧ 0 ≤ s ∧ s ≤ 70 ∧ s % 7 = 0 ∧ ((s ≤ 63 ∧ res = vP l u s) ∨ (63 < s ∧ res = none)) ∧ (∀ x ∈ l, 0 ≤ x ∧ x < 256) ∧ st.t 0 = .ptr k 0 0 ∧ st.t 3 = .val (.int .u64 u) ∧ st.t 4 = I s ∧ st.h k = some (rdB nb l false) ∧ st.c = c0 ∧ ∀ m, m ≠ k → st.h m = h0 m
def NE (nb : Bool) (c0 k : Nat) (h0 : Heap) (res : Option (Int × List Int)) (e : Ex) (st : St) : Prop := st.c = c0 ∧ (∀ m, m ≠ k → st.h m = h0 m) ∧ ((e = .exit 0 ∧ ∃ (u : Int) (r : List Int), res = some (u, r) ∧ st.t 3 = .val (.int .u64 u) ∧ st.h k = some (rdB nb r false)) ∨
  (e = .ret ∧ res = none ∧ st.t 2 = I 0 ∧ ∃ l', st.h k = some (rdB nb l' true)))
theorem number_ev {nb : Bool} {k : Nat} {h : Heap} {c : Nat} {l : List Int} (hby : ∀ x ∈ l, 0 ≤ x ∧ x < 256) (a : h k = some (rdB nb l false)) : NO nb c k h (vP l 0 0) (run Tryz.prog mL 33 [.ptr k 0 0] h c) := by
  rw [run_eq (show mL 33 = some .heap from rfl) rfl, Tryz.func33]
  simp -implicitDefEqProofs [Tryz.f33, a, Option.bind_assoc, -decide_eq_true_eq, -decide_eq_false_iff_not, -List.any_eq_true, -List.any_eq_false, -bne_iff_ne, -beq_iff_eq, -beq_eq_false_iff_ne, -bne_eq_false_iff_eq]
  refine loop_to (R := NO nb c k h (vP l 0 0)) (NI nb c k h (vP l 0 0)) (NE nb c k h (vP l 0 0)) ?_ ?_ l.length _ ?_
  · rintro kk ⟨t, h1, c1⟩ ⟨l1, u, s, rfl, hs0, hs1, hs2, hres, hb1, a0, a3, a4, b1, hc, hS⟩
    simp only at a0 a3 a4 b1 hc hS
    subst hc
    have hs9 : ¬ s < 0 := by omega
    have w7 : IntKind.i64.wrap (s + 7) = s + 7 := wrap_id (by omega) (by omega)
    cases l1 with
    | nil =>
      have e32 := rone_nil (nb := nb) (c := c1) b1
      have hn : vP l 0 0 = none := by
        rcases hres with ⟨_, h2⟩ | ⟨_, h2⟩
        · rw [h2]; rfl
        · exact h2
      simp -implicitDefEqProofs [a0, a3, a4, b1, e32, to_normal, to_exit, to_ret, -decide_eq_true_eq, -decide_eq_false_iff_not, -List.any_eq_true, -List.any_eq_false, -bne_iff_ne, -beq_iff_eq, -beq_eq_false_iff_ne, -bne_eq_false_iff_eq]
      exact ⟨rfl, fun m hm => by simp [hm]; exact hS m hm, .inr ⟨rfl, hn, by simp, ⟨[], by simp⟩⟩⟩
    | cons x r =>
      have e32 := rone_cons (nb := nb) (c := c1) b1
      obtain ⟨hx0, hx1⟩ := hb1 x (by simp)
      have hg := gI_eq hx0 hx1
      have cvg : ∀ h, convA Tryz.prog 5 32 h (Y (andI .u8 x 127)) = some (.val (.int .u64 (gI x))) := fun h => cv_5_32 h _
      have hup : upU u x s = orI .u64 u (shlI .u64 (gI x) s) := rfl
      generalize gI x = g at *
      have hS' : ∀ hh : Heap, (∀ m, m ≠ k → hh m = h1 m) → ∀ m, m ≠ k → hh m = h m := fun hh H m hm => by rw [H m hm]; exact hS m hm
      cases g1 : decide (63 < s)
      rotate_left
      · have h1' : 63 < s := by simpa using g1
        have hn : vP l 0 0 = none := by
          rcases hres with ⟨h2, _⟩ | ⟨_, h2⟩
          · omega
          · exact h2
        simp -implicitDefEqProofs [a0, a3, a4, b1, e32, cvg, w7, hs9, g1, to_normal, to_exit, to_ret, -decide_eq_true_eq, -decide_eq_false_iff_not, -List.any_eq_true, -List.any_eq_false, -bne_iff_ne, -beq_iff_eq, -beq_eq_false_iff_ne, -bne_eq_false_iff_eq]
        exact ⟨rfl, hS' _ fun m hm => by simp [hm], .inr ⟨rfl, hn, by simp, ⟨r, by simp⟩⟩⟩
      have h1' : ¬ 63 < s := by simpa using g1
      replace hres : vP l 0 0 = vP (x :: r) u s := by
        rcases hres with ⟨_, h2⟩ | ⟨h2, _⟩
        · exact h2
        · omega
      cases g2 : (s == 63)
      · have h2' : s ≠ 63 := by simpa using g2
        cases g4 : (x == 0)
        · have h4 : x ≠ 0 := by simpa using g4
          cases g5 : decide (x < 128)
          · have h5 : ¬ x < 128 := by simpa using g5
            simp -implicitDefEqProofs [a0, a3, a4, b1, e32, cvg, w7, hs9, g1, g2, g4, g5, to_normal, to_exit, to_ret, -decide_eq_true_eq, -decide_eq_false_iff_not, -List.any_eq_true, -List.any_eq_false, -bne_iff_ne, -beq_iff_eq, -beq_eq_false_iff_ne, -bne_eq_false_iff_eq]
            refine ⟨r.length, by simp, r, upU u x s, s + 7, rfl, by omega, by omega, by omega, ?_, fun z hz => hb1 z (by simp [hz]), by simp [a0], by simp [hup], by simp, by simp, rfl, hS' _ fun m hm => by simp [hm]⟩
            by_cases h63 : s = 63
            · exact .inr ⟨by omega, by rw [hres, vP]; simp [h63]; omega⟩
            · exact .inl ⟨by omega, by rw [hres, vP, if_neg (by simp; omega), if_neg h5]⟩
          · have h5 : x < 128 := by simpa using g5
            simp -implicitDefEqProofs [a0, a3, a4, b1, e32, cvg, w7, hs9, g1, g2, g4, g5, to_normal, to_exit, to_ret, -decide_eq_true_eq, -decide_eq_false_iff_not, -List.any_eq_true, -List.any_eq_false, -bne_iff_ne, -beq_iff_eq, -beq_eq_false_iff_ne, -bne_eq_false_iff_eq]
            exact ⟨rfl, hS' _ fun m hm => by simp [hm], .inl ⟨rfl, upU u x s, r, by rw [hres, vP, if_neg (by simp; omega), if_pos h5], by simp [hup], by simp⟩⟩
        · have h4 : x = 0 := by simpa using g4
          cases g6 : decide (0 < s)
          · have h6 : ¬ 0 < s := by simpa using g6
            cases g5 : decide (x < 128)
            · have h5 : ¬ x < 128 := by simpa using g5
              simp -implicitDefEqProofs [a0, a3, a4, b1, e32, cvg, w7, hs9, g1, g2, g4, g6, g5, to_normal, to_exit, to_ret, -decide_eq_true_eq, -decide_eq_false_iff_not, -List.any_eq_true, -List.any_eq_false, -bne_iff_ne, -beq_iff_eq, -beq_eq_false_iff_ne, -bne_eq_false_iff_eq]
              refine ⟨r.length, by simp, r, upU u x s, s + 7, rfl, by omega, by omega, by omega, ?_, fun z hz => hb1 z (by simp [hz]), by simp [a0], by simp [hup], by simp, by simp, rfl, hS' _ fun m hm => by simp [hm]⟩
              by_cases h63 : s = 63
              · exact .inr ⟨by omega, by rw [hres, vP]; simp [h63]; omega⟩
              · exact .inl ⟨by omega, by rw [hres, vP, if_neg (by simp; omega), if_neg h5]⟩
            · have h5 : x < 128 := by simpa using g5
              simp -implicitDefEqProofs [a0, a3, a4, b1, e32, cvg, w7, hs9, g1, g2, g4, g6, g5, to_normal, to_exit, to_ret, -decide_eq_true_eq, -decide_eq_false_iff_not, -List.any_eq_true, -List.any_eq_false, -bne_iff_ne, -beq_iff_eq, -beq_eq_false_iff_ne, -bne_eq_false_iff_eq]
              exact ⟨rfl, hS' _ fun m hm => by simp [hm], .inl ⟨rfl, upU u x s, r, by rw [hres, vP, if_neg (by simp; omega), if_pos h5], by simp [hup], by simp⟩⟩
          · have h6 : 0 < s := by simpa using g6
            simp -implicitDefEqProofs [a0, a3, a4, b1, e32, cvg, w7, hs9, g1, g2, g4, g6, to_normal, to_exit, to_ret, -decide_eq_true_eq, -decide_eq_false_iff_not, -List.any_eq_true, -List.any_eq_false, -bne_iff_ne, -beq_iff_eq, -beq_eq_false_iff_ne, -bne_eq_false_iff_eq]
            exact ⟨rfl, hS' _ fun m hm => by simp [hm], .inr ⟨rfl, by rw [hres, vP, if_pos (by simp; omega)], by simp, ⟨r, by simp⟩⟩⟩
      · have h2' : s = 63 := by simpa using g2
        have g6 : decide (0 < s) = true := decide_eq_true (by omega)
        cases g3 : decide (1 < g)
        · have h3 : ¬ 1 < g := by simpa using g3
          cases g4 : (x == 0)
          · have h4 : x ≠ 0 := by simpa using g4
            cases g5 : decide (x < 128)
            · have h5 : ¬ x < 128 := by simpa using g5
              simp -implicitDefEqProofs [a0, a3, a4, b1, e32, cvg, w7, hs9, g1, g2, g3, g4, g6, g5, to_normal, to_exit, to_ret, -decide_eq_true_eq, -decide_eq_false_iff_not, -List.any_eq_true, -List.any_eq_false, -bne_iff_ne, -beq_iff_eq, -beq_eq_false_iff_ne, -bne_eq_false_iff_eq]
              refine ⟨r.length, by simp, r, upU u x s, s + 7, rfl, by omega, by omega, by omega, ?_, fun z hz => hb1 z (by simp [hz]), by simp [a0], by simp [hup], by simp, by simp, rfl, hS' _ fun m hm => by simp [hm]⟩
              by_cases h63 : s = 63
              · exact .inr ⟨by omega, by rw [hres, vP]; simp [h63]; omega⟩
              · exact .inl ⟨by omega, by rw [hres, vP, if_neg (by simp; omega), if_neg h5]⟩
            · have h5 : x < 128 := by simpa using g5
              simp -implicitDefEqProofs [a0, a3, a4, b1, e32, cvg, w7, hs9, g1, g2, g3, g4, g6, g5, to_normal, to_exit, to_ret, -decide_eq_true_eq, -decide_eq_false_iff_not, -List.any_eq_true, -List.any_eq_false, -bne_iff_ne, -beq_iff_eq, -beq_eq_false_iff_ne, -bne_eq_false_iff_eq]
              exact ⟨rfl, hS' _ fun m hm => by simp [hm], .inl ⟨rfl, upU u x s, r, by rw [hres, vP, if_neg (by simp; omega), if_pos h5], by simp [hup], by simp⟩⟩
          · have h4 : x = 0 := by simpa using g4
            simp -implicitDefEqProofs [a0, a3, a4, b1, e32, cvg, w7, hs9, g1, g2, g3, g4, g6, to_normal, to_exit, to_ret, -decide_eq_true_eq, -decide_eq_false_iff_not, -List.any_eq_true, -List.any_eq_false, -bne_iff_ne, -beq_iff_eq, -beq_eq_false_iff_ne, -bne_eq_false_iff_eq]
            exact ⟨rfl, hS' _ fun m hm => by simp [hm], .inr ⟨rfl, by rw [hres, vP, if_pos (by simp; omega)], by simp, ⟨r, by simp⟩⟩⟩
        · have h3 : 1 < g := by simpa using g3
          simp -implicitDefEqProofs [a0, a3, a4, b1, e32, cvg, w7, hs9, g1, g2, g3, to_normal, to_exit, to_ret, -decide_eq_true_eq, -decide_eq_false_iff_not, -List.any_eq_true, -List.any_eq_false, -bne_iff_ne, -beq_iff_eq, -beq_eq_false_iff_ne, -bne_eq_false_iff_eq]
          exact ⟨rfl, hS' _ fun m hm => by simp [hm], .inr ⟨rfl, by rw [hres, vP, if_pos (by simp; omega)], by simp, ⟨r, by simp⟩⟩⟩
  · rintro e ⟨t, h1, c1⟩ ⟨hc, hS, H⟩
    simp only at hc hS H
    subst hc
    rcases H with ⟨rfl, u, r, hres, a3, b1⟩ | ⟨rfl, hres, a2, ⟨l', b1⟩⟩
    · cases g : (andI .u64 u 1 == 1)
      · simp -implicitDefEqProofs [a3, b1, cv_32_3, g, -decide_eq_true_eq, -decide_eq_false_iff_not, -List.any_eq_true, -List.any_eq_false, -bne_iff_ne, -beq_iff_eq, -beq_eq_false_iff_ne, -bne_eq_false_iff_eq]
        refine ⟨_, _, rfl, hS, .inl ⟨u, r, hres, ?_, b1⟩⟩
        unfold rcI
        rw [if_neg (by simpa using g)]
      · simp -implicitDefEqProofs [a3, b1, cv_32_3, g, -decide_eq_true_eq, -decide_eq_false_iff_not, -List.any_eq_true, -List.any_eq_false, -bne_iff_ne, -beq_iff_eq, -beq_eq_false_iff_ne, -bne_eq_false_iff_eq]
        refine ⟨_, _, rfl, hS, .inl ⟨u, r, hres, ?_, b1⟩⟩
        unfold rcI
        rw [if_pos (by simpa using g)]
    · simp -implicitDefEqProofs [a2, -decide_eq_true_eq, -decide_eq_false_iff_not, -List.any_eq_true, -List.any_eq_false, -bne_iff_ne, -beq_iff_eq, -beq_eq_false_iff_ne, -bne_eq_false_iff_eq]
      exact ⟨_, _, rfl, hS, .inr ⟨hres, rfl, l', b1⟩⟩
  · exact ⟨l, 0, 0, rfl, by omega, by omega, by omega, .inl ⟨by omega, rfl⟩, hby, by simp, by simp, by simp, by simp [a], rfl, fun m _ => rfl⟩
theorem number_c {nb : Bool} {k : Nat} {h : Heap} {c : Nat} {l : List Int} (hby : ∀ x ∈ l, 0 ≤ x ∧ x < 256) (a : h k = some (rdB nb l false)) : NO nb c k h (vP l 0 0) (callA mL (run Tryz.prog mL) 33 [.ptr k 0 0] h c) := by
  rw [call_heap rfl]
  exact number_ev hby a
end Go.Proofs.YtgbdbenepnbajaaGreatDoor.AM
