/- Texts of the proof: part Z7. -/
import Derived.Test.YtmpcjfkfgjpebaaGreatDoorZ6
set_option maxHeartbeats 0
set_option maxRecDepth 8000
set_option linter.unusedSimpArgs false
set_option linter.unusedVariables false
set_option linter.unusedSectionVars false
namespace Go.Proofs.YtmpcjfkfgjpebaaGreatDoor.AM
open Go Go.Proofs
attribute [local simp] fieldAddrA ld setCells stA skipV appendA hd makeA bnd kindA freshA killOk loadsAt edgesOn Region.binds newT empT lay_get allocA buildA buildRow lenA els indexAddrA isNil opA evA lit_int lit_bool lit_nil lit_nilf yldA binI unA pickA boolV intV fieldA mk eqs nilC mayP
theorem extA {md : Nat → Option CMode} {f : Nat} {g : List AV → Option AV} (hm : md f = some (.ext g)) {orc : Orc} {args : List AV} {r : AV} (ha : ∀ h, args.mapM (frz h depth) = some args) (hg : g args = some r) (hf : flat r = true) (h : Heap) (c : Nat) : callA md orc f args h c = some (r, h, c) := by
  unfold callA
  rw [hm]
  simp only
  rw [ha, Option.bind_some, hg, Option.bind_some, if_pos hf]
theorem atoi_c {md : Nat → Option CMode} (hm : md 75 = some (.ext gAtoi)) {orc : Orc} (d : Str) (hd : d.length ≤ 100000) : (∃ v, Lib.atoiAll d = .ok v ∧ ∀ h c, callA md orc 75 [S d] h c = some (.tup [I v, .val .nilIface], h, c)) ∨ ((∀ v, Lib.atoiAll d ≠ .ok v) ∧ ∃ v, ∀ h c, callA md orc 75 [S d] h c = some (.tup [I v, .ifc], h, c)) := by
  have hg : gAtoi [S d] = if d.length ≤ 281474976710656 then (match Lib.atoiAll d with | .ok v => some (.tup [I v, .val .nilIface]) | .«syntax» => some (.tup [I 0, .ifc]) | .range => some (.tup [I (Lib.atoiSat d), .ifc])) else none := rfl
  rw [if_pos (by omega)] at hg
  cases e : Lib.atoiAll d with
  | ok v => rw [e] at hg; exact .inl ⟨v, rfl, extA hm (fun _ => rfl) hg rfl⟩
  | range => rw [e] at hg; exact .inr ⟨fun v h => (by cases h), _, extA hm (fun _ => rfl) hg rfl⟩
  | _ => rw [e] at hg; exact .inr ⟨fun v h => (by cases h), _, extA hm (fun _ => rfl) hg rfl⟩
theorem atoi_pos {d : Str} {v : Int} (h : Lib.atoiAll d = .ok v) (h2 : ∀ x, d[0]? = some x → x.toNat ≠ 45) : 0 ≤ v ∧ 0 < d.length := by
  cases d with
  | nil => simp [Lib.atoiAll] at h
  | cons x r =>
    have hx := h2 x rfl
    unfold Lib.atoiAll at h
    simp only [hx, or_false] at h
    split at h
    · cases h
    · cases h
    · rename_i u _
      split at h
      · cases h
      · simp only [false_and, if_false] at h
        cases h
        exact ⟨by omega, by simp⟩
def digb (x : UInt8) : Bool := decide (48 ≤ (x.toNat : Int)) && decide ((x.toNat : Int) ≤ 57)
theorem nx_drop (s : Str) (i j : Nat) (h : j < s.length) (hj : i ≤ j) : (s.drop i).take (j + 1 - i) = (s.drop i).take (j - i) ++ [nx s j] := by
  rw [show j + 1 - i = j - i + 1 by omega, List.take_add_one, List.getElem?_drop, show i + (j - i) = j by omega]
  congr 1
  rw [nx, List.getElem?_eq_getElem h]
  rfl
/-- A number that must stand next. -/
theorem digits_ev {X : Cx} {h : Heap} {c : Nat} {i : Nat} {ops : List (Int × Int)} (R : Rd X h c i ops) :
    (∃ (v : Int) (j : Nat) (h' : Heap), callA mA (run Tryz.prog mA) 197 [.ptr X.nb 0 0] h c = some (I v, h', c) ∧ 0 ≤ v ∧ v ≤ 2147483647 ∧ i < j ∧ Rd X h' c j ops) ∨
    (∃ h', callA mA (run Tryz.prog mA) 197 [.ptr X.nb 0 0] h c = some (.pan 27 .i64 14, h', c) ∧ h' X.z = some X.zb) := by
  rw [call_heap rfl, run_eq (show mA 197 = some .heap from rfl) rfl, Tryz.func197]
  obtain ⟨v0, a0, b0, hb0, _⟩ := R.blk
  simp -implicitDefEqProofs [Tryz.f197, hb0, Option.bind_assoc, -decide_eq_true_eq, -decide_eq_false_iff_not, -List.any_eq_true, -List.any_eq_false, -bne_iff_ne, -beq_iff_eq, -beq_eq_false_iff_ne, -bne_eq_false_iff_eq]
  refine loop_to (R := fun (o : Option (AV × Heap × Nat)) => (∃ (v : Int) (j : Nat) (h' : Heap), o = some (I v, h', c) ∧ 0 ≤ v ∧ v ≤ 2147483647 ∧ i < j ∧ Rd X h' c j ops) ∨ (∃ h', o = some (.pan 27 .i64 14, h', c) ∧ h' X.z = some X.zb))
    (fun k s => ∃ j : Nat, k = X.s.length - j ∧ s.t 0 = .ptr X.nb 0 0 ∧ s.t 3 = I i ∧ s.c = c ∧ i ≤ j ∧ Rd X s.h c j ops ∧ ∀ x ∈ (X.s.drop i).take (j - i), digb x = true)
    (fun e s => e = .exit 0 ∧ ∃ j : Nat, s.t 0 = .ptr X.nb 0 0 ∧ s.t 3 = I i ∧ s.c = c ∧ i ≤ j ∧ Rd X s.h c j ops ∧ ∀ x ∈ (X.s.drop i).take (j - i), digb x = true) ?_ ?_ (X.s.length - i) _ ?_
  · rintro k ⟨t, h1, c1⟩ ⟨j, rfl, h0, h3, rfl, hij, R1, hdig⟩
    simp only at h0 h3 R1
    have hn := next_c R1
    have hsl := R.sl
    cases g1 : decide (48 ≤ ((nx X.s j).toNat : Int))
    · simp -implicitDefEqProofs [h0, h3, hn, g1, to_normal, to_exit, to_ret, -decide_eq_true_eq, -decide_eq_false_iff_not, -List.any_eq_true, -List.any_eq_false, -bne_iff_ne, -beq_iff_eq, -beq_eq_false_iff_ne, -bne_eq_false_iff_eq]
      exact ⟨j, hij, R1, hdig⟩
    · cases g2 : decide (((nx X.s j).toNat : Int) ≤ 57)
      · simp -implicitDefEqProofs [h0, h3, hn, g1, g2, to_normal, to_exit, to_ret, -decide_eq_true_eq, -decide_eq_false_iff_not, -List.any_eq_true, -List.any_eq_false, -bne_iff_ne, -beq_iff_eq, -beq_eq_false_iff_ne, -bne_eq_false_iff_eq]
        exact ⟨j, hij, R1, hdig⟩
      · have hjl : j < X.s.length := by
          by_cases hj : j < X.s.length
          · exact hj
          · rw [nx, List.getElem?_eq_none (by omega)] at g1
            simp at g1
        obtain ⟨v, a, b, hb, _⟩ := R1.blk
        obtain ⟨j', hj'⟩ : ∃ j', j' = j + 1 := ⟨_, rfl⟩
        have kw : IntKind.i64.wrap ((j : Int) + 1) = (j' : Int) := by rw [wrap_succ (by omega), hj']
        have R2 := R1.turn hb j' a b (by omega) (by have := R1.ol; omega)
        simp -implicitDefEqProofs [h0, h3, hn, g1, g2, hb, kw, to_normal, to_exit, to_ret, -decide_eq_true_eq, -decide_eq_false_iff_not, -List.any_eq_true, -List.any_eq_false, -bne_iff_ne, -beq_iff_eq, -beq_eq_false_iff_ne, -bne_eq_false_iff_eq]
        refine ⟨X.s.length - j', by omega, j', rfl, by omega, R2, ?_⟩
        intro x hx
        rw [hj', nx_drop X.s i j hjl hij] at hx
        rcases List.mem_append.1 hx with hx | hx
        · exact hdig x hx
        · simp at hx
          subst hx
          unfold digb
          rw [g1, g2]
          rfl
  · rintro e ⟨t, h1, c1⟩ ⟨rfl, j, h0, h3, rfl, hij, R1, hdig⟩
    simp only at h0 h3 R1
    obtain ⟨v, a, b, hb, _⟩ := R1.blk
    have hsl := R.sl
    have hle := R1.le
    have hle2 : (i : Int) ≤ (j : Int) := by omega
    have hlen : ((X.s.take j).drop i) = (X.s.drop i).take (j - i) := by rw [List.drop_take]
    obtain ⟨d, hd⟩ : ∃ d, d = (X.s.drop i).take (j - i) := ⟨_, rfl⟩
    have hdl : d.length = j - i := by rw [hd, List.length_take, List.length_drop]; omega
    rw [← hd] at hlen hdig
    rcases atoi_c (md := mA) (orc := run Tryz.prog mA) rfl d (by omega) with ⟨n, hn, hc⟩ | ⟨_, n, hc⟩
    · have hpos := atoi_pos hn (fun x hx => by
        have := hdig x (List.mem_of_getElem? hx)
        unfold digb at this
        simp at this
        omega)
      cases g1 : decide (2147483647 < n)
      · cases g2 : decide (1 < (d.length : Int))
        · left
          refine ⟨n, j, h1, ?_, hpos.1, by simp at g1; omega, by omega, R1⟩
          simp -implicitDefEqProofs [h0, h3, hb, hle, hij, hle2, hlen, hc, ifcA, g1, g2, -decide_eq_true_eq, -decide_eq_false_iff_not, -List.any_eq_true, -List.any_eq_false, -bne_iff_ne, -beq_iff_eq, -beq_eq_false_iff_ne, -bne_eq_false_iff_eq]
        · obtain ⟨x, hx⟩ : ∃ x, d[0]? = some x := ⟨d[0]'(by omega), by simp [show 0 < d.length by omega]⟩
          cases g3 : ((x.toNat : Int) == 48)
          · left
            refine ⟨n, j, h1, ?_, hpos.1, by simp at g1; omega, by omega, R1⟩
            simp -implicitDefEqProofs [h0, h3, hb, hle, hij, hle2, hlen, hc, ifcA, g1, g2, hx, g3, -decide_eq_true_eq, -decide_eq_false_iff_not, -List.any_eq_true, -List.any_eq_false, -bne_iff_ne, -beq_iff_eq, -beq_eq_false_iff_ne, -bne_eq_false_iff_eq]
          · right
            refine ⟨h1, ?_, R1.hz⟩
            simp -implicitDefEqProofs [h0, h3, hb, hle, hij, hle2, hlen, hc, ifcA, g1, g2, hx, g3, fail_c, -decide_eq_true_eq, -decide_eq_false_iff_not, -List.any_eq_true, -List.any_eq_false, -bne_iff_ne, -beq_iff_eq, -beq_eq_false_iff_ne, -bne_eq_false_iff_eq]
      · right
        refine ⟨h1, ?_, R1.hz⟩
        simp -implicitDefEqProofs [h0, h3, hb, hle, hij, hle2, hlen, hc, ifcA, g1, fail_c, -decide_eq_true_eq, -decide_eq_false_iff_not, -List.any_eq_true, -List.any_eq_false, -bne_iff_ne, -beq_iff_eq, -beq_eq_false_iff_ne, -bne_eq_false_iff_eq]
    · right
      refine ⟨h1, ?_, R1.hz⟩
      simp -implicitDefEqProofs [h0, h3, hb, hle, hij, hle2, hlen, hc, ifcA, fail_c, -decide_eq_true_eq, -decide_eq_false_iff_not, -List.any_eq_true, -List.any_eq_false, -bne_iff_ne, -beq_iff_eq, -beq_eq_false_iff_ne, -bne_eq_false_iff_eq]
  · exact ⟨i, rfl, by simp, by simp, by simp, Nat.le_refl _, by simpa using R, by simp⟩
end Go.Proofs.YtmpcjfkfgjpebaaGreatDoor.AM
