/- Texts of the proof: part Z24. -/
import Derived.Test.YtmpcjfkfgjpebaaGreatDoorZ23
set_option maxHeartbeats 0
set_option maxRecDepth 8000
set_option linter.unusedSimpArgs false
set_option linter.unusedVariables false
set_option linter.unusedSectionVars false
namespace Go.Proofs.YtmpcjfkfgjpebaaGreatDoor.AM
open Go Go.Proofs
attribute [local simp] fieldAddrA ld setCells stA skipV appendA hd makeA bnd kindA freshA killOk loadsAt edgesOn Region.binds newT empT lay_get allocA buildA buildRow lenA els indexAddrA isNil opA evA lit_int lit_bool lit_nil lit_nilf yldA binI unA pickA boolV intV fieldA mk eqs nilC mayP
section
variable {nc ml : Nat} {h : Heap} {c : Nat} {names : List Str} {code : List Ln} {stk : List Bk} {nv cv bv : AV}
def BodOk (na : Nat) (bodies : List (List (Int × Int))) : Prop := ∀ b ∈ bodies, Bal na b ∧ b.length ≤ 60
def AInv (nc c1 : Nat) (k n w : Int) (v : AV) (ls : List Str) (h0 : Heap) (na : Nat) (kk : Nat) (st : St) : Prop := ∃ (i : Nat) (pv : AV) (bodies : List (List (Int × Int))), kk = ls.length - i ∧ st.t 0 = .ptr nc 0 0 ∧ st.t 15 = .ptr c1 0 0 ∧ st.t 44 = v ∧ st.t 45 = I ls.length ∧ st.t 46 = I i ∧ i ≤ ls.length ∧ bodies.length = i ∧
  st.h c1 = some ⟨5, [[I k, I n, I 0, I w, pv]], some 52⟩ ∧ OutG 1 66 st.h st.c pv (bodR bodies) ∧ (∀ m, nm pv = some m → c1 < m) ∧ (∀ m, m < c1 → st.h m = h0 m) ∧ c1 < st.c ∧ BodOk na bodies
def AEnd (nc c1 : Nat) (k n w : Int) (ls : List Str) (h0 : Heap) (na : Nat) (e : Ex) (st : St) : Prop := (e = .exit 0 ∧ ∃ (pv : AV) (bodies : List (List (Int × Int))), st.t 0 = .ptr nc 0 0 ∧ st.t 15 = .ptr c1 0 0 ∧ bodies.length = ls.length ∧
  st.h c1 = some ⟨5, [[I k, I n, I 0, I w, pv]], some 52⟩ ∧ OutG 1 66 st.h st.c pv (bodR bodies) ∧ (∀ m, m < c1 → st.h m = h0 m) ∧ c1 < st.c ∧ BodOk na bodies) ∨ (e = .ret ∧ c1 < st.c ∧ (∀ m, m < c1 → st.h m = h0 m) ∧ ∃ e : Int, e ≠ 0 ∧ st.t 8 = E e)
def AOut (nc ml : Nat) (h : Heap) (c : Nat) (names : List Str) (code : List Ln) (stk : List Bk) (nv bv : AV) (k n w : Int) (wb : Bool) (o : Option (AV × Heap × Nat)) : Prop := ∃ (e : Int) (h' : Heap) (c' : Nat), o = some (E e, h', c') ∧ c ≤ c' ∧ Keep h c h' ∧
  (e = 0 → ∃ (pv : AV) (bodies : List (List (Int × Int))) (cv' : AV), Cm nc ml h' c' names (code ++ [⟨k, n, 0, w, pv, bodies⟩]) stk nv cv' bv ∧ bodies.length ≤ 6 ∧ BodOk (min names.length 16) bodies ∧ wb = true)
/-- What stands behind the reading of the parts. -/
noncomputable def asksR : Code := match Tryz.f55.body with | some (.seq _ (.seq _ (.seq _ (.seq _ (.seq _ (.seq _ y)))))) => y | _ => .skip
noncomputable def asks0 : Code := match Tryz.f55.body with | some (.seq y _) => y | _ => .skip
noncomputable def asks1 : Code := match Tryz.f55.body with | some (.seq _ (.seq y _)) => y | _ => .skip
noncomputable def asks2 : Code := match Tryz.f55.body with | some (.seq _ (.seq _ (.seq y _))) => y | _ => .skip
noncomputable def asks3 : Code := match Tryz.f55.body with | some (.seq _ (.seq _ (.seq _ (.seq y _)))) => y | _ => .skip
noncomputable def asks4 : Code := match Tryz.f55.body with | some (.seq _ (.seq _ (.seq _ (.seq _ (.seq y _))))) => y | _ => .skip
noncomputable def asks5 : Code := match Tryz.f55.body with | some (.seq _ (.seq _ (.seq _ (.seq _ (.seq _ (.seq y _)))))) => y | _ => .skip
theorem asks_body : Tryz.f55.body = some (.seq asks0 (.seq asks1 (.seq asks2 (.seq asks3 (.seq asks4 (.seq asks5 asksR)))))) := by kernel_rfl
/-- A COMMAND, A QUESTION. -/
theorem asks_ev (C : Cm nc ml h c names code stk nv cv bv) (h0 : 0 < names.length) (hn : names.length ≤ 100000) (hs : ∀ s ∈ names, s.length ≤ 1000000) (s : Str) (hl : s.length ≤ 100000) (hcl : code.length ≤ 100000) (k n : Int) :
    AOut nc ml h c names code stk nv bv k n (numP (cutP s).1).1 (numP (cutP s).1).2 (callA mZ (run Tryz.prog mZ) 55 [.ptr nc 0 0, I k, I n, S s] h c) := by
  rw [call_heap rfl, run_eq (show mZ 55 = some .heap from rfl) rfl, Tryz.func55, Option.bind_some, body_eq, asks_body, Option.bind_some]
  have l1 := cutP_len s
  have e1 := fun h c => cut_c s (by omega) h c
  have e2 := fun h c => num_c (cutP s).1 (by omega) h c
  generalize (numP (cutP s).1).1 = w at *
  cases g1 : (numP (cutP s).1).2
  · rw [g1] at e2
    refine ⟨14, h, c, ?_, Nat.le_refl _, Keep.refl _ _, fun e => by cases e⟩
    simp -implicitDefEqProofs [asks0, asks1, asks2, asks3, asks4, asks5, Tryz.f55, e1, e2, -decide_eq_true_eq, -decide_eq_false_iff_not, -List.any_eq_true, -List.any_eq_false, -bne_iff_ne, -beq_iff_eq, -beq_eq_false_iff_ne, -bne_eq_false_iff_eq]
  · rw [g1] at e2
    -- behind the parts
    have main : ∀ (t : Nat → AV) (hp : Heap) (cp : Nat) (v : AV) (ls : List Str), Cm nc ml hp cp names code stk nv cv bv → c ≤ cp → (∀ m, m < c → hp m = h m) → OutG 1 9 hp cp v (strs ls) → ls.length ≤ 200000 → (∀ x ∈ ls, x.length ≤ 1000000) →
        t 0 = .ptr nc 0 0 → t 1 = I k → t 2 = I n → t 12 = I w → t 14 = v →
        AOut nc ml h c names code stk nv bv k n w true ((exL Tryz.prog mZ asksR ⟨t, hp, cp⟩).bind (fin Tryz.prog Tryz.f55)) := by
      intro t hp cp v ls Cp hcp hfh O hls hlx t0 t1 t2 t12 t14
      obtain ⟨q1, q2, q3⟩ := O.nopan
      have hlen : ∀ h c, builtinA Tryz.prog .len [23] h c [v] = some (I ls.length, h, c) := by
        intro h c
        rcases O with ⟨rfl, e⟩ | ⟨n, rfl, _⟩
        · have : ls = [] := by simpa using e
          subst this
          simp
        · simp
      cases g2 : decide (6 < (ls.length : Int))
      rotate_left
      · refine ⟨14, hp, cp, ?_, hcp, Keep.fresh hfh, fun e => by cases e⟩
        simp -implicitDefEqProofs [asksR, Tryz.f55, t0, t1, t2, t12, t14, hlen, g2, -decide_eq_true_eq, -decide_eq_false_iff_not, -List.any_eq_true, -List.any_eq_false, -bne_iff_ne, -beq_iff_eq, -beq_eq_false_iff_ne, -bne_eq_false_iff_eq]
      · have hl6 : ls.length ≤ 6 := by rw [decide_eq_false_iff_not] at g2; omega
        simp -implicitDefEqProofs [asksR, Tryz.f55, t0, t1, t2, t12, t14, hlen, g2, Option.bind_assoc, -decide_eq_true_eq, -decide_eq_false_iff_not, -List.any_eq_true, -List.any_eq_false, -bne_iff_ne, -beq_iff_eq, -beq_eq_false_iff_ne, -bne_eq_false_iff_eq]
        refine loop_to (R := AOut nc ml h c names code stk nv bv k n w true) (AInv nc cp k n w v ls hp (min names.length 16)) (AEnd nc cp k n w ls hp (min names.length 16)) ?_ ?_ ls.length _ ?_
        · rintro kk ⟨t, h1, c1⟩ ⟨i, pv, bodies, rfl, a0, a15, a44, a45, a46, hi, hbl, hcc, Op, hpn, hfr, hc1, Bo⟩
          simp only at a0 a15 a44 a45 a46 hcc Op hfr hc1
          by_cases g : i < ls.length
          · have k1 : decide (i < ls.length) = true := by simp [g]
            obtain ⟨x, hx⟩ : ∃ x, ls[i]? = some x := ⟨ls[i], by simp [g]⟩
            have kn : IntKind.i64.wrap ((i : Int) + 1) = ((i + 1 : Nat) : Int) := wrap_succ (by omega)
            obtain ⟨nl, rfl, _, nlc, hnl⟩ : ∃ nl, v = .sl nl 1 0 ls.length ∧ strs ls ≠ [] ∧ nl < cp ∧ hp nl = some ⟨1, strs ls, some 9⟩ := by
              rcases O with ⟨_, e⟩ | ⟨nl, h1, h2, h3, h4⟩
              · have : ls = [] := by simpa using e
                subst this
                simp at hx
              · exact ⟨nl, by simpa using h1, h2, h3, h4⟩
            have hnl1 : h1 nl = some ⟨1, strs ls, some 9⟩ := by rw [hfr nl nlc, hnl]
            have hxr : (strs ls)[i]? = some [S x] := by simp [hx]
            have C1 : Cm nc ml h1 c1 names code stk nv cv bv := Cp.frame (by omega) hfr
            obtain ⟨b, e, e3, H, b1, b2, b3⟩ := expression_ev C1 h0 hn hs x (hlx x (List.mem_of_getElem? hx))
            generalize strs ls = rows at hnl1 hxr
            have hi1 : (i : Int) < (ls.length : Int) := by omega
            cases g3 : (e != 0)
            · have ge : e = 0 := by simpa using g3
              rcases H with ⟨_, ops, rfl, Bx, q⟩ | he
              rotate_left
              · exact absurd ge he
              subst ge
              obtain ⟨pv2, h2, c2, e4, O2, G⟩ := outG_one (t := 50) (sz := 1) (by_ := 24) (z := [.ro true []]) Op [.ro false (opsE ops)] (some 66) rfl (by simp) (by simp) (by simp) (by simp) rfl (by simp; omega) (by simp; omega)
              obtain ⟨r1, r2, r3⟩ := O2.nopan
              have hle := G.le
              have hpc : nm pv ≠ some cp := fun e => by have := hpn _ e; omega
              have hcc2 : h2 cp = some ⟨5, [[I k, I n, I 0, I w, pv]], some 52⟩ := by rw [G.get cp hc1 hpc, hcc]
              have hcpc : cp ≠ c1 := by omega
              have hnew : ∀ m, nm pv2 = some m → cp < m := fun m hm => by
                rcases G.new m hm with h3 | h3
                · exact hpn m h3
                · omega
              have fin : AInv nc cp k n w (.sl nl 1 0 ls.length) ls hp (min names.length 16) (ls.length - (i + 1)) ⟨upd (upd (fun _ => .bad) (some 0) (.ptr nc 0 0)) (some 0) (.ptr nc 0 0), h2, c2⟩ ∨ True := .inr trivial
              rcases Op with ⟨rfl, hbe⟩ | ⟨np, rfl, hb0, hb1, hb2⟩
              · simp -implicitDefEqProofs [a0, a15, a44, a45, a46, k1, hi1, g, hnl1, hxr, e3, hcc, hcpc, -appendA, e4, r1, r2, r3, hcc2, kn, to_normal, to_exit, to_ret, -decide_eq_true_eq, -decide_eq_false_iff_not, -List.any_eq_true, -List.any_eq_false, -bne_iff_ne, -beq_iff_eq, -beq_eq_false_iff_ne, -bne_eq_false_iff_eq]
                refine ⟨ls.length - (i + 1), by omega, i + 1, pv2, bodies ++ [ops], rfl, by simp [a0], by simp [a15], by simp [a44], by simp [a45], by simp, by omega, by simp [hbl], by simp, ?_, hnew, fun m hm => ?_, by simp only; omega, fun y hy => ?_⟩
                · refine (show OutG 1 66 h2 c2 pv2 (bodR (bodies ++ [ops])) from by simpa using O2).frame (Nat.le_refl _) fun m hm _ => ?_
                  have := hnew m hm
                  have a1 : m ≠ cp := by omega
                  simp [a1]
                · have a1 : m ≠ cp := by omega
                  simp only [put_get, if_neg a1]
                  rw [G.get m (by omega) (fun e => by cases e), hfr m hm]
                · rcases List.mem_append.1 hy with hy | hy
                  · exact Bo y hy
                  · simp at hy
                    subst hy
                    exact ⟨Bx, q⟩
              · simp only [List.length_map] at e4
                have hnp : (cp != np) = true := by
                  have := hpn np rfl
                  simp
                  omega
                simp -implicitDefEqProofs [a0, a15, a44, a45, a46, k1, hi1, g, hnl1, hxr, e3, hcc, hcpc, hnp, -appendA, e4, r1, r2, r3, hcc2, kn, to_normal, to_exit, to_ret, -decide_eq_true_eq, -decide_eq_false_iff_not, -List.any_eq_true, -List.any_eq_false, -bne_iff_ne, -beq_iff_eq, -beq_eq_false_iff_ne, -bne_eq_false_iff_eq]
                refine ⟨ls.length - (i + 1), by omega, i + 1, pv2, bodies ++ [ops], rfl, by simp [a0], by simp [a15], by simp [a44], by simp [a45], by simp, by omega, by simp [hbl], by simp, ?_, hnew, fun m hm => ?_, by simp only; omega, fun y hy => ?_⟩
                · refine (show OutG 1 66 h2 c2 pv2 (bodR (bodies ++ [ops])) from by simpa using O2).frame (Nat.le_refl _) fun m hm _ => ?_
                  have := hnew m hm
                  have a1 : m ≠ cp := by omega
                  simp [a1]
                · have a1 : m ≠ cp := by omega
                  simp only [put_get, if_neg a1]
                  rw [G.get m (by omega) (fun e => by have := hpn m e; omega), hfr m hm]
                · rcases List.mem_append.1 hy with hy | hy
                  · exact Bo y hy
                  · simp at hy
                    subst hy
                    exact ⟨Bx, q⟩
            · have ge : e ≠ 0 := by simpa using g3
              simp -implicitDefEqProofs [a0, a15, a44, a45, a46, k1, hi1, g, hnl1, hxr, e3, g3, b1, b2, b3, putV_np, to_normal, to_exit, to_ret, -decide_eq_true_eq, -decide_eq_false_iff_not, -List.any_eq_true, -List.any_eq_false, -bne_iff_ne, -beq_iff_eq, -beq_eq_false_iff_ne, -bne_eq_false_iff_eq]
              exact .inr ⟨rfl, hc1, hfr, e, ge, by simp⟩
          · have k1 : decide (i < ls.length) = false := by simp; omega
            simp -implicitDefEqProofs [a0, a15, a44, a45, a46, k1, to_normal, to_exit, to_ret, -decide_eq_true_eq, -decide_eq_false_iff_not, -List.any_eq_true, -List.any_eq_false, -bne_iff_ne, -beq_iff_eq, -beq_eq_false_iff_ne, -bne_eq_false_iff_eq]
            exact .inl ⟨rfl, pv, bodies, by simp [a0], by simp [a15], by omega, hcc, Op, hfr, hc1, Bo⟩
        · rintro e ⟨t, h1, c1⟩ (⟨rfl, pv, bodies, a0, a15, hbl, hcc, Op, hfr, hc1, Bo⟩ | ⟨rfl, hc1, hfr, e, he, a8⟩)
          · simp only at a0 a15 hcc Op hfr hc1
            have C1 : Cm nc ml h1 c1 names code stk nv cv bv := Cp.frame (by omega) hfr
            obtain ⟨h2, c2, cv2, e2, C2, hc2, hkp⟩ := add_ev C1 ⟨k, n, 0, w, pv, bodies⟩ Op hcl
            simp only [Ln.row] at e2
            simp -implicitDefEqProofs [a0, a15, hcc, e2, -decide_eq_true_eq, -decide_eq_false_iff_not, -List.any_eq_true, -List.any_eq_false, -bne_iff_ne, -beq_iff_eq, -beq_eq_false_iff_ne, -bne_eq_false_iff_eq]
            exact ⟨0, h2, c2, rfl, by omega, (Keep.fresh fun m hm => by rw [hfr m (by omega), hfh m hm]).trans (by omega : c ≤ c1) (Keep.add hkp), fun _ => ⟨pv, bodies, cv2, C2, by omega, Bo, rfl⟩⟩
          · simp only at a8 hc1 hfr
            simp -implicitDefEqProofs [a8, -decide_eq_true_eq, -decide_eq_false_iff_not, -List.any_eq_true, -List.any_eq_false, -bne_iff_ne, -beq_iff_eq, -beq_eq_false_iff_ne, -bne_eq_false_iff_eq]
            exact ⟨e, h1, c1, rfl, by omega, Keep.fresh fun m hm => by rw [hfr m (by omega), hfh m hm], fun e0 => absurd e0 he⟩
        · refine ⟨0, .ro true [], [], by simp, by simp [t0], by simp, by simp [t14], by simp, by simp, by simp, by simp, by simp, OutG.nil _ _ _ _, fun m hm => (by cases hm), fun m hm => ?_, by simp, fun b hb => (by cases hb)⟩
          have a1 : m ≠ cp := by omega
          simp [a1]
    generalize fin Tryz.prog Tryz.f55 = F at main ⊢
    cases g3 : (cutP s).2.2
    · rw [g3] at e1
      simp -implicitDefEqProofs [asks0, asks1, asks2, asks3, asks4, asks5, Tryz.f55, e1, e2, -decide_eq_true_eq, -decide_eq_false_iff_not, -List.any_eq_true, -List.any_eq_false, -bne_iff_ne, -beq_iff_eq, -beq_eq_false_iff_ne, -bne_eq_false_iff_eq]
      exact main _ _ _ (.ro true []) [] C (Nat.le_refl _) (fun _ _ => rfl) (OutG.nil _ _ _ _) (by simp) (fun x hx => by cases hx) (by simp) (by simp) (by simp) (by simp) (by simp)
    · rw [g3] at e1
      have hC1 : ∀ m, m < c → (h.put c (some ⟨1, [[S (cutP s).2.1]], some 9⟩)) m = h m := fun m hm => by
        have a1 : m ≠ c := by omega
        simp [a1]
      obtain ⟨h', c', ls, v, e3, O, hc', hfr, hls, hx⟩ := collect_c (h := h.put c (some ⟨1, [[S (cutP s).2.1]], some 9⟩)) (c := c + 1) (p := c) (s := (cutP s).2.1) (by omega) (by simp) (by omega)
      obtain ⟨q1, q2, q3⟩ := O.nopan
      have e4 := fun h c => parts_c (cutP s).2.1 h c
      simp -implicitDefEqProofs [asks0, asks1, asks2, asks3, asks4, asks5, Tryz.f55, e1, e2, e4, e3, putV_np, q1, -decide_eq_true_eq, -decide_eq_false_iff_not, -List.any_eq_true, -List.any_eq_false, -bne_iff_ne, -beq_iff_eq, -beq_eq_false_iff_ne, -bne_eq_false_iff_eq]
      exact main _ _ _ v ls (C.frame (by omega) fun m hm => by rw [hfr m (by omega), hC1 m hm]) (by omega) (fun m hm => by rw [hfr m (by omega), hC1 m hm]) O (by omega) (fun x hx' => by have := hx x hx'; omega) (by simp) (by simp) (by simp) (by simp) (by simp)
end
end Go.Proofs.YtmpcjfkfgjpebaaGreatDoor.AM
