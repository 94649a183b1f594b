/- Texts of the proof: part B28. -/
import Derived.Test.YtdckleaemkcapaaB27
set_option maxHeartbeats 0
set_option linter.unusedSimpArgs false
set_option linter.unusedVariables false
set_option linter.unusedSectionVars false
namespace Go.Proofs.Ytdckleaemkcapaa.AM
open Go Go.Proofs
attribute [local simp] AV.cells okc AV.isBad fieldAddrA ld setCells stA skipV appendA hd makeA bnd sliceA kindA freshA killOk loadsAt newT empT lay_get allocA buildA buildRow builtinA lenA els indexAddrA isNil opA evA lit yldA binA binI unA pickA boolV intV fieldA mk flat lf lf.lfs frz
theorem same_own {Q : Nat → Prop} {d : Nat} {h1 : Heap} {la : Nat} {v : AV} {p : Int × Bnk} {rows : List (List AV)} {b1 : Bnk} (O : Own Q d h1 la v p.2.accs p.2.book rows) (M : Mine rows 12) (n1 : b1.nrm = p.2.nrm) (g : GoodRes p) :
    ∀ (H : Heap) (c : Nat), (∀ l, Q l → l < d → H l = h1 l) → callA (mdT tblB) (run Try.prog (mdT tblB)) 25 [.agg [.sl la 5 0 12, I p.2.rate, I p.2.infl, I p.2.idx, v], .agg (bc b1)] H c = some (B true, H, c) := by
  intro H c hH
  obtain ⟨b2, k1, k2, k3⟩ := own_read (O.frame (Nat.le_refl _) hH) M p.2.rate p.2.infl p.2.idx g.bk g.sm
  exact same_x b2 b1 (k2.trans n1.symm) k3 k1 rfl c
theorem law9 (b : Bnk) (w : b.Wfb) (co kd am : Int) : ∃ hp c, run Try.prog (mdT tblB) 9 [b.av, I co, I kd, I am] Heap.none 0 = some (B true, hp, c) := by
  have kn := known_c
  have f := far_c b w
  have g := move_good b co kd am (-1) true
  obtain ⟨b1, n1, w1, c1⟩ := call_post (args := [.agg (bc b), I co, I kd, I am]) rfl (fun h => rfl) (rpay_x b w co kd am) rfl
  rw [run_eq, show mdT tblB 9 = some .pure from rfl, Option.bind_some, Try.func9]
  unfold Bnk.av
  cases g0 : farP b
  case true => simp -implicitDefEqProofs [Try.f9, g0, f, kn]
  simp -implicitDefEqProofs [-frz, Try.f9, g0, f, kn, c1, obm, Option.bind_assoc]
  refine own_to (R := fun o => ∃ hp c, o = some (B true, hp, c)) rfl _ _ (fun R h => bpay_run b w co kd am _ R h) _ ?_ ?_
  · intro he h1 d hd hlow
    have h0 : h1 1 = some ⟨5, [bc b1]⟩ := by rw [hlow 1 (by omega)]; simp
    have s : ∀ h c, callA (mdT tblB) (run Try.prog (mdT tblB)) 25 [.agg noC, .agg (bc b1)] h c = some (B true, h, c) := fun h c => same_c noB b1 (by rw [n1, g.err he]) noB_sized h c
    simp -implicitDefEqProofs [-frz, h0, kn, s, show ¬ (d = 1) by omega, show ¬ (1 = d) by omega]
  · intro he h1 d la v rows hd hlow O M
    have h0 : h1 1 = some ⟨5, [bc b1]⟩ := by rw [hlow 1 (by omega)]; simp
    have hv1 := slv_cells O.bkv
    have hv2 := slv_okc O.bkv
    unfold AV.cells at hv1
    unfold okc at hv2
    have hs := same_own O M n1 g
    simp -implicitDefEqProofs [-frz, h0, hv1, hv2, he, kn, show ¬ (d = 1) by omega, show ¬ (1 = d) by omega]
    rw [hs _ _ (fun l hl hlc => by simp [show ¬ (l = d) by omega])]
    simp -implicitDefEqProofs [kn]
theorem law10 (b : Bnk) (w : b.Wfb) (co kd am : Int) : ∃ hp c, run Try.prog (mdT tblB) 10 [b.av, I co, I kd, I am] Heap.none 0 = some (B true, hp, c) := by
  have kn := known_c
  have f := far_c b w
  have g := move_good b co kd am 1 false
  obtain ⟨b1, n1, w1, c1⟩ := call_post (args := [.agg (bc b), I co, I kd, I am]) rfl (fun h => rfl) (rcharge_x b w co kd am) rfl
  obtain ⟨b2, n2, w2, c2⟩ := call_post (args := [.agg (bc b), I co, I kd, I am]) rfl (fun h => rfl) (rearn_x b w co kd am) rfl
  obtain ⟨b3, n3, w3, c3⟩ := call_post (args := [.agg (bc b), I co, I kd, I am]) rfl (fun h => rfl) (bcharge_x b w co kd am) rfl
  have s1 := same_c b3 b1 (n3.trans n1.symm) w3
  rw [run_eq, show mdT tblB 10 = some .pure from rfl, Option.bind_some, Try.func10]
  unfold Bnk.av
  cases g0 : farP b
  case true => simp -implicitDefEqProofs [Try.f10, g0, f, kn]
  simp -implicitDefEqProofs [-frz, Try.f10, g0, f, kn, c1, c2, c3, obm, Option.bind_assoc]
  refine own_to (R := fun o => ∃ hp c, o = some (B true, hp, c)) rfl _ _ (fun R h => bearn_run b w co kd am _ R h) _ ?_ ?_
  · intro he h1 d hd hlow
    have h0 : h1 1 = some ⟨5, [bc b1]⟩ := by rw [hlow 1 (by omega)]; simp
    have h2 : h1 2 = some ⟨5, [bc b2]⟩ := by rw [hlow 2 (by omega)]; simp
    have h3 : h1 3 = some ⟨5, [bc b3]⟩ := by rw [hlow 3 (by omega)]; simp
    have s : ∀ h c, callA (mdT tblB) (run Try.prog (mdT tblB)) 25 [.agg noC, .agg (bc b2)] h c = some (B true, h, c) := fun h c => same_c noB b2 (by rw [n2, g.err he]) noB_sized h c
    simp -implicitDefEqProofs [-frz, h0, h2, h3, kn, s, s1, show ¬ (d = 1) by omega, show ¬ (1 = d) by omega, show ¬ (d = 2) by omega, show ¬ (2 = d) by omega, show ¬ (d = 3) by omega, show ¬ (3 = d) by omega]
  · intro he h1 d la v rows hd hlow O M
    have h0 : h1 1 = some ⟨5, [bc b1]⟩ := by rw [hlow 1 (by omega)]; simp
    have h2 : h1 2 = some ⟨5, [bc b2]⟩ := by rw [hlow 2 (by omega)]; simp
    have h3 : h1 3 = some ⟨5, [bc b3]⟩ := by rw [hlow 3 (by omega)]; simp
    have hv1 := slv_cells O.bkv
    have hv2 := slv_okc O.bkv
    unfold AV.cells at hv1
    unfold okc at hv2
    have hs := same_own O M n2 g
    simp -implicitDefEqProofs [-frz, h0, h2, h3, hv1, hv2, he, kn, s1, show ¬ (d = 1) by omega, show ¬ (1 = d) by omega, show ¬ (d = 2) by omega, show ¬ (2 = d) by omega, show ¬ (d = 3) by omega, show ¬ (3 = d) by omega]
    rw [hs _ _ (fun l hl hlc => by simp [show ¬ (l = d) by omega])]
    simp -implicitDefEqProofs [kn]
theorem pure9 (x0 x1 x2 x3 : AV) (h0 : TyArg Try.prog 8 25 x0) (h1 : TyArg Try.prog 8 3 x1) (h2 : TyArg Try.prog 8 3 x2) (h3 : TyArg Try.prog 8 3 x3) : ∃ h c, run Try.prog (mdT tblB) 9 [x0, x1, x2, x3] Heap.none 0 = some (B true, h, c) := by
  obtain ⟨b, rfl, w⟩ := arg25 h0
  obtain ⟨n1, rfl, _⟩ := arg3 h1
  obtain ⟨n2, rfl, _⟩ := arg3 h2
  obtain ⟨n3, rfl, _⟩ := arg3 h3
  exact law9 b w n1 n2 n3
theorem pure10 (x0 x1 x2 x3 : AV) (h0 : TyArg Try.prog 8 25 x0) (h1 : TyArg Try.prog 8 3 x1) (h2 : TyArg Try.prog 8 3 x2) (h3 : TyArg Try.prog 8 3 x3) : ∃ h c, run Try.prog (mdT tblB) 10 [x0, x1, x2, x3] Heap.none 0 = some (B true, h, c) := by
  obtain ⟨b, rfl, w⟩ := arg25 h0
  obtain ⟨n1, rfl, _⟩ := arg3 h1
  obtain ⟨n2, rfl, _⟩ := arg3 h2
  obtain ⟨n3, rfl, _⟩ := arg3 h3
  exact law10 b w n1 n2 n3
end Go.Proofs.Ytdckleaemkcapaa.AM
