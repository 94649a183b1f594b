/- The function that reads a whole expression defers a call that recovers: what it is told to be. -/
import Derived.Test.YtmpcjfkfgjpebaaGreatDoorZ11
import Derived.RecoverIn
set_option maxHeartbeats 0
set_option maxRecDepth 8000
set_option linter.unusedSimpArgs false
set_option linter.unusedVariables false
set_option linter.unusedSectionVars false
namespace Go.Proofs.YtmpcjfkfgjpebaaGreatDoor.AM
open Go Go.Proofs Go.RowKit
def opsWA : Array Oper := #[⟨some 6, .assign (.const (.slice none 0 0)), 66, "expr.go:227", #[], none⟩, ⟨some 7, .alloc 27, 0, "expr.go:227", #[], none⟩]
def opW0 : Oper := ⟨some 9, .makeFunc (.func 180) #[] #[.tmp 7], 1, "expr.go:228", #[], none⟩
def opW1 : Oper := ⟨none, .defer { callee := .value (.tmp 9), args := #[], argTypes := #[] }, 0, "expr.go:228", #[{ on := 0, ground := .data }], none⟩
def opsWB : Array Oper := #[opW0, opW1]
def opC : Oper := ⟨some 4, .call { callee := .builtin .recover, args := #[], argTypes := #[] }, 20, "expr.go:229", #[], none⟩
noncomputable def restW : Code := match Tryz.f153.body with | some (.seq _ (.seq _ y)) => y | _ => .skip
noncomputable def restC : Code := match Tryz.f180.body with | some (.seq _ y) => y | _ => .skip
theorem bodyW : Tryz.f153.body = some (.seq (.region 0 opsWA false) (.seq (.region 1 opsWB false) restW)) := by kernel_rfl
theorem bodyC : Tryz.f180.body = some (.seq (.region 0 #[opC] false) restC) := by kernel_rfl
theorem okWA : okC mA 32 (.region 0 opsWA false) = true := by kernel_rfl
theorem okW : okC mA 32 restW = true := by kernel_rfl
theorem okRC : okC mA 11 restC = true := by kernel_rfl
theorem plainRC : plainC restC = true := by kernel_rfl
/-- Something that evaluates code. -/
abbrev Evl := Code → St → Option (Ex × St)
/-- What the deferred call does to the memory. -/
noncomputable def closeW (E : Evl) (l i f : Nat) (x : AV) (s : St) : Option St :=
  (E restC ⟨upd (init [.ptr l i f]) (some 4) x, s.h, s.c⟩).bind fun p => match p with
    | (.normal, s') => some s'
    | _ => none
def recW : Ex × St → Option (AV × St)
  | (.normal, s) => some (.val .nilIface, s)
  | (.ret, s) => some (.val .nilIface, s)
  | (.pan t k n, s) => some (.val (.iface t (.int k n)), s)
  | (.exit _, _) => none
noncomputable def endW (E : Evl) (l i f : Nat) (p : Ex × St) : Option (AV × Heap × Nat) :=
  (recW p).bind fun q => (q.2.h l).bind fun b => if b.sz = 0 then none else
    (closeW E l i f q.1 q.2).bind fun s' => (resA Tryz.prog ⟨q.2.t, s'.h, s'.c⟩ Tryz.f153.results.toList).map fun vs => (one vs, s'.h, s'.c)
noncomputable def gW (E : Evl) (args : List AV) (h : Heap) (c : Nat) : Option (AV × Heap × Nat) :=
  (E (.region 0 opsWA false) ⟨init args, h, c⟩).bind fun p => match p with
    | (.normal, s1) => (match s1.t 7 with
      | .ptr l i f => (E restW ⟨upd s1.t (some 9) (.fn 180 [.ptr l i f]), s1.h, s1.c⟩).bind (endW E l i f)
      | _ => none)
    | _ => none
theorem code_ok {c : Code} {s : St} {e : Ex} {s' : St} {nt : Nat} {E : Evl} (hE : ∀ c s r, E c s = some r → ∃ n, exA Tryz.prog mA (callN Tryz.prog mA n) n c s = some r) (hok : okC mA nt c = true) (h : E c s = some (e, s')) (D0 : List Deferred) (n0 : Nat) : CodeOk D0 Tryz.prog none nt n0 c s e s' := by
  obtain ⟨n, hn⟩ := hE _ _ _ h
  exact ex_sound mixA fnsA.mdOk (callN_sound mixA fnsA n) n (top := true) (fun _ => rfl) c s e s' hok hn
theorem way_marks {ρ : Pls} {F : Nat → Prop} {base : Nat} {w w' w2 : World} {ρ' : Pls} {h h' : Heap} {c c' : Nat} (hbase : base ≤ w.heap.size) (W' : Way F base ρ h w c ρ' h' w' c') (hbel : Below w.heap.size w' w2) (hsz : w2.heap.size = w'.heap.size) :
    Mv w.heap (FF F h ρ) w2.heap (FF F h' ρ') ∧ Below base w w2 := by
  refine ⟨⟨fun k hk hf => ?_, fun k cs T fz hk => ?_, ?_⟩, W'.bel.trans (hbel.mono hbase)⟩
  · obtain ⟨a1, a2⟩ := W'.mv.st k hk hf
    exact ⟨a1, (hbel.block k hk).trans a2⟩
  · obtain ⟨cs', T', fz', a1, a2⟩ := W'.mv.sz k cs T fz hk
    exact ⟨cs', T', fz', by rw [hbel.block k (getElem_lt hk)]; exact a1, a2⟩
  · rw [hsz]; exact W'.mv.le
theorem Way.sub {F : Nat → Prop} {base : Nat} {ρ ρ1 : Pls} {h h1 : Heap} {w w1 : World} {c c1 : Nat} (W : Way F base ρ h w c ρ1 h1 w1 c1) (fr : Fr ρ c c1) : Sub ρ ρ1 := by
  intro l p hp
  rw [W.out l (fun ⟨h1, h2⟩ => by rw [fr l h1 h2] at hp; cases hp)]
  exact hp
theorem start_sr {nt : Nat} {args : List AV} {h : Heap} {c : Nat} (ρ : Pls) (F : Nat → Prop) (base : Nat) (w : World) (us : List Value) (R : Rel ρ F base h w.heap) (hl : LR w.heap (FF F h ρ) ρ args us) :
    SR [] nt w.heap.size ρ F base ⟨init args, h, c⟩ { tmps := us.toArray ++ Array.replicate (nt - us.toArray.size) undef, defers := [] } w := by
  refine ⟨R, fun i => ?_, Marks.nil [], Nat.le_refl _, by simp; omega⟩
  simp only [init]
  rcases Nat.lt_or_ge i args.length with hi | hi
  · obtain ⟨v, hv, hr⟩ := hl.2 i _ (List.getElem?_eq_getElem hi)
    have h5 : args.getD i .bad = args[i] := by simp [List.getD, hi]
    have h6 : (us.toArray ++ Array.replicate (nt - us.toArray.size) undef).getD i undef = v := by
      have hlt : i < us.length := by rw [hl.1]; exact hi
      rw [Array.getD_eq_getD_getElem?, Array.getElem?_append_left (by simpa using hlt)]
      simp [hv]
    rw [h5, h6]
    exact hr
  · have h5 : args.getD i .bad = .bad := by simp [List.getD, hi]
    rw [h5]
    exact .bad _ _
theorem func180_enter (args : Array Value) (w : World) : (callFunc 180 args).run Tryz.prog w = .ok (.enter 180 args) w := by
  unfold callFunc
  have hb : Tryz.f180.body = some (.seq (.region 0 #[opC] false) restC) := bodyC
  have hn : Tryz.f180.name ≠ "runtime.NumGoroutine" := by decide
  simp [Tryz.func180, hb, hn]
theorem toldW {E : Evl} (hE : ∀ c s r, E c s = some r → ∃ n, exA Tryz.prog mA (callN Tryz.prog mA n) n c s = some r) : ToldOk Tryz.prog 153 (gW E) := by
  refine ⟨⟨Tryz.f153, Tryz.func153, by rw [bodyW]; rfl, by decide⟩, fun args h c r h' c' e => ?_⟩
  unfold gW at e
  replace e := Option.bind_eq_some_iff.mp e; obtain ⟨⟨e1, s1⟩, hA, e⟩ := e
  cases e1 with
  | exit i => cases e
  | ret => cases e
  | pan t k n => cases e
  | normal =>
  simp only at e
  split at e
  rotate_left
  · cases e
  rename_i l i f h7
  replace e := Option.bind_eq_some_iff.mp e; obtain ⟨⟨e4, s4⟩, hW, e⟩ := e
  unfold endW at e
  replace e := Option.bind_eq_some_iff.mp e; obtain ⟨⟨x, s4'⟩, hrec, e⟩ := e
  replace e := Option.bind_eq_some_iff.mp e; obtain ⟨b, hb4, e⟩ := e
  split at e
  · cases e
  rename_i hbz
  replace e := Option.bind_eq_some_iff.mp e; obtain ⟨s6, hC, e⟩ := e
  obtain ⟨rs, hrs, e⟩ := Option.map_eq_some_iff.mp e
  cases e
  have hs4 : s4 = s4' := by cases e4 <;> cases hrec <;> rfl
  subst hs4
  unfold closeW at hC
  replace hC := Option.bind_eq_some_iff.mp hC; obtain ⟨⟨e6, s6'⟩, hC, e⟩ := hC
  have he6 : e6 = .normal ∧ s6 = s6' := by cases e6 <;> cases e <;> exact ⟨rfl, rfl⟩
  obtain ⟨rfl, rfl⟩ := he6
  have K1 := code_ok hE okWA hA
  have K2 := code_ok hE okW hW
  have K3 := code_ok hE okRC hC
  have c1 := (K1 [] 0).1
  have c2 := (K2 [] 0).1
  have c3 := (K3 [] 0).1
  simp only at c1 c2 c3 hb4 hrs
  refine ⟨by omega, fun ρ F base w vs R hb hF fr hl => (callsIn_wide (n := 0)).1 (callsIn_of_wp_marks Tryz.func153 bodyW trivial ?_)⟩
  have S0 := start_sr (nt := Tryz.f153.ntmps) (c := c) ρ F base w vs R hl
  refine wpIn_seq ((K1 [] w.heap.size).2 ρ F base _ w S0 hb hF (fun l h3 h4 => fr l h3 (Nat.lt_of_lt_of_le h4 (by omega))) _ ?_)
  intro ρ1 a1 w1 S1 W1 D1
  have D1 : a1.defers = [] := D1 rfl
  simp only at W1
  show Code.wpIn _ _ _ _ _ a1 w1
  refine wpIn_seq (wpIn_region ?_)
  rw [show List.range opsWB.size = [0, 1] from rfl, wpOpsIn_cons]
  have hb1 : base ≤ w1.heap.size := Nat.le_trans hb W1.bel.size
  have fr1 := W1.fr fr c1
  have hst : stepA Tryz.prog mA (run Tryz.prog mA) opsWB opW0 s1 = some (.normal, ⟨upd s1.t (some 9) (.fn 180 [.ptr l i f]), s1.h, s1.c⟩) := by
    rw [← h7]
    rfl
  obtain ⟨n0, hn0⟩ := exL_fin (P := Tryz.prog) (md := mA) (c := .region 1 #[opW0] false) (s := s1) (r := (.normal, ⟨upd s1.t (some 9) (.fn 180 [.ptr l i f]), s1.h, s1.c⟩)) (by rw [← h7]; rfl)
  have hst : stepA Tryz.prog mA (callN Tryz.prog mA n0) opsWB opW0 s1 = some (.normal, ⟨upd s1.t (some 9) (.fn 180 [.ptr l i f]), s1.h, s1.c⟩) := by
    rw [← h7]
    rfl
  refine (step_sound (D0 := []) (nt := 32) (n0 := w.heap.size) (rd := none) (P := Tryz.prog) (md := mA) (ops := opsWB) fnsA.mdOk (callN_sound mixA fnsA n0) hst (fun x hx => by cases hx; decide)).2 ρ1 F base a1 w1 S1 hb1 hF (fun l h3 h4 => fr1 l h3 (Nat.lt_of_lt_of_le h4 (show s1.c ≤ s6.c by omega))) 0 _ _ rfl ?_
  intro ρ2 a2 w2 S2 W2 D2
  simp only [KQ]
  rw [wpOpsIn_cons]
  simp only at W2
  have D2 : a2.defers = [] := D2.trans D1
  -- the closure
  have hv9 := S2.tmp 9
  simp only [upd, if_true] at hv9
  obtain ⟨cv, g9, hsz9, hA9, hV9⟩ : ∃ (cv : Array Value) (g : Nat → Value), a2.tmps.getD 9 undef = .func (.func 180) #[] cv ∧ (cv.size = 1 ∧ ∃ v, cv[0]? = some v ∧ VR w2.heap (FF F s1.h ρ2) ρ2 (.ptr l i f) v) ∧ True := by
    revert hv9
    generalize a2.tmps.getD 9 undef = y
    intro hv9
    cases hv9 with
    | fn _ _ _ cv g hn hA hV => exact ⟨cv, g, rfl, ⟨by simpa using hn, g 0, hA 0 _ rfl, hV 0 _ rfl⟩, trivial⟩
  obtain ⟨hcs, cp, hcp, hcv⟩ := hA9
  have hcv1 : cv = #[cp] := by
    apply Array.ext
    · simpa using hcs
    · intro j h1 h2
      have : j = 0 := by simp at h2; omega
      subst this
      rw [Array.getElem?_eq_getElem h1] at hcp
      simpa using hcp
  subst hcv1
  -- the deferred call
  have hdef : (execOp a2.eval opW1).run Tryz.prog w2 = .ok (.defer { target := .fn (.func 180) #[cp], args := #[] }) w2 := by
    have h9 : a2.eval (.tmp 9) = .func (.func 180) #[] #[cp] := hsz9
    simp [execOp, opW1, resolve, h9, Deferred.ofValue]
  unfold wpOpIn
  rw [show opsWB[1]? = some opW1 from rfl]
  simp only
  rw [show Region.wanted opW1 (yielded opsWB a2.tmps) = true from rfl]
  simp only [if_true]
  refine ⟨fun _ _ => trivial, ?_⟩
  rw [show opW1.semAt Fence.wide.round a2.eval = execOp a2.eval opW1 from Oper.semAt_none _ _, hdef]
  show Code.wpIn _ _ _ _ _ _ w2
  generalize hd : ({ target := .fn (.func 180) #[cp], args := #[] } : Deferred) = d
  have S3 : SR [d] 32 w.heap.size ρ2 F base ⟨upd s1.t (some 9) (.fn 180 [.ptr l i f]), s1.h, s1.c⟩ ({ a2 with defers := d :: a2.defers }.put opW1.dst undef) w2 :=
    ⟨S2.rel, S2.tmp, by show Marks [d] _ _ _ (d :: a2.defers); rw [D2]; exact Marks.nil [d], S2.n0le, S2.siz⟩
  have W12 := W1.trans W2 c1 (Nat.le_refl _)
  have hb2 : base ≤ w2.heap.size := Nat.le_trans hb W12.bel.size
  have fr2 := W12.fr fr c1
  have fr24 : Fr ρ2 s1.c s4.c := fun l h3 h4 => fr2 l h3 (by omega)
  refine (K2 [d] w.heap.size).2 ρ2 F base _ w2 S3 hb2 hF fr24 _ ?_
  intro ρ4 a4 w4 S4 W4 _
  simp only at W4
  have W14 := W12.trans W4 c1 c2
  have hb4' : base ≤ w4.heap.size := Nat.le_trans hb W14.bel.size
  have fr4 : Fr ρ4 s4.c s6.c := W14.fr fr (by omega)
  have key : ∀ (u : FrameMode) (xv : Value), u ≠ .run → (∀ (H : Array Obj) (F : Nat → Prop) (ρ : Pls), VR H F ρ x xv) →
      (∀ (c0 : Frame) (cs : List Frame), c0.mode = u → ∃ u', settle u' = .returning ∧ ((recoverD (c0 :: cs) = some (xv, { c0 with mode := u' } :: cs)) ∨ (recoverD (c0 :: cs) = none ∧ u' = u ∧ xv = .nilIface))) →
      LeavesInM Fence.wide 0 Tryz.prog Tryz.f153 a4.tmps (fun e w' => Ends ρ F base h w c (one rs) s6.h s6.c e w') a4.defers u w4 := by
    intro u xv hu hxv hrecd
    refine leave_marks (D0 := [d]) (n0 := w.heap.size) (nt := 32) (s := s4) (ρ := ρ4) (F := F) (base := base) hu a4.defers w4 S4 hb fun w5 S5 hbel hsz => ?_
    obtain ⟨m5, b5⟩ := way_marks hb W14 hbel hsz
    subst hd
    refine ⟨hu, .inr ⟨fun h => (by cases h), .func 180, #[cp], 180, #[] ++ #[cp], rfl, by simp only [invoke]; exact func180_enter _ _, fun _ _ => trivial, ?_⟩⟩
    refine callsDIn_of_wpSIn Tryz.func180 bodyC trivial fun c0 cs hc0 => wpSIn_seq (wpSIn_region ?_)
    obtain ⟨u', hset, hrd⟩ := hrecd c0 cs hc0
    -- what the closure's frame holds
    have hρ4 : Sub ρ2 ρ4 := W4.sub fr24
    have hcp5 : VR w5.heap (FF F s4.h ρ4) ρ4 (.ptr l i f) cp := by
      cases hcv with
      | ptr _ _ _ _ k o sz hρ hk =>
        refine .ptr ρ4 l i f k o sz (hρ4 _ _ hρ) ?_
        obtain ⟨k', o', g1, g2, g3⟩ := S5.rel.own l b hb4
        rw [hρ4 _ _ hρ] at g1
        cases g1
        cases g3 with
        | cells cs T hk => exact ⟨cs, T, _, hk⟩
        | loop _ _ _ _ _ _ _ r ho hb => exact absurd (by rw [hb]) hbz
        | map _ _ _ ho hb => exact absurd (by rw [hb]; rfl) hbz
    have SC0 := start_sr (nt := Tryz.f180.ntmps) (args := [.ptr l i f]) (c := s4.c) ρ4 F base w5 [cp] S5.rel (LR.cons hcp5 LR.nil)
    have SC : SR [] 11 w5.heap.size ρ4 F base ⟨upd (init [.ptr l i f]) (some 4) x, s4.h, s4.c⟩ (({ tmps := [cp].toArray ++ Array.replicate (Tryz.f180.ntmps - [cp].toArray.size) undef, defers := [] } : Act).put (some 4) xv) w5 :=
      SC0.put (fun x hx => by cases hx; decide) S5.rel (hxv _ _ _) (Mv.refl _ _) (Sub.refl _)
    have hb5 : base ≤ w5.heap.size := by rw [hsz]; exact hb4'
    have fin5 : ∀ cs', cs' = { c0 with mode := u' } :: cs → Code.wpSIn Fence.wide (0 - 1) Tryz.prog restC (bodyPostS Tryz.prog Tryz.f180 c0 cs fun
          | .returned _, u', w' => LeavesInM Fence.wide 0 Tryz.prog Tryz.f153 a4.tmps (fun e w' => Ends ρ F base h w c (one rs) s6.h s6.c e w') [] (settle u') w'
          | .panicked chain, u', w' => LeavesInM Fence.wide 0 Tryz.prog Tryz.f153 a4.tmps (fun e w' => Ends ρ F base h w c (one rs) s6.h s6.c e w') [] (raised u' chain) w'
          | .outgrown, _, w' => Ends ρ F base h w c (one rs) s6.h s6.c .outgrown w') (({ tmps := [cp].toArray ++ Array.replicate (Tryz.f180.ntmps - [cp].toArray.size) undef, defers := [] } : Act).put (some 4) xv) cs' w5 := by
      intro cs' hcs'
      refine wpSIn_of_wpIn rfl ?_
      refine (K3 [] w5.heap.size).2 ρ4 F base _ w5 SC hb5 hF fr4 _ ?_
      intro ρ6 a6 w6 S6 W6 D6
      simp only at W6
      obtain ⟨uv, _, hrun⟩ := results_run (fn := Tryz.f180) S6 (vs := []) rfl
      refine ⟨D6 plainRC, u', hcs', uv, hrun, ?_⟩
      show LeavesInM _ _ _ _ _ _ [] (settle u') w6
      rw [hset]
      have sub6 : Sub ρ4 ρ6 := W6.sub fr4
      have S7 : SR [] 32 w.heap.size ρ6 F base ⟨s4.t, s6.h, s6.c⟩ ⟨a4.tmps, []⟩ w6 :=
        ⟨S6.rel, fun i => (S5.tmp i).mono W6.mv sub6, Marks.nil [], Nat.le_trans S5.n0le W6.mv.le, S5.siz⟩
      obtain ⟨ur, hur, hrunr⟩ := results_run (fn := Tryz.f153) S7 hrs
      refine ⟨ur, hrunr, .inl ⟨ur, rfl, ρ6, S6.rel, hur, fun l' hl' => ?_, m5.trans W6.mv, b5.trans W6.bel⟩⟩
      rw [W6.out l' (by omega), W14.out l' (by omega)]
    -- recover
    show wpOpsSIn _ _ _ _ _ [0] _ _ _
    simp only [wpOpsSIn]
    rw [show (#[opC] : Array Oper)[0]? = some opC from rfl]
    simp only
    refine ⟨fun _ _ => trivial, ?_⟩
    rw [show ∀ t, Region.wanted opC t = true from fun t => rfl]
    simp only [if_true]
    have hro : ∀ (a : Act), (execOp a.eval opC).run Tryz.prog w5 = .ok .recover w5 := by
      intro a
      simp [execOp, opC, resolve, invoke, builtin]
    rw [hro]
    simp only
    rcases hrd with hrd | ⟨hrd, rfl, rfl⟩
    · rw [hrd]
      exact fin5 _ rfl
    · rw [hrd]
      exact fin5 _ (by rw [← hc0])
  -- how the body ended
  cases e4 with
  | exit i => cases hrec
  | normal =>
    cases hrec
    exact key .returning .nilIface (by simp) (fun _ _ _ => .val _ _ rfl) fun c0 cs hc0 => ⟨.returning, rfl, .inr ⟨by simp [recoverD, hc0], rfl, rfl⟩⟩
  | ret =>
    cases hrec
    exact key .returning .nilIface (by simp) (fun _ _ _ => .val _ _ rfl) fun c0 cs hc0 => ⟨.returning, rfl, .inr ⟨by simp [recoverD, hc0], rfl, rfl⟩⟩
  | pan t k n =>
    cases hrec
    exact key (.panicking (panChain t k n)) (.iface t (.int k n)) (by simp) (fun _ _ _ => .val _ _ rfl) fun c0 cs hc0 => ⟨.panicking [{ v := .iface t (.int k n), recovered := true }], rfl, .inl (by simp [recoverD, hc0, panChain])⟩
/-- .. whatever number of rounds it takes. -/
noncomputable abbrev gWhole : List AV → Heap → Nat → Option (AV × Heap × Nat) := gW (exL Tryz.prog mA)
theorem told153 : ToldOk Tryz.prog 153 gWhole := toldW fun _ _ _ h => exL_fin h
/-- .. with this number of rounds. -/
noncomputable abbrev gWholeN (n : Nat) : List AV → Heap → Nat → Option (AV × Heap × Nat) := gW (exA Tryz.prog mA (callN Tryz.prog mA n) n)
theorem told153N (n : Nat) : ToldOk Tryz.prog 153 (gWholeN n) := toldW fun _ _ _ h => ⟨n, h⟩
end Go.Proofs.YtmpcjfkfgjpebaaGreatDoor.AM
