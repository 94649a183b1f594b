/- Every operation. -/
import Derived.Test.YtgbdbenepnbajaaGreatDoorAmCall
import Derived.Laws.BytesArg
namespace Go.Proofs.YtgbdbenepnbajaaGreatDoor.AM
open Go Go.RowKit
set_option linter.unusedVariables false
set_option linter.unusedSimpArgs false

section
variable {P : Program} {md : Nat → Option CMode} {orc : Orc} {h : Heap} {c : Nat}

theorem builtin_sound {b : Builtin} {ts : Array TypeId} {as : List AV} {v : AV} {h' : Heap} {c' : Nat} (e : builtinA P b ts.toList h c as = some (v, h', c')) : c ≤ c' ∧
    ∀ (ρ : Pls) (F : Nat → Prop) (base : Nat) (w : World) (vs : Array Value) (ty : TypeId) (cons : Array Bool), Rel ρ F base h w.heap → base ≤ w.heap.size → Fr ρ c c' → LR w.heap (FF F h ρ) ρ as vs.toList →
      Hits P (builtin b ts ty cons vs) w fun u w' => ∃ ρ', Good ρ F base h w c v h' c' u w' ρ' := by
  unfold builtinA at e
  split at e
  · -- len
    rename_i t ts' x xs hts
    split at e
    · rename_i s
      split at e
      · rename_i ht
        cases e
        refine ⟨Nat.le_refl _, fun ρ F base w vs ty cons R hb fr hl => ?_⟩
        obtain ⟨a, r, hvs, ha, _⟩ := hl.uncons
        cases ha
        refine hits_value (w' := w) (len_str (t := t) ht (by rw [← Array.getElem?_toList, hts]; rfl) (by rw [← Array.getElem?_toList, hvs]; rfl)) ⟨ρ, good_same R (.val _ _ rfl)⟩
      · cases e
    · rename_i x _
      split at e
      · rename_i ht
        obtain ⟨n, hn, e⟩ := Option.map_eq_some_iff.mp e
        cases e
        refine ⟨Nat.le_refl _, fun ρ F base w vs ty cons R hb fr hl => ?_⟩
        obtain ⟨a, r, hvs, ha, _⟩ := hl.uncons
        refine hits_value (w' := w) (len_sound (t := t) ha ht hn (by rw [← Array.getElem?_toList, hts]; rfl) (by rw [← Array.getElem?_toList, hvs]; rfl)) ⟨ρ, good_same R (.val _ _ rfl)⟩
      · cases e
  · -- append
    rename_i t t' s x hts
    split at e
    · rename_i ht
      have hts' : ts = #[t, t'] := by rw [← Array.toArray_toList (xs := ts), hts]
      subst hts'
      by_cases hle : c ≤ c'
      · refine ⟨hle, fun ρ F base w vs ty cons R hb fr hl => ?_⟩
        obtain ⟨a, r, hvs, ha, hl⟩ := hl.uncons
        obtain ⟨b, r, rfl, hb', hl⟩ := hl.uncons
        obtain rfl : r = [] := by have := hl.1; simpa using this
        have hvs' : vs = #[a, b] := by rw [← Array.toArray_toList (xs := vs), hvs]
        subst hvs'
        obtain ⟨_, u, w', hr, g⟩ := append_sound (ty := ty) R hb ha hb' ht e fr
        exact hits_value hr g
      · exfalso
        unfold appendA at e
        simp only [Option.bind_eq_some_iff] at e
        obtain ⟨_, _, _, _, _, _, _, _, _, _, e⟩ := e
        split at e
        · split at e
          · split at e <;> first | (cases e; omega) | cases e
          · split at e
            · split at e <;> first | (cases e; omega) | cases e
            · split at e <;> first | (cases e; omega) | cases e
            · simp only [Option.bind_eq_some_iff] at e
              obtain ⟨_, _, e⟩ := e
              split at e <;> first | (cases e; omega) | cases e
            · cases e
        · cases e
    · cases e
  · -- max
    rename_i x r
    obtain ⟨y, hy, e⟩ := Option.map_eq_some_iff.mp e
    cases e
    refine ⟨Nat.le_refl _, fun ρ F base w vs ty cons R hb fr hl => ?_⟩
    obtain ⟨a, rs, hvs, ha, hl⟩ := hl.uncons
    obtain ⟨u, hu, hr⟩ := fold_max (P := P) (w := w) _ _ _ _ _ ha hl hy
    refine hits_value (w' := w) (u := u) ?_ ⟨ρ, good_same R hu⟩
    unfold Builtin.max_
    rw [hvs]
    exact hr
  · -- min
    rename_i x r
    obtain ⟨y, hy, e⟩ := Option.map_eq_some_iff.mp e
    cases e
    refine ⟨Nat.le_refl _, fun ρ F base w vs ty cons R hb fr hl => ?_⟩
    obtain ⟨a, rs, hvs, ha, hl⟩ := hl.uncons
    obtain ⟨u, hu, hr⟩ := fold_min (P := P) (w := w) _ _ _ _ _ ha hl hy
    refine hits_value (w' := w) (u := u) ?_ ⟨ρ, good_same R hu⟩
    unfold Builtin.min_
    rw [hvs]
    exact hr
  · -- unsafe.SliceData
    split at e
    · rename_i hn
      cases e
      refine ⟨Nat.le_refl _, fun ρ F base w vs ty cons R hb fr hl => ?_⟩
      obtain ⟨a, r, hvs, ha, hl⟩ := hl.uncons
      obtain rfl : r = [] := by have := hl.1; simpa using this
      have hvs' : vs = #[a] := by rw [← Array.toArray_toList (xs := vs), hvs]
      subst hvs'
      obtain ⟨z, hz, hv⟩ := data_sound (P := P) (ts := ts) (ty := ty) R ha hn
      exact hits_value hz ⟨ρ, good_same R hv⟩
    · cases e
  · cases e
    refine ⟨Nat.le_refl _, fun ρ F base w vs ty cons R hb fr hl => ?_⟩
    obtain ⟨a, r, hvs, ha, hl⟩ := hl.uncons
    obtain rfl : r = [] := by have := hl.1; simpa using this
    have hvs' : vs = #[a] := by rw [← Array.toArray_toList (xs := vs), hvs]
    subst hvs'
    cases ha with
    | ro _ _ _ A cap sz f hc hn hz hs hA hV =>
      obtain rfl : A = none := hn.2 rfl
      exact hits_value (Go.Lib.run_unsafeSliceData_nil w ts ty _ _) ⟨ρ, good_same R (.val _ _ rfl)⟩
  · -- unsafe.String
    rename_i t t' hts
    cases e
    have hts' : ts = #[t, t'] := by rw [← Array.toArray_toList (xs := ts), hts]
    subst hts'
    refine ⟨Nat.le_refl _, fun ρ F base w vs ty cons R hb fr hl => ?_⟩
    obtain ⟨a, r, hvs, ha, hl⟩ := hl.uncons
    obtain ⟨b, r, rfl, hb', hl⟩ := hl.uncons
    obtain rfl : r = [] := by have := hl.1; simpa using this
    have hvs' : vs = #[a, b] := by rw [← Array.toArray_toList (xs := vs), hvs]
    subst hvs'
    cases ha
    cases hb'
    exact hits_value (Go.Lib.run_unsafeString_none w t t' ty none) ⟨ρ, good_same R (.val _ _ rfl)⟩
  · rename_i t t' l i n hts
    have hts' : ts = #[t, t'] := by rw [← Array.toArray_toList (xs := ts), hts]
    subst hts'
    obtain ⟨bk, hbk, e⟩ := Option.bind_eq_some_iff.mp e
    split at e
    · rename_i hc
      obtain ⟨bs, hbs, e⟩ := Option.map_eq_some_iff.mp e
      cases e
      refine ⟨Nat.le_refl _, fun ρ F base w vs ty cons R hb fr hl => ?_⟩
      obtain ⟨a, r, hvs, ha, hl⟩ := hl.uncons
      obtain ⟨b, r, rfl, hb', hl⟩ := hl.uncons
      obtain rfl : r = [] := by have := hl.1; simpa using this
      have hvs' : vs = #[a, b] := by rw [← Array.toArray_toList (xs := vs), hvs]
      subst hvs'
      cases hb'
      obtain ⟨w', hr, g⟩ := unsStr_sound (c := c) (it := t') (ty := ty) R ha hbk hc.1 hc.2.1 hc.2.2.1 hc.2.2.2.1 hc.2.2.2.2.1 hc.2.2.2.2.2 hbs
      exact hits_value hr g
    · cases e
  · -- copy
    rename_i t t' l sz off n x hts
    have hts' : ts = #[t, t'] := by rw [← Array.toArray_toList (xs := ts), hts]
    subst hts'
    obtain ⟨el, h1, e⟩ := Option.bind_eq_some_iff.mp e
    obtain ⟨s, h2, e⟩ := Option.bind_eq_some_iff.mp e
    obtain ⟨bk, hbk, e⟩ := Option.bind_eq_some_iff.mp e
    obtain ⟨xs, hxs, e⟩ := Option.bind_eq_some_iff.mp e
    split at e
    · rename_i hc
      cases e
      obtain ⟨c1, rfl, c3, c4, c5⟩ := hc
      refine ⟨Nat.le_refl _, fun ρ F base w vs ty cons R hb fr hl => ?_⟩
      obtain ⟨a, r, hvs, ha, hl⟩ := hl.uncons
      obtain ⟨b, r, rfl, hb', hl⟩ := hl.uncons
      obtain rfl : r = [] := by have := hl.1; simpa using this
      have hvs' : vs = #[a, b] := by rw [← Array.toArray_toList (xs := vs), hvs]
      subst hvs'
      obtain ⟨w', hr, g⟩ := copy_sound (c := c) (ty := ty) R ha hb' h1 h2 hbk hxs c1 c3 c4 c5
      exact hits_value hr g
    · cases e
  · cases e

theorem LR.map {H : Array Obj} {F : Nat → Prop} {ρ : Pls} {t : Nat → AV} {a : Act} (T : ∀ i, VR H F ρ (t i) (a.tmps.getD i undef)) (xs : Array Operand) : LR H F ρ (xs.toList.map (evA t)) (xs.map a.eval).toList := by
  refine ⟨by simp, fun i x hx => ?_⟩
  rw [List.getElem?_map] at hx
  obtain ⟨o, ho, rfl⟩ := Option.map_eq_some_iff.mp hx
  exact ⟨a.eval o, by simp [ho], ev_sound T o⟩

theorem flat1 (ns : List Int) : (ns.map (fun n => [AV.val (.int .u8 n)])).flatten = ns.map (fun n => AV.val (.int .u8 n)) := by
  induction ns with
  | nil => rfl
  | cons n ns ih => simp only [List.map_cons, List.flatten_cons, ih, List.singleton_append]

theorem opA_nodefer {t : Nat → AV} {op : Op} {r : AV × Heap × Nat} (e : opA P md orc t h c op = some r) : ∀ cl, op ≠ .defer cl := by
  intro cl h
  subst h
  cases e

/-- A row's bytes. -/
theorem conv_sound {F : Nat → Prop} {ρ : Pls} {base : Nat} {w : World} {src dst : TypeId} {x v : AV} {u : Value} (R : Rel ρ F base h w.heap) (hx : VR w.heap (FF F h ρ) ρ x u) (e : convA P src dst h x = some v) :
    ∃ z, VR w.heap (FF F h ρ) ρ v z ∧ (convert src dst u).run P w = .ok z w := by
  by_cases hp : ∃ l i f, x = .ptr l i f
  · obtain ⟨l, i, f, rfl⟩ := hp
    exact uns_sound R hx e
  unfold convA at e
  split at e
  · rename_i k n
    split at e
    · rename_i hs
      split at e
      · rename_i k2 hd
        cases e
        cases hx
        obtain ⟨d, hd'⟩ := Option.isSome_iff_exists.mp hs
        exact ⟨_, .val _ _ rfl, by simp [convert, run_underlying hd', run_underlying hd, Conv.intToInt, intV]⟩
      · cases e
    · cases e
  · exact absurd ⟨_, _, _, rfl⟩ hp
  replace e := Option.bind_eq_some_iff.mp e; obtain ⟨el, h1, e⟩ := e
  split at e
  · rename_i he
    split at e
    · rename_i hd
      replace e := Option.bind_eq_some_iff.mp e; obtain ⟨es, h2, e⟩ := e
      obtain ⟨bs, h3, e⟩ := Option.map_eq_some_iff.mp e
      subst e
      obtain ⟨k1, k2⟩ := mapM_some h3
      have hsl := slT_some h1
      have hst : P.underlying dst = some .string := by
        unfold stT at hd
        split at hd
        · assumption
        · cases hd
      have hlist : ∃ ns : List Int, es = ns.map (fun n => [AV.val (.int .u8 n)]) ∧ bs = ns.map fun n => UInt8.ofNat n.toNat := by
        refine ⟨bs.map fun b => (b.toNat : Int), ?_, ?_⟩
        · rw [bytes_of h3, List.map_map]; rfl
        · rw [List.map_map]
          have : ((fun n : Int => UInt8.ofNat n.toNat) ∘ fun b : UInt8 => (b.toNat : Int)) = id := by funext b; simp
          rw [this, List.map_id]
      obtain ⟨ns, rfl, rfl⟩ := hlist
      refine ⟨_, .val _ _ rfl, ?_⟩
      obtain ⟨A, cap, rfl, _, hne⟩ := els_sound R hx h2
      have hgen : ∀ a : Addr, A = some a → (loadCells a ns.length).run P w = .ok (ns.map (Value.int .u8)).toArray w := by
        intro a ha
        have hcell : ∀ (j : Nat) v, (ns.map (Value.int .u8))[j]? = some v → w.cell? (a.add j) = some v := by
          intro j v hj
          have hnn : ns.map (fun n => [AV.val (.int .u8 n)]) ≠ [] := by
            intro h0
            simp only [List.map_eq_nil_iff] at h0
            subst h0
            simp at hj
          obtain ⟨a', vs, ha', hl, _, hc⟩ := hne hnn
          rw [ha] at ha'
          cases ha'
          have hfl : (ns.map (fun n => [AV.val (.int .u8 n)])).flatten = ns.map (fun n => AV.val (.int .u8 n)) := flat1 ns
          rw [List.getElem?_map] at hj
          obtain ⟨n, hn, rfl⟩ := Option.map_eq_some_iff.mp hj
          obtain ⟨v', hv', hr⟩ := hl.2 j (.val (.int .u8 n)) (by rw [hfl, List.getElem?_map, hn]; rfl)
          cases hr
          exact hc j _ hv'
        have := run_loadCells_list (P := P) w a (ns.map (Value.int .u8)) hcell
        simpa using this
      rw [run_convert_bytes_string w src dst el A _ cap hsl he hst]
      cases A with
      | none =>
        have : ns = [] := by
          cases ns with
          | nil => rfl
          | cons n ns =>
            obtain ⟨a', vs, ha', _⟩ := hne (by simp)
            cases ha'
        subst this
        unfold Conv.bytesToString
        simp only [List.map_nil]
        rfl
      | some a =>
        have h9 := run_bytesToString (P := P) w a ns.length cap ns (hgen a rfl)
        rw [foldl_push_bytes] at h9
        have h10 : (ns.map (fun n => [AV.val (.int .u8 n)])).length = ns.length := by simp
        rw [h10, h9]
        have h11 : (⟨ByteArray.empty.data ++ (ns.map fun n => UInt8.ofNat n.toNat).toArray⟩ : ByteArray) = ⟨(ns.map fun n => UInt8.ofNat n.toNat).toArray⟩ := by
          have h12 : ByteArray.empty.data = #[] := rfl
          rw [h12, Array.empty_append]
        rw [h11]
    · cases e
  · cases e

theorem opA_sound (hm : MdOk P md) (ho : OrcOk P md orc) {t : Nat → AV} {a : Act} {o : Oper} {v : AV} {h' : Heap} {c' : Nat} (e : opA P md orc t h c o.op = some (v, h', c')) (hnp0 : v.isPan = false ∨ mayP o.op = false) : c ≤ c' ∧
    ∀ (ρ : Pls) (F : Nat → Prop) (base : Nat) (w : World), Rel ρ F base h w.heap → base ≤ w.heap.size → (∀ k, F k → k < base) → Fr ρ c c' → (∀ i, VR w.heap (FF F h ρ) ρ (t i) (a.tmps.getD i undef)) →
      Hits P (execOp a.eval o) w fun u w' => ∃ ρ', Good ρ F base h w c v h' c' u w' ρ' := by
  unfold execOp
  generalize o.op = op at e hnp0 ⊢
  unfold opA at e
  cases op <;> simp only at e ⊢
  case move x => cases e; exact ⟨Nat.le_refl _, fun ρ F base w R hb hF fr T => hits_pure ⟨ρ, good_same R (ev_sound T x)⟩⟩
  case assign x => cases e; exact ⟨Nat.le_refl _, fun ρ F base w R hb hF fr T => hits_pure ⟨ρ, good_same R (ev_sound T x)⟩⟩
  case pick x y z =>
    obtain ⟨r, hr, e⟩ := Option.map_eq_some_iff.mp e
    cases e
    refine ⟨Nat.le_refl _, fun ρ F base w R hb hF fr T => ?_⟩
    obtain ⟨u, hu, hrun⟩ := pick_sound (P := P) (w := w) (ev_sound T x) (ev_sound T y) (ev_sound T z) hr
    unfold Hits
    rw [hrun]
    exact ⟨ρ, good_same R hu⟩
  case alloc el =>
    have hle : c ≤ c' := by
      unfold allocA at e
      split at e <;> simp only [Option.bind_eq_some_iff] at e
      · obtain ⟨_, _, _, _, e⟩ := e
        split at e <;> first | (cases e; omega) | cases e
      · obtain ⟨_, _, e⟩ := e
        cases e; omega
    exact ⟨hle, fun ρ F base w R hb hF fr T => (alloc_sound R hb e fr).2⟩
  case box el x =>
    split at e
    · rename_i hok
      cases e
      exact ⟨by omega, fun ρ F base w R hb hF fr T => box_sound R hb (ev_sound T x) hok fr⟩
    · cases e
  case build ty parts =>
    split at e
    · cases e
    · rename_i hbl
      replace e := Option.bind_eq_some_iff.mp e; obtain ⟨z, hz, e⟩ := e
      obtain ⟨cs, hcs, e⟩ := Option.map_eq_some_iff.mp e
      cases e
      refine ⟨Nat.le_refl _, fun ρ F base w R hb hF fr T => ?_⟩
      obtain ⟨u, hu, hr⟩ := build_sound (P := P) (w := w) (by simpa using hbl) hz (PR.of T parts) hcs
      exact hits_value hr ⟨ρ, good_same R hu⟩
  case buildSlice ty n parts =>
    replace e := Option.bind_eq_some_iff.mp e; obtain ⟨el, h1, e⟩ := e
    replace e := Option.bind_eq_some_iff.mp e; obtain ⟨sz, h2, e⟩ := e
    replace e := Option.bind_eq_some_iff.mp e; obtain ⟨z, h3, e⟩ := e
    split at e
    · rename_i hn
      split at e
      · rename_i hp
        cases e
        refine ⟨Nat.le_refl _, fun ρ F base w R hb hF fr T => ?_⟩
        have : parts = #[] := by simpa using hp
        subst this
        subst hn
        simpa using buildSlice_emp (c := c) R hb h1 h2
      · cases e
    · rename_i hn
      split at e
      · rename_i hc
        obtain ⟨hz, h0, hmax⟩ := hc
        obtain ⟨es, hes, e⟩ := Option.bind_eq_some_iff.mp e
        cases hro : roSl ty
        · rw [hro] at e
          cases e
          exact ⟨by omega, fun ρ F base w R hb hF fr T => buildSlice_sound R hb h1 h2 h3 hz h0 (by omega) hmax (PR.of T parts) hes fr⟩
        · rw [hro] at e
          simp only [cond_true] at e
          split at e
          · rename_i hfl
            cases e
            exact ⟨Nat.le_refl _, fun ρ F base w R hb hF fr T => buildSlice_ro R hb hF h1 h2 h3 hz h0 (by omega) hmax (PR.of T parts) hes hfl⟩
          · cases e
      · cases e
  case load ty x =>
    replace e := Option.bind_eq_some_iff.mp e; obtain ⟨n, h1, e⟩ := e
    replace e := Option.bind_eq_some_iff.mp e; obtain ⟨ag, h2, e⟩ := e
    split at e
    · cases e
    · rename_i h3
      obtain ⟨cs, hcs, e⟩ := Option.map_eq_some_iff.mp e
      cases e
      exact ⟨Nat.le_refl _, fun ρ F base w R hb hF fr T => load_sound R h1 h2 h3 (ev_sound T x) hcs⟩
  case store ty x y =>
    replace e := Option.bind_eq_some_iff.mp e; obtain ⟨n, h1, e⟩ := e
    split at e
    · rename_i hc
      obtain ⟨h2, hs, e⟩ := Option.map_eq_some_iff.mp e
      cases e
      exact ⟨Nat.le_refl _, fun ρ F base w R hb hF fr T => store_sound R h1 (ev_sound T y) (ev_sound T x) hc.1 hc.2 hs⟩
    · cases e
  case nilCheck x =>
    split at e
    all_goals first
      | (cases e; done)
      | (rename_i hx
         cases e
         refine ⟨Nat.le_refl _, fun ρ F base w R hb hF fr T => ?_⟩
         have hv := ev_sound T x
         rw [hx] at hv
         unfold Hits
         revert hv
         generalize a.eval x = y
         intro hv
         cases hv <;> exact ⟨ρ, good_same R (by first | exact .ptr _ _ _ _ _ _ _ (by assumption) (by assumption) | exact .rptr _ _ _ _ (by assumption) (by assumption) | exact .fn _ _ _ _ _ (by assumption) (by assumption) (by assumption) | exact .fm _ _ _ _ _ _ _ (by assumption) (by assumption) (by assumption) (by assumption) | exact .arr _ _ _ _ _ _ (by assumption) (by assumption))⟩)
  case binOp op xt x y yt =>
    obtain ⟨r, hr, e⟩ := Option.map_eq_some_iff.mp e
    cases e
    refine ⟨Nat.le_refl _, fun ρ F base w R hb hF fr T => ?_⟩
    cases hy : nilC y
    · rw [hy] at hr
      obtain ⟨u, hu, hrun⟩ := bin_sound (P := P) (w := w) (X := x) (Y := y) (ev_sound T x) (ev_sound T y) hr
      exact hits_value hrun ⟨ρ, good_same R hu⟩
    · rw [hy] at hr
      obtain ⟨u, hu, hrun⟩ := ifc_sound (P := P) (w := w) (X := x) (Y := y) hy (ev_sound T x) hr
      have hev : a.eval y = .nilIface := by
        unfold nilC at hy
        split at hy
        · rfl
        · cases hy
      rw [hev]
      exact hits_value hrun ⟨ρ, good_same R hu⟩
  case unOp op xt x =>
    obtain ⟨r, hr, e⟩ := Option.map_eq_some_iff.mp e
    cases e
    refine ⟨Nat.le_refl _, fun ρ F base w R hb hF fr T => ?_⟩
    obtain ⟨u, hu, hrun⟩ := un_sound (P := P) (w := w) (ev_sound T x) hr
    exact hits_value hrun ⟨ρ, good_same R hu⟩
  case makeFunc fn first caps =>
    cases fn with
    | func f =>
      simp only at e
      split at e
      · rename_i hf
        cases e
        refine ⟨Nat.le_refl _, fun ρ F base w R hb hF fr T => ?_⟩
        have : first = #[] := by apply Array.ext'; simpa using hf
        subst this
        have hl := LR.map T caps
        obtain ⟨g, g1, g2⟩ := hl.fun
        refine hits_value (w' := w) (u := .func (.func f) #[] (caps.map a.eval)) (by simp [Instr.makeFunc]) ⟨ρ, good_same R (.fn _ _ _ _ g (by simp) (fun i x hx => by simpa using g1 i x hx) g2)⟩
      · rename_i bb hf
        cases e
        refine ⟨Nat.le_refl _, fun ρ F base w R hb hF fr T => ?_⟩
        have : first = #[bb] := by apply Array.ext'; simpa using hf
        subst this
        have hl := LR.map T caps
        obtain ⟨g, g1, g2⟩ := hl.fun
        refine hits_value (w' := w) (u := .func (.func f) #[a.eval bb] (caps.map a.eval)) (by simp [Instr.makeFunc]) ⟨ρ, good_same R (.fm _ _ _ _ _ _ g (by simp) (ev_sound T bb) (fun i x hx => by simpa using g1 i x hx) g2)⟩
      · cases e
    | _ => cases e
  case makeSlice ty n m =>
    have hle : c ≤ c' := by
      unfold makeA at e
      split at e
      · simp only [Option.bind_eq_some_iff] at e
        obtain ⟨_, _, _, _, _, _, _, _, e⟩ := e
        split at e <;> first | (cases e; omega) | cases e
      · cases e
    exact ⟨hle, fun ρ F base w R hb hF fr T => (make_sound R hb (ev_sound T n) (ev_sound T m) e fr).2⟩
  case slice ty x lo hi mx =>
    obtain ⟨r, hr, e⟩ := Option.map_eq_some_iff.mp e
    cases e
    refine ⟨Nat.le_refl _, fun ρ F base w R hb hF fr T => ?_⟩
    obtain ⟨u, hu, hrun⟩ := slice_sound (P := P) (w := w) (ev_sound T x) (OR.map T lo) (OR.map T hi) (OR.map T mx) hr
    exact hits_value hrun ⟨ρ, good_same R hu⟩
  case fieldAddr s x f =>
    obtain ⟨r, hr, e⟩ := Option.map_eq_some_iff.mp e
    cases e
    refine ⟨Nat.le_refl _, fun ρ F base w R hb hF fr T => ?_⟩
    obtain ⟨u, hu, hrun⟩ := fieldAddr_sound (P := P) (w := w) (ev_sound T x) hr
    exact hits_value hrun ⟨ρ, good_same R hu⟩
  case field s x f =>
    obtain ⟨r, hr, e⟩ := Option.map_eq_some_iff.mp e
    cases e
    refine ⟨Nat.le_refl _, fun ρ F base w R hb hF fr T => ?_⟩
    obtain ⟨u, hu, hrun⟩ := field_sound (P := P) (w := w) (ev_sound T x) hr
    exact hits_value hrun ⟨ρ, good_same R hu⟩
  case indexAddr s x i =>
    obtain ⟨r, hr, e⟩ := Option.map_eq_some_iff.mp e
    cases e
    refine ⟨Nat.le_refl _, fun ρ F base w R hb hF fr T => ?_⟩
    obtain ⟨u, hu, hrun⟩ := indexAddr_sound (P := P) (w := w) (ev_sound T x) (ev_sound T i) hr
    exact hits_value hrun ⟨ρ, good_same R hu⟩
  case index s x i =>
    obtain ⟨r, hr, e⟩ := Option.map_eq_some_iff.mp e
    cases e
    refine ⟨Nat.le_refl _, fun ρ F base w R hb hF fr T => ?_⟩
    obtain ⟨u, hu, hrun⟩ := index_sound (P := P) (w := w) (ev_sound T x) (ev_sound T i) hr
    exact hits_value hrun ⟨ρ, good_same R hu⟩
  case extract x i =>
    split at e
    · rename_i vs hx
      obtain ⟨r, hr, e⟩ := Option.map_eq_some_iff.mp e
      cases e
      refine ⟨Nat.le_refl _, fun ρ F base w R hb hF fr T => ?_⟩
      have hv := ev_sound T x
      rw [hx] at hv
      obtain ⟨u, hu, hrun⟩ := extract_sound (P := P) (w := w) hv hr
      exact hits_value hrun ⟨ρ, good_same R hu⟩
    · cases e
  case call cl =>
    obtain ⟨callee, args, argTypes⟩ := cl
    cases callee with
    | builtin b =>
      simp only at e
      obtain ⟨h1, h2⟩ := builtin_sound e
      refine ⟨h1, fun ρ F base w R hb hF fr T => ?_⟩
      exact h2 ρ F base w (args.map a.eval) o.type _ R hb fr (LR.map T args)
    | value f =>
      have hnp : v.isPan = false := hnp0.resolve_right (by simp [mayP])
      simp only at e
      split at e
      · rename_i g caps hg
        obtain ⟨h1, h2⟩ := callA_sound (P := P) hm ho (h := h) (c := c) (ρ := fun _ => none) (F := fun _ => False) (base := 0) (w := default) e hnp
        refine ⟨h1, fun ρ F base w R hb hF fr T => ?_⟩
        have hv := ev_sound T f
        rw [hg] at hv
        generalize hy : a.eval f = y at hv
        cases hv with
        | fn _ _ _ vs gg hn hA hV =>
          have hlr : LR w.heap (FF F h ρ) ρ (args.toList.map (evA t) ++ caps) ((args.map a.eval).toList ++ vs.toList) :=
            (LR.map T args).append ⟨by simpa using hn, fun i x hx => ⟨gg i, by simpa using hA i x hx, hV i x hx⟩⟩
          have hc := (callA_sound (P := P) hm ho (h := h) (c := c) (ρ := ρ) (F := F) (base := base) (w := w) e hnp).2 _ R hb hF fr hlr
          have hl2 : ((args.map a.eval).toList ++ vs.toList).toArray = (args.map a.eval) ++ vs := by
            apply Array.ext'; simp
          rw [hl2] at hc
          have hrun : (do let d ← resolve a.eval { callee := .value f, args, argTypes } o.type; invoke d.target d.args : Sem Next).run P w = (callFunc g ((args.map a.eval) ++ vs)).run P w := by
            simp [resolve, hy, Deferred.ofValue, invoke]
          unfold Hits
          rw [hrun]
          exact hc
      · rename_i g bb caps hg
        obtain ⟨h1, h2⟩ := callA_sound (P := P) hm ho (h := h) (c := c) (ρ := fun _ => none) (F := fun _ => False) (base := 0) (w := default) e hnp
        refine ⟨h1, fun ρ F base w R hb hF fr T => ?_⟩
        have hv := ev_sound T f
        rw [hg] at hv
        generalize hy : a.eval f = y at hv
        cases hv with
        | fm _ _ _ bv _ vs gg hn hbv hA hV =>
          have hlr : LR w.heap (FF F h ρ) ρ (bb :: (args.toList.map (evA t) ++ caps)) (bv :: ((args.map a.eval).toList ++ vs.toList)) :=
            LR.cons hbv ((LR.map T args).append ⟨by simpa using hn, fun i x hx => ⟨gg i, by simpa using hA i x hx, hV i x hx⟩⟩)
          have hc := (callA_sound (P := P) hm ho (h := h) (c := c) (ρ := ρ) (F := F) (base := base) (w := w) e hnp).2 _ R hb hF fr hlr
          have hl2 : (bv :: ((args.map a.eval).toList ++ vs.toList)).toArray = #[bv] ++ (args.map a.eval) ++ vs := by
            apply Array.ext'; simp
          rw [hl2] at hc
          have hrun : (do let d ← resolve a.eval { callee := .value f, args, argTypes } o.type; invoke d.target d.args : Sem Next).run P w = (callFunc g (#[bv] ++ (args.map a.eval) ++ vs)).run P w := by
            simp [resolve, hy, Deferred.ofValue, invoke]
          unfold Hits
          rw [hrun]
          exact hc
      · rename_i l hg
        split at e
        · rename_i hmd
          obtain ⟨r1, hr1, e⟩ := Option.bind_eq_some_iff.mp e
          have e1 : r1 = (v, h', c') := by
            split at e
            · cases e
            · cases e; rfl
          subst e1
          obtain ⟨h1, h2⟩ := ho _ _ _ _ _ _ _ hr1
          refine ⟨h1, fun ρ F base w R hb hF fr T => ?_⟩
          have hv := ev_sound T f
          rw [hg] at hv
          generalize hy : a.eval f = y at hv
          cases hv with
          | yld _ _ k hρ =>
            have hlr : LR w.heap (FF F h ρ) ρ (.yld l :: args.toList.map (evA t)) (.func (.yield k) #[] #[] :: (args.map a.eval).toList) := LR.cons (.yld ρ l k hρ) (LR.map T args)
            have hc := h2 ρ F base w _ R hb hF fr hlr
            unfold Meets at hc
            rw [hmd] at hc
            obtain ⟨k', us, fn, tmps, x, y, hvs, hrun, hround⟩ := hc
            simp only [List.cons.injEq, Value.func.injEq, Fn.yield.injEq] at hvs
            obtain ⟨⟨rfl, _⟩, rfl⟩ := hvs
            have hrun2 : (do let d ← resolve a.eval { callee := .value f, args, argTypes } o.type; invoke d.target d.args : Sem Next).run P w = .ok (.round k fn tmps x y) w := by
              simp only [Array.toArray_toList] at hrun
              simp [resolve, hy, Deferred.ofValue, invoke, hrun]
            unfold Hits
            rw [hrun2]
            exact RoundIn.mono hround fun e w'' x => x.ret hnp
        · cases e
      · cases e
    | invoke r m => cases e
  case convert src dst x =>
    obtain ⟨r, hr, e⟩ := Option.map_eq_some_iff.mp e
    cases e
    refine ⟨Nat.le_refl _, fun ρ F base w R hb hF fr T => ?_⟩
    obtain ⟨u, hu, hrun⟩ := conv_sound R (ev_sound T x) hr
    exact hits_value hrun ⟨ρ, good_same R hu⟩
  case makeInterface s x =>
    split at e
    · rename_i k n hx
      split at e
      · rename_i hs
        cases e
        refine ⟨Nat.le_refl _, fun ρ F base w R hb hF fr T => ?_⟩
        have hv := ev_sound T x
        rw [hx] at hv
        revert hv
        generalize a.eval x = y
        intro hv
        cases hv
        refine hits_value (w' := w) (u := .iface s (.int k n)) ?_ ⟨ρ, good_same R (.val _ _ rfl)⟩
        unfold coT at hs
        unfold Instr.makeInterface
        split at hs
        · cases hs
        · rename_i d hni hd
          rw [Sem.run_bind, run_underlying hd]
          simp only [Result.andThen_ok]
          try (split)
          all_goals first | rfl | (exact absurd rfl (hni _))
        · cases hs
      · cases e
    · cases e
  case typeAssert x xt s ok =>
    cases ok with
    | false => cases e
    | true =>
    simp only at e
    split at e
    · rename_i s' k n hx
      split at e
      · rename_i hs
        obtain ⟨hs, rfl⟩ := hs
        cases e
        refine ⟨Nat.le_refl _, fun ρ F base w R hb hF fr T => ?_⟩
        have hv := ev_sound T x
        rw [hx] at hv
        revert hv
        generalize a.eval x = y
        intro hv
        cases hv
        refine hits_value (w' := w) (u := .tuple #[.int k n, .bool true]) ?_ ⟨ρ, good_same R ((LR.cons (.val _ _ rfl) (LR.cons (.val _ _ rfl) LR.nil)).tup)⟩
        unfold coT at hs
        unfold Instr.typeAssert
        split at hs
        · cases hs
        · rename_i d hni hd
          rw [Sem.run_bind, run_underlying hd]
          simp only [Result.andThen_ok]
          cases d <;> first | (exact absurd rfl (hni _)) | simp
        · cases hs
      · cases e
    · cases e
  case panic x =>
    split at e
    · cases e; rcases hnp0 with hnp | hnp <;> cases hnp
    · cases e
  case makeMap s r =>
    cases r with
    | none =>
      cases e
      exact ⟨by omega, fun ρ F base w R hb hF fr T => by
        obtain ⟨h1, h2⟩ := mkMap_sound (P := P) R hb s fr
        exact hits_value h1 h2⟩
    | some r => cases e
  case mapUpdate s m k x =>
    split at e
    · rename_i l b i n hm' hk hx
      obtain ⟨el, h1, e⟩ := Option.bind_eq_some_iff.mp e
      obtain ⟨es, h2, e⟩ := Option.bind_eq_some_iff.mp e
      obtain ⟨es', h3, e⟩ := Option.map_eq_some_iff.mp e
      cases e
      refine ⟨Nat.le_refl _, fun ρ F base w R hb hF fr T => ?_⟩
      have v1 := ev_sound T m
      have v2 := ev_sound T k
      have v3 := ev_sound T x
      rw [hm'] at v1
      rw [hk] at v2
      rw [hx] at v3
      generalize a.eval k = yk at v2
      generalize a.eval x = yx at v3
      cases v2
      cases v3
      obtain ⟨w', hr, g⟩ := setMap_sound (P := P) (c := c) R h1 v1 h2 rfl h3
      exact hits_skip hr g
    · cases e
  case insert s m k x =>
    split at e
    · rename_i l b i n hm' hk hx
      obtain ⟨el, h1, e⟩ := Option.bind_eq_some_iff.mp e
      obtain ⟨es, h2, e⟩ := Option.bind_eq_some_iff.mp e
      obtain ⟨es', h3, e⟩ := Option.map_eq_some_iff.mp e
      cases e
      refine ⟨Nat.le_refl _, fun ρ F base w R hb hF fr T => ?_⟩
      have v1 := ev_sound T m
      have v2 := ev_sound T k
      have v3 := ev_sound T x
      rw [hm'] at v1
      rw [hk] at v2
      rw [hx] at v3
      generalize a.eval k = yk at v2
      generalize a.eval x = yx at v3
      cases v2
      cases v3
      obtain ⟨w', hr, g⟩ := setMap_sound (P := P) (c := c) R h1 v1 h2 rfl h3
      exact hits_skip hr g
    · cases e
  case lookup s m k cm =>
    cases cm with
    | true =>
      simp only at e
      split at e
      · rename_i l b hm' hk
        obtain ⟨el, h1, e⟩ := Option.bind_eq_some_iff.mp e
        obtain ⟨z, h2, e⟩ := Option.bind_eq_some_iff.mp e
        obtain ⟨es, h3, e⟩ := Option.bind_eq_some_iff.mp e
        obtain ⟨q, h4, e⟩ := Option.map_eq_some_iff.mp e
        cases e
        refine ⟨Nat.le_refl _, fun ρ F base w R hb hF fr T => ?_⟩
        have v1 := ev_sound T m
        have v2 := ev_sound T k
        rw [hm'] at v1
        rw [hk] at v2
        generalize a.eval k = yk at v2
        cases v2
        obtain ⟨u, hu, hr, _⟩ := look_sound (P := P) R h1 h2 v1 h3 h4
        refine hits_value hr ⟨ρ, good_same R ?_⟩
        have hl := (LR.cons hu (LR.cons (VR.val ρ (.bool q.isSome) rfl) LR.nil)).tup
        exact hl
      · cases e
    | false =>
      simp only at e
      split at e
      · rename_i l b hm' hk
        obtain ⟨el, h1, e⟩ := Option.bind_eq_some_iff.mp e
        obtain ⟨z, h2, e⟩ := Option.bind_eq_some_iff.mp e
        obtain ⟨es, h3, e⟩ := Option.bind_eq_some_iff.mp e
        obtain ⟨q, h4, e⟩ := Option.map_eq_some_iff.mp e
        cases e
        refine ⟨Nat.le_refl _, fun ρ F base w R hb hF fr T => ?_⟩
        have v1 := ev_sound T m
        have v2 := ev_sound T k
        rw [hm'] at v1
        rw [hk] at v2
        generalize a.eval k = yk at v2
        cases v2
        obtain ⟨u, hu, _, hr⟩ := look_sound (P := P) R h1 h2 v1 h3 h4
        exact hits_value hr ⟨ρ, good_same R hu⟩
      · cases e
  all_goals cases e

/-- An operation that panics. -/
theorem opA_pan (hm : MdOk P md) (ho : OrcOk P md orc) {t : Nat → AV} {a : Act} {o : Oper} {pt : Nat} {pk : IntKind} {pn : Int} {h' : Heap} {c' : Nat} (hmp : mayP o.op = true) (e : opA P md orc t h c o.op = some (.pan pt pk pn, h', c')) : c ≤ c' ∧
    ∀ (ρ : Pls) (F : Nat → Prop) (base : Nat) (w : World), Rel ρ F base h w.heap → base ≤ w.heap.size → (∀ k, F k → k < base) → Fr ρ c c' → (∀ i, VR w.heap (FF F h ρ) ρ (t i) (a.tmps.getD i undef)) →
      HitsP P (execOp a.eval o) w (panChain pt pk pn) fun w' => ∃ ρ', GoodP ρ F base h w c h' c' w' ρ' := by
  unfold execOp
  generalize o.op = op at e hmp ⊢
  unfold opA at e
  cases op <;> simp only [mayP] at hmp <;> try (cases hmp; done)
  case panic x =>
    simp only at e ⊢
    split at e
    · rename_i s k n hx
      cases e
      refine ⟨Nat.le_refl _, fun ρ F base w R hb hF fr T => ?_⟩
      have hv := ev_sound T x
      rw [hx] at hv
      revert hv
      generalize a.eval x = y
      intro hv
      cases hv
      unfold HitsP
      rw [show (do pure (.value (← Instr.panic (.iface pt (.int pk pn)))) : Sem Next).run P w = .halt (.panic (.iface pt (.int pk pn))) w from rfl]
      exact ⟨rfl, ρ, R, fun _ _ => rfl, Mv.refl _ _, Below.refl _ _⟩
    · cases e
  case call cl =>
    obtain ⟨callee, args, argTypes⟩ := cl
    cases callee with
    | builtin b => cases hmp
    | value f =>
      simp only at e
      split at e
      · rename_i g caps hg
        obtain ⟨h1, h2⟩ := callA_pan (P := P) hm ho (h := h) (c := c) (ρ := fun _ => none) (F := fun _ => False) (base := 0) (w := default) e
        refine ⟨h1, fun ρ F base w R hb hF fr T => ?_⟩
        have hv := ev_sound T f
        rw [hg] at hv
        generalize hy : a.eval f = y at hv
        cases hv with
        | fn _ _ _ vs gg hn hA hV =>
          have hlr : LR w.heap (FF F h ρ) ρ (args.toList.map (evA t) ++ caps) ((args.map a.eval).toList ++ vs.toList) :=
            (LR.map T args).append ⟨by simpa using hn, fun i x hx => ⟨gg i, by simpa using hA i x hx, hV i x hx⟩⟩
          have hc := (callA_pan (P := P) hm ho (h := h) (c := c) (ρ := ρ) (F := F) (base := base) (w := w) e).2 _ R hb hF fr hlr
          have hl2 : ((args.map a.eval).toList ++ vs.toList).toArray = (args.map a.eval) ++ vs := by
            apply Array.ext'; simp
          rw [hl2] at hc
          have hrun : (do let d ← resolve a.eval { callee := .value f, args, argTypes } o.type; invoke d.target d.args : Sem Next).run P w = (callFunc g ((args.map a.eval) ++ vs)).run P w := by
            simp [resolve, hy, Deferred.ofValue, invoke]
          unfold HitsP
          rw [hrun]
          exact hc
      · rename_i g bb caps hg
        obtain ⟨h1, h2⟩ := callA_pan (P := P) hm ho (h := h) (c := c) (ρ := fun _ => none) (F := fun _ => False) (base := 0) (w := default) e
        refine ⟨h1, fun ρ F base w R hb hF fr T => ?_⟩
        have hv := ev_sound T f
        rw [hg] at hv
        generalize hy : a.eval f = y at hv
        cases hv with
        | fm _ _ _ bv _ vs gg hn hbv hA hV =>
          have hlr : LR w.heap (FF F h ρ) ρ (bb :: (args.toList.map (evA t) ++ caps)) (bv :: ((args.map a.eval).toList ++ vs.toList)) :=
            LR.cons hbv ((LR.map T args).append ⟨by simpa using hn, fun i x hx => ⟨gg i, by simpa using hA i x hx, hV i x hx⟩⟩)
          have hc := (callA_pan (P := P) hm ho (h := h) (c := c) (ρ := ρ) (F := F) (base := base) (w := w) e).2 _ R hb hF fr hlr
          have hl2 : (bv :: ((args.map a.eval).toList ++ vs.toList)).toArray = #[bv] ++ (args.map a.eval) ++ vs := by
            apply Array.ext'; simp
          rw [hl2] at hc
          have hrun : (do let d ← resolve a.eval { callee := .value f, args, argTypes } o.type; invoke d.target d.args : Sem Next).run P w = (callFunc g (#[bv] ++ (args.map a.eval) ++ vs)).run P w := by
            simp [resolve, hy, Deferred.ofValue, invoke]
          unfold HitsP
          rw [hrun]
          exact hc
      · split at e
        · obtain ⟨r1, hr1, e⟩ := Option.bind_eq_some_iff.mp e
          split at e
          · cases e
          · rename_i hp
            cases e
            exact absurd rfl hp
        · cases e
      · cases e
    | invoke r m => cases hmp

/-- What an operation that does not panic answers. -/
theorem nopan_op {t : Nat → AV} {op : Op} {v : AV} {h' : Heap} {c' : Nat} (hn : noPan md op = true) (e : opA P md orc t h c op = some (v, h', c')) : v.isPan = false ∨ mayP op = false := by
  cases op <;> try exact .inr rfl
  case panic => cases hn
  case call cl =>
    obtain ⟨callee, args, argTypes⟩ := cl
    cases callee with
    | builtin b => exact .inr rfl
    | invoke r m => exact .inr rfl
    | value f =>
      cases f <;> simp only [noPan] at hn <;> try (cases hn; done)
      rename_i g
      left
      unfold opA at e
      simp only [evA] at e
      unfold callA at e
      cases hm : md g with
      | none => rw [hm] at e; cases e
      | some m =>
        rw [hm] at e hn
        cases m with
        | heap => cases hn
        | rnd => cases e
        | idt => cases hn
        | told g => cases hn
        | ext g =>
          simp only at e
          obtain ⟨as, h1, e⟩ := Option.bind_eq_some_iff.mp e
          obtain ⟨r1, h2, e⟩ := Option.bind_eq_some_iff.mp e
          split at e
          · rename_i hfl
            cases e
            cases v <;> first | rfl | cases hfl
          · cases e
        | own =>
          simp only at e
          obtain ⟨⟨r1, h1, c1⟩, hx, e⟩ := Option.bind_eq_some_iff.mp e
          simp only at e
          cases hp : r1.isPan
          · rw [hp] at e
            simp only [Bool.false_eq_true, if_false, Option.some.injEq] at e
            cases e
            exact hp
          · rw [hp] at e; simp at e
        | pure =>
          simp only at e
          obtain ⟨as, h1, e⟩ := Option.bind_eq_some_iff.mp e
          obtain ⟨⟨r1, h2, c1⟩, hx, e⟩ := Option.bind_eq_some_iff.mp e
          simp only at e
          obtain ⟨r', h3, e⟩ := Option.bind_eq_some_iff.mp e
          split at e
          · cases e
            exact frz_nopan _ _ _ h3
          · cases e

end
end Go.Proofs.YtgbdbenepnbajaaGreatDoor.AM
