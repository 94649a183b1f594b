/- Slices that are written out; append; len, max, min. -/
import Derived.Test.YtbaoaodimbcebaaDoorAmOps5
namespace Go.Proofs.YtbaoaodimbcebaaDoor.AM
open Go Go.RowKit
set_option linter.unusedVariables false
set_option linter.unusedSimpArgs false

section
variable {P : Program} {ρ : Pls} {F : Nat → Prop} {base : Nat} {h : Heap} {w : World} {c : Nat} {H : Array Obj}

theorem buildSlice_emp (R : Rel ρ F base h w.heap) (hb : base ≤ w.heap.size) {t e : TypeId} {sz : Nat} (ht : slT P t = some e) (hsz : szT P e = some sz) :
    Hits P (do pure (.value (← Instr.buildSlice t 0 #[]))) w fun u w' => ∃ ρ', Good ρ F base h w c .emp h c u w' ρ' := by
  refine hits_value (u := .slice (some ⟨w.heap.size, 0, none⟩) 0 0) (w' := w.alloc (.cells #[] e)) ?_ ⟨ρ, good_push R hb _ (.emp _ _)⟩
  simp [Instr.buildSlice, run_underlying (slT_some ht), run_sz hsz, Instr.fill, newRow, Array.range_zero']

theorem buildSlice_sound (R : Rel ρ F base h w.heap) (hb : base ≤ w.heap.size) {t e : TypeId} {n sz : Nat} {zs : List AV} {as : List (Nat × AV)} {vs : Array (Nat × Value)} {es : List (List AV)} (ht : slT P t = some e) (hsz : szT P e = some sz)
    (hz : zeT P e = some zs) (hzl : zs.length = sz) (h0 : 0 < sz) (hn : 0 < n) (hmax : n * sz ≤ 16777216) (hp : PR w.heap (FF F h ρ) ρ as vs.toList) (eb : buildRow sz as (List.replicate n zs) = some es) (fr : Fr ρ c (c + 1)) :
    Hits P (do pure (.value (← Instr.buildSlice t n vs))) w fun u w' => ∃ ρ', Good ρ F base h w c (.sl c sz 0 n) (h.put c (some ⟨sz, es, some e⟩)) (c + 1) u w' ρ' := by
  obtain ⟨i, z, hi, hzz, hl, h1⟩ := zeT_some hz
  have hzs : z.cells.size = sz := by have := (hl w.heap F ρ).1; simp at this; omega
  obtain ⟨us, g1, g2, g3, g4, g5⟩ := fillRow_sound (H := w.heap) (F := FF F h ρ) (ρ := ρ) as vs.toList (List.replicate n zs) es (madeCells z.cells (n * sz)) hp (replicate_len hzl) (zeros_row (hl _ _ _) hzl h0 n) (zeros_ones h1 hzs h0 _) eb
  have hus : us.size = n * sz := by
    have h2 := g2.1
    rw [flatten_len g3, g5] at h2
    simpa using h2
  obtain ⟨ρ', g⟩ := good_new (v := .sl c sz 0 n) (u := .slice (some ⟨w.heap.size, 0, none⟩) n n) R (fr c (Nat.le_refl _) (by omega)) hb ⟨sz, es, some e⟩ us e (fun _ h => by cases h; rfl) g3 g2 g4 (fun k v hk => by simpa using hk)
    (fun ρ' F' H' hρ hH => by
      have := VR.sl (H := H') (F := F') ρ' c sz 0 n w.heap.size 0 n hρ (Nat.le_refl _) ⟨_, _, _, hH, by simp [hus]⟩
      simpa using this)
  refine hits_value (w' := w.alloc (.cells us e)) (u := .slice (some ⟨w.heap.size, 0, none⟩) n n) ?_ ⟨ρ', g⟩
  have hne : ¬ n * sz = 0 := by
    have := Nat.mul_pos hn h0; omega
  have hm : ¬ (2 ^ 24 < n * sz) := by omega
  have hfill : Instr.fill (fun i => some (i * sz, sz)) (Array.map (fun x => z.cells[x % z.cells.size]!) (Array.range (n * sz))) vs.toList = some us := g1
  simp [Instr.buildSlice, run_underlying (slT_some ht), run_sz hsz, hm, hne, run_zero hi hzz, hfill, newRow]

/-! ### len, max, min -/
theorem len_sound {t : TypeId} {x : AV} {a : Value} {n : Nat} {ty : TypeId} {as : Array TypeId} {vs : Array Value} (hx : VR H F ρ x a) (ht : (slT P t).isSome = true) (e : lenA x = some n) (h1 : as[0]? = some t) (h2 : vs[0]? = some a) :
    (Builtin.len_ as ty vs).run P w = .ok (.int .i64 n) w := by
  obtain ⟨el, hel⟩ := Option.isSome_iff_exists.1 ht
  unfold lenA at e
  cases hx with
  | ro _ b es A cap sz f hc hn hz hs hA hV => cases e; simp [Builtin.len_, h1, h2, run_underlying (slT_some hel), goInt]
  | emp => cases e; simp [Builtin.len_, h1, h2, run_underlying (slT_some hel), goInt]
  | sl => cases e; simp [Builtin.len_, h1, h2, run_underlying (slT_some hel), goInt]
  | _ => cases e

theorem len_str {t : TypeId} {s : ByteArray} {ty : TypeId} {as : Array TypeId} {vs : Array Value} (ht : stT P t = true) (h1 : as[0]? = some t) (h2 : vs[0]? = some (.string s)) :
    (Builtin.len_ as ty vs).run P w = .ok (.int .i64 s.size) w := by
  have ht' : P.underlying t = some .string := by
    unfold stT at ht
    split at ht
    · assumption
    · cases ht
  simp [Builtin.len_, h1, h2, run_underlying ht', goInt]

theorem fold_max : ∀ (r : List AV) (x v : AV) (a : Value) (rs : List Value), VR H F ρ x a → LR H F ρ r rs → r.foldlM max2 x = some v → ∃ u, VR H F ρ v u ∧ (rs.foldlM Builtin.max2 a).run P w = .ok u w
  | [], x, v, a, rs, hx, hl, e => by
    have : rs = [] := by have := hl.1; simpa using this
    subst this
    cases e
    exact ⟨a, hx, rfl⟩
  | y :: r, x, v, a, rs, hx, hl, e => by
    obtain ⟨b, rs, rfl, hy, hr⟩ := hl.uncons
    simp only [List.foldlM_cons] at e ⊢
    obtain ⟨z, hz, e⟩ := Option.bind_eq_some_iff.mp e
    unfold max2 at hz
    split at hz
    · cases hx; cases hy; cases hz
      obtain ⟨u, hu, hru⟩ := fold_max r _ v _ rs (.val _ _ rfl) hr e
      exact ⟨u, hu, by simp [Builtin.max2]; exact hru⟩
    · cases hz

theorem fold_min : ∀ (r : List AV) (x v : AV) (a : Value) (rs : List Value), VR H F ρ x a → LR H F ρ r rs → r.foldlM min2 x = some v → ∃ u, VR H F ρ v u ∧ (rs.foldlM Builtin.min2 a).run P w = .ok u w
  | [], x, v, a, rs, hx, hl, e => by
    have : rs = [] := by have := hl.1; simpa using this
    subst this
    cases e
    exact ⟨a, hx, rfl⟩
  | y :: r, x, v, a, rs, hx, hl, e => by
    obtain ⟨b, rs, rfl, hy, hr⟩ := hl.uncons
    simp only [List.foldlM_cons] at e ⊢
    obtain ⟨z, hz, e⟩ := Option.bind_eq_some_iff.mp e
    unfold min2 at hz
    split at hz
    · cases hx; cases hy; cases hz
      obtain ⟨u, hu, hru⟩ := fold_min r _ v _ rs (.val _ _ rfl) hr e
      exact ⟨u, hu, by simp [Builtin.min2]; exact hru⟩
    · cases hz

/-! ### what a slice leads to -/
theorem els_sound (R : Rel ρ F base h w.heap) {x : AV} {y : Value} {es : List (List AV)} (hx : VR w.heap (FF F h ρ) ρ x y) (e : els h x = some es) :
    ∃ A cap, y = .slice A es.length cap ∧ (∃ sz, ∀ r ∈ es, r.length = sz) ∧
      (es ≠ [] → ∃ a vs, A = some a ∧ LR w.heap (FF F h ρ) ρ es.flatten vs ∧ ones vs ∧ ∀ (i : Nat) v, vs[i]? = some v → w.cell? (a.add i) = some v) := by
  unfold els at e
  cases hx with
  | ro _ n rs A cap sz f hc hn hz hs hA hV =>
    cases e
    refine ⟨A, cap, rfl, ⟨sz, hs⟩, fun hne => ?_⟩
    cases A with
    | none => exact absurd (hz (hn.1 rfl)).1 hne
    | some a =>
      have hfl := flatten_len hs
      have key : ∀ (k : Nat) x, es.flatten[k]? = some x → ∃ v, w.cell? (a.add k) = some v ∧ v.oneCell' = true ∧ VR w.heap (FF F h ρ) ρ x v := by
        intro k x hx
        obtain ⟨i, j, rfl, h2⟩ := flatten_at2 hs hx
        obtain ⟨a', ha', h3, h4, h5⟩ := hA i j x h2
        cases ha'
        exact ⟨f i j, h4, h5, (hV i j x h2).mono (Mv.refl _ _) (Sub.none _)⟩
      refine ⟨a, (List.range es.flatten.length).map fun k => (w.cell? (a.add k)).getD .nilFunc, rfl, ⟨by simp, fun k x hx => ?_⟩, fun v hv => ?_, fun k v hk => ?_⟩
      · obtain ⟨v, hv, h1, h2⟩ := key k x hx
        have hlt := (List.getElem?_eq_some_iff.1 hx).1
        exact ⟨v, by rw [List.getElem?_map, List.getElem?_range hlt]; simp [hv], h2⟩
      · obtain ⟨k, hk, rfl⟩ := List.mem_map.1 hv
        obtain ⟨v, hv, h1, h2⟩ := key k _ (List.getElem?_eq_getElem (List.mem_range.1 hk))
        simpa [hv] using h1
      · rw [List.getElem?_map] at hk
        obtain ⟨k', hk', e⟩ := Option.map_eq_some_iff.mp hk
        have hlt : k < es.flatten.length := by
          rcases Nat.lt_or_ge k es.flatten.length with hl | hl
          · exact hl
          · rw [List.getElem?_eq_none (by rw [List.length_range]; exact hl)] at hk'; cases hk'
        rw [List.getElem?_range hlt] at hk'
        cases hk'
        obtain ⟨v', hv', h1, h2⟩ := key k _ (List.getElem?_eq_getElem hlt)
        rw [hv'] at e ⊢
        simpa using e
  | emp _ a => cases e; exact ⟨_, _, rfl, ⟨0, fun r hr => by cases hr⟩, fun hne => absurd rfl hne⟩
  | sl _ l sz off len k o cap hρ hc hk =>
    simp only at e
    obtain ⟨b, hb, e⟩ := Option.bind_eq_some_iff.mp e
    split at e
    · rename_i hle
      cases e
      obtain ⟨k', o', cs', T, _, g1, g2, g3, g4, g5⟩ := R.ownC hb hρ (have1 hk)
      rw [hρ] at g1
      obtain ⟨rfl, rfl, rfl⟩ : k = k' ∧ o = o' ∧ sz = b.sz := by cases g1; exact ⟨rfl, rfl, rfl⟩
      have hlen : ((b.es.drop off).take len).length = len := by simp; omega
      have hs : ∀ r ∈ (b.es.drop off).take len, r.length = b.sz := fun r hr => g4 r (List.mem_of_mem_drop (List.mem_of_mem_take hr))
      refine ⟨_, cap, by rw [hlen], ⟨b.sz, hs⟩, fun hne => ?_⟩
      have hfl := flatten_len hs
      have key : ∀ (m : Nat) x, ((b.es.drop off).take len).flatten[m]? = some x → ∃ v, w.cell? ((⟨k, o + off * b.sz, none⟩ : Addr).add m) = some v ∧ v.oneCell' = true ∧ VR w.heap (FF F h ρ) ρ x v := by
        intro m x hx
        obtain ⟨i, j, rfl, h2⟩ := flatten_at2 hs hx
        have h3 : at2 b.es (off + i) j = some x := by
          unfold at2 at h2 ⊢
          obtain ⟨r, hr, h2⟩ := Option.bind_eq_some_iff.mp h2
          rw [List.getElem?_take] at hr
          split at hr
          · rw [List.getElem?_drop] at hr
            rw [hr]; exact h2
          · cases hr
        obtain ⟨v, hv, h4, h5⟩ := g5 _ _ x h3
        refine ⟨v, ?_, h4, h5⟩
        rw [cell_eq, add_plain, cellH_plain g3, show o + off * b.sz + (i * b.sz + j) = o + (off + i) * b.sz + j by rw [Nat.add_mul]; omega]
        exact hv
      refine ⟨_, (List.range ((b.es.drop off).take len).flatten.length).map fun m => (w.cell? ((⟨k, o + off * b.sz, none⟩ : Addr).add m)).getD .nilFunc, rfl, ⟨by simp, fun m x hx => ?_⟩, fun v hv => ?_, fun m v hm => ?_⟩
      · obtain ⟨v, hv, h1, h2⟩ := key m x hx
        have hlt := (List.getElem?_eq_some_iff.1 hx).1
        exact ⟨v, by rw [List.getElem?_map, List.getElem?_range hlt]; simp [hv], h2⟩
      · obtain ⟨m, hm, rfl⟩ := List.mem_map.1 hv
        obtain ⟨v, hv, h1, h2⟩ := key m _ (List.getElem?_eq_getElem (List.mem_range.1 hm))
        simpa [hv] using h1
      · rw [List.getElem?_map] at hm
        obtain ⟨m', hm', e⟩ := Option.map_eq_some_iff.mp hm
        have hlt : m < ((b.es.drop off).take len).flatten.length := by
          rcases Nat.lt_or_ge m ((b.es.drop off).take len).flatten.length with hl | hl
          · exact hl
          · rw [List.getElem?_eq_none (by rw [List.length_range]; exact hl)] at hm'; cases hm'
        rw [List.getElem?_range hlt] at hm'
        cases hm'
        obtain ⟨v', hv', h1, h2⟩ := key m _ (List.getElem?_eq_getElem hlt)
        rw [hv'] at e ⊢
        simpa using e
    · cases e
  | _ => cases e

theorem setCells_row (P : Program) {g o : Nat} {T : TypeId} {vs : List Value} {cur : Array Value} (hg : w.heap[g]? = some (.cells cur T (0, 0))) (hl : o + vs.length ≤ cur.size) (h1 : ones vs) :
    w.setCells g o vs = w.setRow g (cur.toList.take o ++ vs ++ cur.toList.drop (o + vs.length)).toArray := by
  have a := run_storeCells_at P g o T vs 0 cur w hg (by omega) h1
  have b := run_storeCells_cells (P := P) g o vs 0 w (fun j hj => by rw [cell_eq, cellH_plain hg]; simp; omega) (fun j hj => by unfold World.frozen?; simp only [hg]; simp) h1
  rw [a] at b
  simp only [Nat.add_zero] at b
  injection b with _ b
  exact b.symm

theorem byte_rows (bs : List UInt8) : (bs.map fun b => [intV .u8 (b.toNat : Int)]).flatten = bs.map fun b => intV .u8 (b.toNat : Int) := by
  induction bs with
  | nil => rfl
  | cons b bs ih => simp only [List.map_cons, List.flatten_cons, ih, List.singleton_append]

/-- What an append takes. -/
theorem src_sound (R : Rel ρ F base h w.heap) {t' : TypeId} {y : AV} {b : Value} {xs : List (List AV)} (hy : VR w.heap (FF F h ρ) ρ y b) (ht' : okSrc P t' y = true) (e : srcA h y = some xs) :
    (∃ q, ∀ r ∈ xs, r.length = q) ∧ (xs = [] → ∀ (t ty el : TypeId) (i : TypeInfo) (A : Option Addr) (n cap : Nat), P.underlying t = some (.slice el) → P.info? el = some i → n ≤ cap → (Builtin.append_ #[t, t'] ty #[.slice A n cap, b]).run P w = .ok (.slice A n cap) w) ∧
    (xs ≠ [] → ∃ news, LR w.heap (FF F h ρ) ρ xs.flatten news ∧ ones news ∧ ∀ q, (∀ r ∈ xs, r.length = q) → Src P q t' b xs.length news w) ∧
    (xs = [] → (Builtin.lenOf b).run P w = .ok 0 w ∧ ∀ size, (Builtin.firstCells size 0 b).run P w = .ok #[] w) := by
  have slices : els h y = some xs → (slT P t').isSome = true → (∃ q, ∀ r ∈ xs, r.length = q) ∧ (xs = [] → ∀ (t ty el : TypeId) (i : TypeInfo) (A : Option Addr) (n cap : Nat), P.underlying t = some (.slice el) → P.info? el = some i → n ≤ cap → (Builtin.append_ #[t, t'] ty #[.slice A n cap, b]).run P w = .ok (.slice A n cap) w) ∧
    (xs ≠ [] → ∃ news, LR w.heap (FF F h ρ) ρ xs.flatten news ∧ ones news ∧ ∀ q, (∀ r ∈ xs, r.length = q) → Src P q t' b xs.length news w) ∧
    (xs = [] → (Builtin.lenOf b).run P w = .ok 0 w ∧ ∀ size, (Builtin.firstCells size 0 b).run P w = .ok #[] w) := by
    intro h5 ht'
    obtain ⟨el', hel'⟩ := Option.isSome_iff_exists.1 ht'
    obtain ⟨B, capB, rfl, hq, hsrc⟩ := els_sound R hy h5
    refine ⟨hq, fun h0 t ty el i A n cap h1 h2 hn => ?_, fun hne => ?_, fun h0 => ?_⟩
    · subst h0
      have hsz : (sizeOf el).run P w = .ok i.size w := by simp [sizeOf, typeInfo, h2]
      cases A <;> cases B <;> simp [Builtin.append_, run_underlying h1, run_underlying (slT_some hel'), hsz, Builtin.lenOf, Builtin.firstCells, loadCells, loadCellsFrom, storeCells, hn]
    · obtain ⟨ba, news, rfl, hnl, hn1, hncell⟩ := hsrc hne
      refine ⟨news, hnl, hn1, fun q hqq => ?_⟩
      exact Src.ofSlice w (slT_some hel') ba xs.length capB news (by rw [hnl.1, flatten_len hqq]) hncell hn1
    · subst h0
      refine ⟨by simp [Builtin.lenOf], fun size => ?_⟩
      cases B <;> simp [Builtin.firstCells, loadCells, loadCellsFrom]
  cases y with
  | val v =>
    cases v with
    | string s =>
      cases hy
      cases e
      have hst : P.underlying t' = some .string := by
        unfold okSrc stT at ht'
        simp only at ht'
        split at ht'
        · assumption
        · cases ht'
      refine ⟨⟨1, fun r hr => by obtain ⟨x, _, rfl⟩ := List.mem_map.1 hr; rfl⟩, fun h0 t ty el i A n cap h1 h2 hn => ?_, fun hne => ⟨byteCells s, ?_, ?_, fun q hq => ?_⟩, fun h0 => ?_⟩
      · have hs0 : s.data.toList = [] := by simpa using h0
        have hsz : (sizeOf el).run P w = .ok i.size w := by simp [sizeOf, typeInfo, h2]
        have hdat : s.data = #[] := by
          apply Array.ext'
          simpa using hs0
        have hs : s = ByteArray.empty := ByteArray.ext hdat
        subst hs
        have hlen : (Builtin.lenOf (.string ByteArray.empty)).run P w = .ok 0 w := rfl
        have hfc : (Builtin.firstCells i.size 0 (.string ByteArray.empty)).run P w = .ok #[] w := by
          simp [Builtin.firstCells]
        cases A <;> simp [Builtin.append_, run_underlying h1, run_underlying hst, hsz, hlen, hfc, storeCells, hn]
      · rw [byte_rows]
        have hb : byteCells s = s.data.toList.map fun b => .int .u8 (b.toNat : Int) := rfl
        rw [hb]
        refine ⟨by simp, fun i x hx => ?_⟩
        rw [List.getElem?_map] at hx
        obtain ⟨z, hz, rfl⟩ := Option.map_eq_some_iff.mp hx
        exact ⟨.int .u8 (z.toNat : Int), by rw [List.getElem?_map, hz]; rfl, .val _ _ rfl⟩
      · intro v hv
        obtain ⟨_, _, rfl⟩ := List.mem_map.1 hv
        rfl
      · have hlen : (s.data.toList.map fun b => [intV .u8 (b.toNat : Int)]).length = s.size := by rw [List.length_map, Array.length_toList]; rfl
        have hq1 : q = 1 := by
          cases hd : s.data.toList with
          | nil => rw [hd] at hne; exact absurd rfl hne
          | cons z zs => exact (hq [intV .u8 (z.toNat : Int)] (by rw [hd]; simp)).symm
        rw [hlen, hq1]
        exact Src.ofString w hst s
      · have hs0 : s.data.toList = [] := by simpa using h0
        have hdat : s.data = #[] := by
          apply Array.ext'
          simpa using hs0
        have hs : s = ByteArray.empty := ByteArray.ext hdat
        subst hs
        exact ⟨rfl, fun size => by simp [Builtin.firstCells]⟩
    | _ => cases e
  | _ => exact slices e ht'

theorem tyK_some {b : Blk} {e T0 : Nat} (h : tyK (some b) e = some T0) : b.ty = some T0 := by
  unfold tyK at h
  simp only at h
  split at h
  · rename_i h1; rw [h1]; exact h
  · cases h
theorem tyK_some' {b : Blk} {e T0 : Nat} (h : tyK (some b) e = some T0) : e = T0 := by
  unfold tyK at h
  simp only at h
  split at h
  · exact Option.some.inj h
  · cases h

/-- THE APPEND. -/
theorem append_sound (R : Rel ρ F base h w.heap) (hb : base ≤ w.heap.size) {t t' ty : TypeId} {x y v : AV} {a b : Value} {h' : Heap} {c' : Nat} (hx : VR w.heap (FF F h ρ) ρ x a) (hy : VR w.heap (FF F h ρ) ρ y b)
    (ht' : okSrc P t' y = true) (e : appendA P t h c x y = some (v, h', c')) (fr : Fr ρ c c') :
    c ≤ c' ∧ ∃ u w', (Builtin.append_ #[t, t'] ty #[a, b]).run P w = .ok u w' ∧ ∃ ρ', Good ρ F base h w c v h' c' u w' ρ' := by
  unfold appendA at e
  replace e := Option.bind_eq_some_iff.mp e; obtain ⟨el, h1, e⟩ := e
  replace e := Option.bind_eq_some_iff.mp e; obtain ⟨sz, h2, e⟩ := e
  replace e := Option.bind_eq_some_iff.mp e; obtain ⟨by_, h3, e⟩ := e
  replace e := Option.bind_eq_some_iff.mp e; obtain ⟨zs, h4, e⟩ := e
  replace e := Option.bind_eq_some_iff.mp e; obtain ⟨xs, h5, e⟩ := e
  obtain ⟨i, z, hi, hz, hzl, hz1⟩ := zeT_some h4
  have hsz : i.size = sz := by
    obtain ⟨j, hj, hj'⟩ := szT_some h2
    rw [hi] at hj; cases hj; exact hj'
  have hby : i.bytes = by_ := by
    unfold byT at h3
    rw [hi] at h3; exact Option.some.inj h3
  split at e
  · rename_i h6
    obtain ⟨h6, h7⟩ := h6
    obtain ⟨⟨q, hq⟩, hemp, hsrc, _⟩ := src_sound (t' := t') R hy ht' h5
    split at e
    · -- nothing is appended
      rename_i h8
      have : xs = [] := by simpa using h8
      subst this
      have hrun : ∀ A n cap, a = .slice A n cap → n ≤ cap → (Builtin.append_ #[t, t'] ty #[a, b]).run P w = .ok a w := by
        rintro A n cap rfl hn
        exact hemp rfl t ty el i A n cap (slT_some h1) hi hn
      split at e
      all_goals first
        | (cases e; done)
        | (cases e
           refine ⟨Nat.le_refl _, a, w, ?_, ρ, good_same R hx⟩
           cases hx
           first | exact hrun _ _ _ rfl (by assumption) | exact hrun _ _ _ rfl (Nat.le_refl _))
    · rename_i h8
      have hne : xs ≠ [] := by intro h0; subst h0; simp at h8
      obtain ⟨news, hnl, hn1, hSrc⟩ := hsrc hne
      have hqsz : q = sz := by
        cases xs with
        | nil => exact absurd rfl hne
        | cons r xs =>
          have := hq r (by simp)
          simp [AM.hd] at h7
          omega
      subst hqsz
      have hfl := flatten_len hq
      have hnlen : news.length = xs.length * q := by rw [hnl.1, hfl]
      have hpos : 0 < xs.length := List.length_pos_iff.2 hne
      have S : Src P i.size t' b xs.length news w := by rw [hsz]; exact hSrc q hq
      -- a new row
      have grow : ∀ {A : Option Addr} {n cap : Nat} {ys : List (List AV)} {olds : List Value} {hk : Heap} (tt : Option Nat), (∀ T0, tt = some T0 → el = T0) → a = .slice A n cap → cap < n + xs.length → ys.length = n → (∀ r ∈ ys, r.length = q) → LR w.heap (FF F h ρ) ρ ys.flatten olds → ones olds →
          (Builtin.firstCells i.size n (.slice A n cap)).run P w.drew = .ok olds.toArray w.drew → (n + xs.length) * by_ ≤ room → n + xs.length ≤ room → Rel ρ F base hk w.heap → Mv w.heap (FF F h ρ) w.heap (FF F hk ρ) → Fr ρ c (c + 1) →
          ∃ u w', (Builtin.append_ #[t, t'] ty #[a, b]).run P w = .ok u w' ∧ ∃ ρ', Good ρ F base h w c (.sl c q 0 (n + xs.length)) (hk.put c (some ⟨q, ys ++ xs, tt⟩)) (c + 1) u w' ρ' := by
        rintro A n cap ys olds hk tt htt rfl hg hyl hyq hol ho1 hfirst hr1 hr2 Rk mk fr'
        unfold room at hr1 hr2
        have hrun := run_append_grow_src (P := P) w t t' ty el i z (slT_some h1) hi hz A n cap olds hfirst b xs.length news S hg (by omega) (by
          rw [hby]
          have hg2 := Room.nextslicecap_le' (need := n + xs.length) (old := cap) hg
          have := Nat.mul_le_mul_right by_ hg2
          rw [Nat.mul_assoc] at this
          omega)
        have hall : ∀ r ∈ ys ++ xs, r.length = q := by
          intro r hr
          rcases List.mem_append.1 hr with hr | hr
          · exact hyq r hr
          · exact hq r hr
        have hLR : LR w.heap (FF F hk ρ) ρ (ys ++ xs).flatten (olds ++ news) := by
          rw [List.flatten_append]
          exact (hol.mono mk (Sub.refl _)).append (hnl.mono mk (Sub.refl _))
        have hones : ones (olds ++ news) := by
          intro v hv
          rcases List.mem_append.1 hv with hv | hv
          · exact ho1 v hv
          · exact hn1 v hv
        have hcap : n + xs.length ≤ grownCap w (n + xs.length) cap el := grownCap_ge w _ _ _
        have holl : olds.length = n * q := by rw [hol.1, flatten_len hyq, hyl]
        obtain ⟨ρ', g⟩ := good_new (w := w.drew) (h := hk) (v := .sl c q 0 (n + xs.length)) (u := .slice (some ⟨w.heap.size, 0, none⟩) (n + xs.length) (grownCap w (n + xs.length) cap el)) Rk (fr' c (Nat.le_refl _) (by omega)) hb ⟨q, ys ++ xs, tt⟩
          ((olds ++ news).toArray ++ Builtin.zeroCells z.cells (grownCap w (n + xs.length) cap el - (n + xs.length))) el htt hall hLR hones
          (fun k v hk => by
            have hlt := (List.getElem?_eq_some_iff.1 hk).1
            rw [Array.getElem?_append_left (by simpa using hlt)]
            simpa using hk)
          (fun ρ' F' H' hρ hH => by
            have := VR.sl (H := H') (F := F') ρ' c q 0 (n + xs.length) w.heap.size 0 (grownCap w (n + xs.length) cap el) hρ hcap ⟨_, _, _, hH, by
              have hzs : z.cells.size = q := by have := (hzl w.heap F ρ).1; simp at this; omega
              simp only [Array.size_append, List.size_toArray, List.length_append, size_zeroCells, hzs, holl, hnlen]
              rw [← Nat.add_mul, ← Nat.add_mul, show n + xs.length + (grownCap w (n + xs.length) cap el - (n + xs.length)) = grownCap w (n + xs.length) cap el by omega]
              simp⟩
            simpa using this)
        exact ⟨_, _, hrun, ρ', g.rel, g.val, g.out, mk.trans g.mv, ⟨g.bel.os, g.bel.tape, g.bel.output, g.bel.size, g.bel.block⟩⟩
      split at e
      · split at e
        · rename_i h9
          cases e
          cases hx with
          | ro _ _ _ A cap sz' f hc hn hz' hs hA hV =>
            obtain rfl : A = none := hn.2 rfl
            obtain ⟨_, rfl⟩ := hz' rfl
            have := grow (ys := []) (olds := []) (hk := h) (some el) (fun _ h => by cases h; rfl) rfl (by simp; omega) rfl (fun r hr => by cases hr) (by simpa using LR.nil) (fun v hv => by cases hv) (by simp [Builtin.firstCells]) (by simpa using h9.1) (by simpa using h9.2) R (Mv.refl _ _) fr
            simp only [List.length_nil, Nat.zero_add, List.nil_append] at this
            exact ⟨by omega, this⟩
        · cases e
      · split at e
        · rename_i h9
          cases e
          cases hx with
          | emp _ aa =>
            have := grow (ys := []) (olds := []) (hk := h) (some el) (fun _ h => by cases h; rfl) rfl (by omega) rfl (fun r hr => by cases hr) (by simpa using LR.nil) (fun v hv => by cases hv) (by simp [Builtin.firstCells, loadCells, loadCellsFrom]) (by simpa using h9.1) (by simpa using h9.2) R (Mv.refl _ _) fr
            simp only [Nat.zero_add, List.nil_append] at this
            exact ⟨by omega, this⟩
        · cases e
      · rename_i l sz' off len
        replace e := Option.bind_eq_some_iff.mp e; obtain ⟨ys, h9, e⟩ := e
        split at e
        · rename_i h10
          obtain ⟨rfl, h10, h11⟩ := h10
          cases e
          refine ⟨by omega, ?_⟩
          have hyl : ys.length = len := by
            unfold els at h9
            obtain ⟨b2, hb2, h9⟩ := Option.bind_eq_some_iff.mp h9
            split at h9
            · cases h9; simp; omega
            · cases h9
          obtain ⟨A', cap', hAe, ⟨q', hq'⟩, hold⟩ := els_sound R hx h9
          have hx' := hx
          cases hx with
          | sl _ _ _ _ _ k o cap hρ hc hk =>
            injection hAe with e1 e2 e3
            subst e1
            have hb2 : ∃ b2, h l = some b2 ∧ off + len ≤ b2.es.length ∧ ys = (b2.es.drop off).take len := by
              unfold els at h9
              obtain ⟨b2, hb2, h9⟩ := Option.bind_eq_some_iff.mp h9
              split at h9
              · cases h9; exact ⟨b2, hb2, by assumption, rfl⟩
              · cases h9
            obtain ⟨b2, hb2, hle2, hys⟩ := hb2
            obtain ⟨k2, o2, cs2, T2, hTT, g1, g2, g3, g4, g5⟩ := R.ownC hb2 hρ (have1 hk)
            rw [hρ] at g1
            obtain ⟨rfl, rfl, hbs⟩ : k = k2 ∧ o = o2 ∧ sz' = b2.sz := by cases g1; exact ⟨rfl, rfl, rfl⟩
            have hyq : ∀ r ∈ ys, r.length = sz' := fun r hr => by
              rw [hys] at hr
              rw [hbs]
              exact g4 r (List.mem_of_mem_drop (List.mem_of_mem_take hr))
            obtain ⟨olds, hol, ho1, hoc⟩ : ∃ olds, LR w.heap (FF F h ρ) ρ ys.flatten olds ∧ ones olds ∧ ∀ (i : Nat) v, olds[i]? = some v → w.cell? ((⟨k, o + off * sz', none⟩ : Addr).add i) = some v := by
              by_cases hy0 : ys = []
              · exact ⟨[], by rw [hy0]; exact LR.nil, fun v hv => (by cases hv), fun i v hv => by simp at hv⟩
              · obtain ⟨a', vs', ha', h12, h13, h14⟩ := hold hy0
                cases ha'
                exact ⟨vs', h12, h13, h14⟩
            have holl : olds.length = len * sz' := by rw [hol.1, flatten_len hyq, hyl]
            by_cases hroom : len + xs.length ≤ cap
            · -- there is room
              obtain ⟨cs3, T3, fz3, g6, g7⟩ := hk
              rw [g3] at g6
              cases g6
              have hfit : o + off * sz' + len * sz' + news.length ≤ cs2.size := by
                rw [hnlen, Nat.add_assoc, ← Nat.add_mul]
                have := Nat.mul_le_mul_right sz' hroom
                rw [Nat.add_mul] at g7
                omega
              have hrun := run_append_room_src (P := P) w t t' ty el i (slT_some h1) hi k (o + off * sz') len cap b xs.length news S hroom
                (fun j hj => by rw [hsz, cell_eq, cellH_plain g3]; simp; omega) (fun j hj => by unfold World.frozen?; simp only [g3]; simp)
              rw [hsz, setCells_row P g3 hfit hn1] at hrun
              let cs4 : Array Value := (cs2.toList.take (o + off * sz' + len * sz') ++ news ++ cs2.toList.drop (o + off * sz' + len * sz' + news.length)).toArray
              have hs4 : cs4.size = cs2.size := by
                have hz2 : cs2.size = cs2.toList.length := by simp
                simp only [cs4, List.size_toArray, List.length_append, List.length_take, List.length_drop]
                omega
              have hget : ∀ m, cs4[m]? = if o + off * sz' + len * sz' ≤ m ∧ m < o + off * sz' + len * sz' + news.length then news[m - (o + off * sz' + len * sz')]? else cs2[m]? := by
                intro m
                have hz2 : cs2.size = cs2.toList.length := by simp
                simp only [cs4, List.getElem?_toArray]
                rw [List.append_assoc]
                have hA : (cs2.toList.take (o + off * sz' + len * sz')).length = o + off * sz' + len * sz' := by rw [List.length_take]; omega
                by_cases h2 : m < o + off * sz' + len * sz'
                · rw [List.getElem?_append_left (by omega), List.getElem?_take, if_pos h2, if_neg (by omega)]
                  simp
                · rw [List.getElem?_append_right (by omega), hA]
                  by_cases h3 : m < o + off * sz' + len * sz' + news.length
                  · rw [List.getElem?_append_left (by omega), if_pos (by omega)]
                  · rw [List.getElem?_append_right (by omega), List.getElem?_drop, if_neg (by omega)]
                    rw [show o + off * sz' + len * sz' + news.length + (m - (o + off * sz' + len * sz') - news.length) = m by omega]
                    simp
              have hall : ∀ r ∈ ys ++ xs, r.length = sz' := by
                intro r hr
                rcases List.mem_append.1 hr with hr | hr
                · exact hyq r hr
                · exact hq r hr
              obtain ⟨r1, m1, s1⟩ := R.write (c := c) (o' := o + off * sz') (b := b2) (b' := ⟨sz', ys ++ xs, tyK (h l) el⟩) (cs' := cs4) (H' := (w.setRow k cs4).heap) hb2 (by rw [hρ, hbs]) g3
                (setRow_heap w k cs2 _ T2 _ g3) (fun j hj => setRow_other w k j _ hj) (by omega) (by simp) (.inr (fr c (Nat.le_refl _) (by omega))) (fun T0 ht => hTT.1 T0 (by rw [hb2] at ht; exact tyK_some ht)) (by have := hTT.2; rw [← hbs] at this; exact Nat.dvd_add this (Nat.dvd_mul_left _ _)) hall
                (fun i2 j2 x2 hx2 => by
                  simp only at hx2 ⊢
                  obtain ⟨h15, h16, h17⟩ := at2_flatten hall hx2
                  rw [List.flatten_append] at h15
                  have hyf := flatten_len hyq
                  rw [hyl] at hyf
                  by_cases h18 : i2 * sz' + j2 < len * sz'
                  · rw [List.getElem?_append_left (by omega)] at h15
                    obtain ⟨v2, hv2, hr2⟩ := hol.2 _ x2 h15
                    have := hoc _ v2 hv2
                    rw [cell_eq, add_plain, cellH_plain g3] at this
                    exact ⟨v2, by rw [hget, if_neg (by omega), Nat.add_assoc]; exact this, ones_get ho1 hv2, hr2⟩
                  · rw [List.getElem?_append_right (by omega)] at h15
                    obtain ⟨v2, hv2, hr2⟩ := hnl.2 _ x2 h15
                    have hlt := (List.getElem?_eq_some_iff.1 hv2).1
                    refine ⟨v2, ?_, ones_get hn1 hv2, hr2⟩
                    rw [hget, if_pos (by omega), show o + off * sz' + i2 * sz' + j2 - (o + off * sz' + len * sz') = i2 * sz' + j2 - ys.flatten.length by omega]
                    exact hv2)
              refine ⟨_, _, hrun, _, r1, ?_, fun m hm => if_neg (by omega), m1, ⟨rfl, rfl, rfl, by simp, fun j hj => setRow_other w k j _ (by omega)⟩⟩
              have := VR.sl (H := (w.setRow k cs4).heap) (F := FF F ((h.put l none).put c (some ⟨sz', ys ++ xs, tyK (h l) el⟩)) (fun m => if m = c then some (k, o + off * sz', sz') else ρ m)) (fun m => if m = c then some (k, o + off * sz', sz') else ρ m) c sz' 0 (len + xs.length) k (o + off * sz') cap (if_pos rfl) hroom
                ⟨cs4, T2, _, setRow_heap w k cs2 _ T2 _ g3, by rw [hs4, Nat.zero_add]; rw [Nat.add_mul] at g7; omega⟩
              rw [Nat.zero_mul, Nat.add_zero] at this
              exact this
            · -- there is none
              have hfirst : (Builtin.firstCells i.size len (.slice (some ⟨k, o + off * sz', none⟩) len cap)).run P w.drew = .ok olds.toArray w.drew :=
                run_firstCells_some w.drew i.size len _ len cap olds (by rw [hsz]; exact holl) (fun j v hj => by have := hoc j v hj; simpa using this)
              obtain ⟨Rk, mk⟩ := R.kill l
              exact grow (tyK (h l) el) (fun T0 ht => by rw [hb2] at ht; have := tyK_some' ht; omega) rfl (by omega) hyl hyq hol ho1 hfirst h10 h11 Rk mk fr
        · cases e
      · cases e
  · cases e

/-- THE COPY, of all that there is. -/
theorem copy_sound (R : Rel ρ F base h w.heap) {t t' ty el : TypeId} {l sz off n : Nat} {y : AV} {a b : Value} {bk : Blk} {xs : List (List AV)} (hx : VR w.heap (FF F h ρ) ρ (.sl l sz off n) a) (hy : VR w.heap (FF F h ρ) ρ y b)
    (h1 : slT P t = some el) (h2 : szT P el = some sz) (hb2 : h l = some bk) (h5 : srcA h y = some xs) (ht' : okSrc P t' y = true) (h7 : AM.hd xs sz = true) (hle2 : off + n ≤ bk.es.length) (hn : xs.length ≤ n) :
    ∃ w', (Builtin.copy_ #[t, t'] ty #[a, b]).run P w = .ok (.int .i64 xs.length) w' ∧ ∃ ρ', Good ρ F base h w c (.val (.int .i64 xs.length)) (h.put l (some { bk with es := bk.es.take off ++ xs ++ bk.es.drop (off + xs.length) })) c (.int .i64 xs.length) w' ρ' := by
  obtain ⟨⟨q, hq⟩, _, hsrc, hemp⟩ := src_sound (t' := t') R hy ht' h5
  cases hx with
  | sl _ _ _ _ _ k o cap hρ hc hk =>
    have hsize : (sizeOf el).run P w = .ok sz w := run_sz h2 w
    by_cases hne : xs = []
    · subst hne
      obtain ⟨g1, g2⟩ := hemp rfl
      refine ⟨w, ?_, ρ, ?_⟩
      · simp [Builtin.copy_, run_underlying (slT_some h1), g1, g2, hsize, storeCells, goInt]
      · have e : h.put l (some { bk with es := bk.es.take off ++ [] ++ bk.es.drop (off + ([] : List (List AV)).length) }) = h := by
          funext m
          simp only [Heap.put]
          by_cases e : m = l
          · subst e
            rw [if_pos rfl, hb2]
            simp
          · rw [if_neg e]
        rw [e]
        exact good_same R (.val _ _ rfl)
    · obtain ⟨news, hnl, hn1, hS⟩ := hsrc hne
      have hqsz : q = sz := by
        cases xs with
        | nil => exact absurd rfl hne
        | cons r xs =>
          have := hq r (by simp)
          simp [AM.hd] at h7
          omega
      subst hqsz
      have S := hS q hq
      have hfl := flatten_len hq
      have hnlen : news.length = xs.length * q := by rw [hnl.1, hfl]
      obtain ⟨k2, o2, cs2, T2, hTT, g1, g2, g3, g4, g5⟩ := R.ownC hb2 hρ (have1 hk)
      rw [hρ] at g1
      obtain ⟨rfl, rfl, hbs⟩ : k = k2 ∧ o = o2 ∧ q = bk.sz := by cases g1; exact ⟨rfl, rfl, rfl⟩
      obtain ⟨cs3, T3, fz3, g6, g7⟩ := hk
      rw [g3] at g6
      cases g6
      have hfit : o + off * q + news.length ≤ cs2.size := by
        rw [hnlen, Nat.add_assoc, ← Nat.add_mul]
        have := Nat.mul_le_mul_right q (show off + xs.length ≤ off + cap by omega)
        omega
      have hrow := setCells_row P g3 hfit hn1
      have hstore := run_storeCells_cells (P := P) k (o + off * q) news 0 w (fun j hj => by rw [cell_eq, cellH_plain g3]; simp; omega) (fun j hj => by unfold World.frozen?; simp only [g3]; simp) hn1
      simp only [Nat.add_zero] at hstore
      rw [hrow] at hstore
      let cs4 : Array Value := (cs2.toList.take (o + off * q) ++ news ++ cs2.toList.drop (o + off * q + news.length)).toArray
      have hs4 : cs4.size = cs2.size := by
        have hz2 : cs2.size = cs2.toList.length := by simp
        simp only [cs4, List.size_toArray, List.length_append, List.length_take, List.length_drop]
        omega
      have hget : ∀ m, cs4[m]? = if o + off * q ≤ m ∧ m < o + off * q + news.length then news[m - (o + off * q)]? else cs2[m]? := by
        intro m
        have hz2 : cs2.size = cs2.toList.length := by simp
        simp only [cs4, List.getElem?_toArray]
        rw [List.append_assoc]
        have hA : (cs2.toList.take (o + off * q)).length = o + off * q := by rw [List.length_take]; omega
        by_cases h2 : m < o + off * q
        · rw [List.getElem?_append_left (by omega), List.getElem?_take, if_pos h2, if_neg (by omega)]
          simp
        · rw [List.getElem?_append_right (by omega), hA]
          by_cases h3 : m < o + off * q + news.length
          · rw [List.getElem?_append_left (by omega), if_pos (by omega)]
          · rw [List.getElem?_append_right (by omega), List.getElem?_drop, if_neg (by omega)]
            rw [show o + off * q + news.length + (m - (o + off * q) - news.length) = m by omega]
            simp
      have hes : ∀ i2, (bk.es.take off ++ xs ++ bk.es.drop (off + xs.length))[i2]? = if off ≤ i2 ∧ i2 < off + xs.length then xs[i2 - off]? else bk.es[i2]? := by
        intro i2
        have hA : (bk.es.take off).length = off := by rw [List.length_take]; omega
        rw [List.append_assoc]
        by_cases h2 : i2 < off
        · rw [List.getElem?_append_left (by omega), List.getElem?_take, if_pos h2, if_neg (by omega)]
        · rw [List.getElem?_append_right (by omega), hA]
          by_cases h3 : i2 < off + xs.length
          · rw [List.getElem?_append_left (by omega), if_pos (by omega)]
          · rw [List.getElem?_append_right (by omega), List.getElem?_drop, if_neg (by omega)]
            rw [show off + xs.length + (i2 - off - xs.length) = i2 by omega]
      obtain ⟨r1, m1, s1⟩ := R.write (c := l) (o' := o) (b := bk) (b' := { bk with es := bk.es.take off ++ xs ++ bk.es.drop (off + xs.length) }) (cs' := cs4) (H' := (w.setRow k cs4).heap) hb2 (by rw [hρ, hbs]) g3
        (setRow_heap w k cs2 _ T2 _ g3) (fun j hj => setRow_other w k j _ hj) (by omega) (by simp) (.inl ⟨rfl, rfl, rfl⟩) (fun T0 ht => hTT.1 T0 ht) hTT.2
        (fun r hr => by
          rcases List.mem_append.1 hr with hr | hr
          · rcases List.mem_append.1 hr with hr | hr
            · exact g4 r (List.mem_of_mem_take hr)
            · rw [hq r hr]; exact hbs
          · exact g4 r (List.mem_of_mem_drop hr))
        (fun i2 j2 x2 hx2 => by
          simp only at hx2 ⊢
          unfold at2 at hx2
          rw [hes] at hx2
          rw [← hbs]
          by_cases hin : off ≤ i2 ∧ i2 < off + xs.length
          · rw [if_pos hin] at hx2
            obtain ⟨r, hr, hj⟩ := Option.bind_eq_some_iff.mp hx2
            have hrl := hq r (List.mem_of_getElem? hr)
            have hjl := (List.getElem?_eq_some_iff.1 hj).1
            obtain ⟨h15, h16, _⟩ := at2_flatten (i := i2 - off) (j := j2) (x := x2) hq (by unfold at2; rw [hr]; exact hj)
            obtain ⟨v2, hv2, hr2⟩ := hnl.2 _ x2 h15
            have hlt := (List.getElem?_eq_some_iff.1 hv2).1
            refine ⟨v2, ?_, ones_get hn1 hv2, hr2⟩
            have hmul : i2 * q = off * q + (i2 - off) * q := by rw [← Nat.add_mul]; congr 1; omega
            rw [hget, if_pos (by omega), show o + i2 * q + j2 - (o + off * q) = (i2 - off) * q + j2 by omega]
            exact hv2
          · rw [if_neg hin] at hx2
            obtain ⟨r, hr, hj⟩ := Option.bind_eq_some_iff.mp hx2
            have hrl := g4 r (List.mem_of_getElem? hr)
            have hjl := (List.getElem?_eq_some_iff.1 hj).1
            obtain ⟨v2, hv2, h6, h8⟩ := g5 i2 j2 x2 (by unfold at2; rw [hr]; exact hj)
            refine ⟨v2, ?_, h6, h8⟩
            rw [← hbs] at hv2
            rw [hget, if_neg, hv2]
            rw [hnlen]
            rintro ⟨h9, h10⟩
            replace h10 : i2 * q + j2 < off * q + xs.length * q := by omega
            rw [← Nat.add_mul] at h10
            by_cases h11 : i2 < off
            · have : i2 * q + q ≤ off * q := by rw [← Nat.succ_mul]; exact Nat.mul_le_mul_right q h11
              omega
            · have h12 : off + xs.length ≤ i2 := by omega
              have := Nat.mul_le_mul_right q h12
              omega)
      have hheap : (h.put l none).put l (some { bk with es := bk.es.take off ++ xs ++ bk.es.drop (off + xs.length) }) = h.put l (some { bk with es := bk.es.take off ++ xs ++ bk.es.drop (off + xs.length) }) := by
        funext m
        simp only [Heap.put]
        by_cases e : m = l
        · rw [if_pos e, if_pos e]
        · rw [if_neg e, if_neg e, if_neg e]
      have hρe : (fun m => if m = l then some (k, o, bk.sz) else ρ m) = ρ := by
        funext m
        by_cases e : m = l
        · subst e; rw [if_pos rfl, hρ, hbs]
        · rw [if_neg e]
      rw [hheap] at r1 m1
      simp only at r1 m1
      rw [hρe] at r1 m1
      refine ⟨w.setRow k cs4, ?_, ρ, r1, .val _ _ rfl, fun _ _ => rfl, m1, ⟨rfl, rfl, rfl, by simp, fun j hj => setRow_other w k j _ (by omega)⟩⟩
      have hmin : Nat.min xs.length n = xs.length := Nat.min_eq_left hn
      have hlenb := S.len w
      have hcells := S.cells
      simp [Builtin.copy_, run_underlying (slT_some h1), hlenb, hcells, hsize, hmin, hstore, goInt, cs4]

end
end Go.Proofs.YtbaoaodimbcebaaDoor.AM
