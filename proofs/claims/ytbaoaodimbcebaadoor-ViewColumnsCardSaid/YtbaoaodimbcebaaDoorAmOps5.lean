/- What is built, made and appended. -/
import Derived.Test.YtbaoaodimbcebaaDoorAmOps4
import Derived.Room.Entries
namespace Go.Proofs.YtbaoaodimbcebaaDoor.AM
open Go Go.RowKit
set_option linter.unusedVariables false
set_option linter.unusedSimpArgs false

section
variable {P : Program} {ρ : Pls} {F : Nat → Prop} {base : Nat} {h : Heap} {w : World} {c : Nat} {H : Array Obj}

/-! ### structs -/
theorem foldl_setCells : ∀ (l : List Value) (cells : Array Value) (off k : Nat), ((l.zipIdx k).foldl (fun cs (c, j) => cs.setIfInBounds (off + j) c) cells).toList = setCells cells.toList (off + k) l
  | [], _, _, _ => rfl
  | v :: l, cells, off, k => by
    rw [List.zipIdx_cons, List.foldl_cons, foldl_setCells l _ off (k + 1), setCells]
    simp [Nat.add_assoc]

def PR (H : Array Obj) (F : Nat → Prop) (ρ : Pls) (as : List (Nat × AV)) (vs : List (Nat × Value)) : Prop :=
  vs.map (·.1) = as.map (·.1) ∧ ∀ (i : Nat) a v, as[i]? = some a → vs[i]? = some v → VR H F ρ a.2 v.2

theorem PR.uncons {a : Nat × AV} {as : List (Nat × AV)} {vs : List (Nat × Value)} (h : PR H F ρ (a :: as) vs) : ∃ v r, vs = (a.1, v) :: r ∧ VR H F ρ a.2 v ∧ PR H F ρ as r := by
  obtain ⟨h1, h2⟩ := h
  cases vs with
  | nil => simp at h1
  | cons v r =>
    obtain ⟨i, v⟩ := v
    simp only [List.map_cons, List.cons.injEq] at h1
    obtain ⟨rfl, h1⟩ := h1
    exact ⟨v, r, rfl, h2 0 _ _ rfl rfl, h1, fun i x y hx hy => h2 (i + 1) x y (by simpa using hx) (by simpa using hy)⟩

theorem PR.of {t : Nat → AV} {a : Act} (T : ∀ i, VR H F ρ (t i) (a.tmps.getD i undef)) (ps : Array (Nat × Operand)) :
    PR H F ρ (ps.toList.map fun p => (p.1, evA t p.2)) (ps.map fun (i, x) => (i, a.eval x)).toList := by
  refine ⟨by simp [Function.comp_def], fun i x y hx hy => ?_⟩
  simp only [List.getElem?_map, Array.toList_map, Option.map_eq_some_iff] at hx hy
  obtain ⟨p, hp, rfl⟩ := hx
  obtain ⟨q, hq, rfl⟩ := hy
  rw [hp] at hq
  cases hq
  exact ev_sound T p.2

theorem fill_sound {t : TypeId} {pl : Nat → Option (Nat × Nat)} (hpl : ∀ i off ft sz, fdT P t i = some (off, ft) → szT P ft = some sz → pl i = some (off, sz)) :
    ∀ (as : List (Nat × AV)) (vs : List (Nat × Value)) (cs cs' : List AV) (us : Array Value), PR H F ρ as vs → LR H F ρ cs us.toList → buildA P t as cs = some cs' →
      ∃ us' : Array Value, Instr.fill pl us vs = some us' ∧ LR H F ρ cs' us'.toList
  | [], vs, cs, cs', us, hp, hl, e => by
    have : vs = [] := by have := hp.1; simpa using this
    subst this
    cases e
    exact ⟨us, rfl, hl⟩
  | (i, x) :: as, vs, cs, cs', us, hp, hl, e => by
    obtain ⟨v, r, rfl, hv, hr⟩ := hp.uncons
    unfold buildA at e
    obtain ⟨⟨off, ft⟩, h1, e⟩ := Option.bind_eq_some_iff.mp e
    simp only at e
    obtain ⟨sz, h2, e⟩ := Option.bind_eq_some_iff.mp e
    split at e
    · rename_i h3
      obtain ⟨h3, h4, h5⟩ := h3
      have hc := hv.cells h5
      have hs : v.cells.size = sz := by have := hc.1; simp at this; omega
      have hu : us.size = cs.length := by have := hl.1; simpa using this
      obtain ⟨us', h6, h7⟩ := fill_sound hpl as r (setCells cs off x.cells) cs' (v.cells.zipIdx.foldl (fun cs (c, j) => cs.setIfInBounds (off + j) c) us) hr (by
        have := foldl_setCells v.cells.toList us off 0
        rw [Nat.add_zero] at this
        rw [← Array.foldl_toList, Array.toList_zipIdx, this]
        exact hl.setCells off hc) e
      refine ⟨us', ?_, h7⟩
      unfold Instr.fill
      rw [hpl i off ft sz h1 h2]
      simp only
      rw [if_neg (by simp [hs, hu]; omega)]
      exact h6
    · cases e

theorem places_get : ∀ (fs : List Field) (places : List (Nat × Nat)), fs.mapM (fun f => (P.info? f.type).map fun i => (f.offset, i.size)) = some places →
    ∀ (i : Nat) f, fs[i]? = some f → ∃ j, P.info? f.type = some j ∧ places[i]? = some (f.offset, j.size)
  | [], _, _, i, f, hf => by simp at hf
  | g :: fs, places, e, i, f, hf => by
    simp only [List.mapM_cons, Option.bind_eq_bind, Option.pure_def] at e
    obtain ⟨p, h1, e⟩ := Option.bind_eq_some_iff.mp e
    obtain ⟨ps, h2, e⟩ := Option.bind_eq_some_iff.mp e
    cases e
    cases i with
    | zero =>
      simp at hf
      subst hf
      obtain ⟨j, h3, h4⟩ := Option.map_eq_some_iff.mp h1
      exact ⟨j, h3, by simp [h4]⟩
    | succ i => simpa using places_get fs ps h2 i f (by simpa using hf)

theorem build_sound {t : TypeId} {as : List (Nat × AV)} {vs : Array (Nat × Value)} {zs cs : List AV} (hbl : blT P t = true) (hz : zeT P t = some zs) (hp : PR H F ρ as vs.toList) (e : buildA P t as zs = some cs) :
    ∃ u, VR H F ρ (.agg cs) u ∧ (Instr.build t vs).run P w = .ok u w := by
  unfold blT at hbl
  split at hbl
  · rename_i fs ht
    obtain ⟨places, hpl⟩ := Option.isSome_iff_exists.1 hbl
    obtain ⟨i, z, hi, hzz, hl, _⟩ := zeT_some hz
    obtain ⟨us, h1, h2⟩ := fill_sound (P := P) (t := t) (pl := (places.toArray[·]?)) (fun i off ft sz h1 h2 => by
      obtain ⟨fs', f, h3, h4, rfl, rfl⟩ := fdT_some h1
      rw [ht] at h3
      cases h3
      obtain ⟨j, h5, h6⟩ := places_get _ _ hpl i f (by simpa using h4)
      obtain ⟨j', h7, h8⟩ := szT_some h2
      rw [h5] at h7
      cases h7
      simp [h6, h8]) as vs.toList zs cs z.cells hp (hl _ _ _) e
    refine ⟨.agg us, by have := h2.agg; simpa using this, ?_⟩
    refine run_build w t vs us ?_
    unfold Program.built
    rw [hi, ht]
    simp only [hzz, hpl]
    exact h1
  · cases hbl

/-! ### rows of zeros -/
theorem zeros_row {zs : List AV} {z : Array Value} {sz : Nat} (hl : LR H F ρ zs z.toList) (hz : zs.length = sz) (h0 : 0 < sz) (n : Nat) :
    LR H F ρ (List.replicate n zs).flatten (madeCells z (n * sz)).toList := by
  have hu : ∀ e ∈ List.replicate n zs, e.length = sz := fun e he => by rw [List.eq_of_mem_replicate he]; exact hz
  have hzs : z.size = sz := by have := hl.1; simp at this; omega
  refine ⟨by rw [flatten_len hu]; simp [madeCells], fun k x hx => ?_⟩
  obtain ⟨i, j, rfl, h2⟩ := flatten_at2 hu hx
  obtain ⟨h3, h4, h5⟩ := at2_flatten hu h2
  unfold at2 at h2
  simp only [List.length_replicate] at h5
  rw [List.getElem?_replicate, if_pos h5] at h2
  simp only [Option.bind_some] at h2
  obtain ⟨v, hv, hr⟩ := hl.2 j x h2
  refine ⟨v, ?_, hr⟩
  have hlt : i * sz + j < n * sz := by
    have : (i + 1) * sz ≤ n * sz := Nat.mul_le_mul_right _ h5
    rw [Nat.add_mul] at this; omega
  have hmod : (i * sz + j) % z.size = j := by rw [hzs, Nat.mul_comm, Nat.mul_add_mod]; exact Nat.mod_eq_of_lt h4
  have hjz : j < z.size := by omega
  have hv' : z[j] = v := by
    rw [Array.getElem?_toList, Array.getElem?_eq_getElem hjz] at hv
    exact Option.some.inj hv
  simp [madeCells, hlt, hmod, getElem!_pos z j hjz, hv']

theorem zeros_ones {z : Array Value} {sz : Nat} (h1 : ones z.toList) (hz : z.size = sz) (h0 : 0 < sz) (n : Nat) : ones (madeCells z n).toList := by
  intro v hv
  simp only [madeCells, Array.toList_map, List.mem_map] at hv
  obtain ⟨k, _, rfl⟩ := hv
  have hlt : k % z.size < z.size := Nat.mod_lt _ (by omega)
  rw [getElem!_pos z _ hlt]
  exact h1 _ (by simp)

theorem replicate_len {zs : List AV} {sz n : Nat} (hz : zs.length = sz) : ∀ e ∈ List.replicate n zs, e.length = sz := fun e he => by rw [List.eq_of_mem_replicate he]; exact hz

theorem make_sound (R : Rel ρ F base h w.heap) (hb : base ≤ w.heap.size) {t : TypeId} {x y v : AV} {a b : Value} {h' : Heap} {c' : Nat} (hx : VR w.heap (FF F h ρ) ρ x a) (hy : VR w.heap (FF F h ρ) ρ y b)
    (e : makeA P t h c x y = some (v, h', c')) (fr : Fr ρ c c') : c ≤ c' ∧ Hits P (do pure (.value (← Instr.makeSlice t a b))) w fun u w' => ∃ ρ', Good ρ F base h w c v h' c' u w' ρ' := by
  unfold makeA at e
  split at e
  · rename_i k1 n k2 m
    cases hx; cases hy
    obtain ⟨el, h1, e⟩ := Option.bind_eq_some_iff.mp e
    obtain ⟨sz, h2, e⟩ := Option.bind_eq_some_iff.mp e
    obtain ⟨by_, h3, e⟩ := Option.bind_eq_some_iff.mp e
    obtain ⟨zs, h4, e⟩ := Option.bind_eq_some_iff.mp e
    split at e
    · rename_i h5
      obtain ⟨h5, h6, h7, h8, h9, h10⟩ := h5
      cases e
      obtain ⟨i, z, hi, hz, hl, h1'⟩ := zeT_some h4
      have hsz : i.size = sz := by
        obtain ⟨j, hj, hj'⟩ := szT_some h2
        rw [hi] at hj; cases hj; exact hj'
      have hby : i.bytes = by_ := by
        unfold byT at h3
        rw [hi] at h3; exact Option.some.inj h3
      have hzs : z.cells.size = sz := by have := (hl w.heap F ρ).1; simp at this; omega
      unfold room at h7 h8
      refine ⟨by omega, ?_⟩
      obtain ⟨ρ', g⟩ := good_new (v := .sl c sz 0 n.toNat) (u := .slice (some ⟨w.heap.size, 0, none⟩) n.toNat m.toNat) R (fr c (Nat.le_refl _) (by omega)) hb ⟨sz, List.replicate m.toNat zs, some el⟩ (madeCells z.cells (m.toNat * sz)) el (fun _ h => by cases h; rfl)
        (replicate_len h9) (zeros_row (hl _ _ _) h9 h10 _) (zeros_ones h1' hzs h10 _) (fun k v hk => by simpa using hk)
        (fun ρ' F' H' hρ hH => by
          have := VR.sl (H := H') (F := F') ρ' c sz 0 n.toNat w.heap.size 0 m.toNat hρ (by omega) ⟨_, _, _, hH, by simp [size_madeCells]⟩
          simpa using this)
      refine hits_value (run_make w t el i z (slT_some h1) hi hz k1 k2 n m h5 h6 ?_ ?_) (by rw [hsz]; exact ⟨ρ', g⟩)
      · rw [hby, Int.mul_comm]; omega
      · omega
    · cases e
  · cases e

/-- A row of nothing: the memory grows, and nobody is told. -/
theorem good_push (R : Rel ρ F base h w.heap) (hb : base ≤ w.heap.size) (o : Obj) {v : AV} {u : Value} (hv : VR (w.alloc o).heap (FF F h ρ) ρ v u) : Good ρ F base h w c v h c u (w.alloc o) ρ := by
  obtain ⟨r, m⟩ := R.keep (H' := (w.alloc o).heap) (fun k hk => by show (w.heap.push o)[k]? = _; rw [Array.getElem?_push, if_neg (by omega)]) (by simp)
  exact ⟨r, hv, fun _ _ => rfl, m, (Below.refl _ _).alloc hb o⟩

theorem rows_set {sz : Nat} : ∀ {es : List (List AV)} (i : Nat) (r : List AV), (∀ e ∈ es, e.length = sz) → r.length = sz → i < es.length → (es.set i r).flatten = setCells es.flatten (i * sz) r
  | [], i, r, _, _, hi => by simp at hi
  | q :: es, i, r, hs, hr, hi => by
    have hq : q.length = sz := hs q (by simp)
    apply List.ext_getElem?
    intro k
    have hfl := flatten_len (sz := sz) (es := q :: es) hs
    have hle : i * sz + r.length ≤ (q :: es).flatten.length := by
      rw [hfl, hr]
      have : (i + 1) * sz ≤ (q :: es).length * sz := Nat.mul_le_mul_right _ hi
      rw [Nat.add_mul] at this; omega
    rw [setCells_get _ _ _ _ hle]
    cases i with
    | zero =>
      simp only [List.set_cons_zero, List.flatten_cons, Nat.zero_mul, Nat.zero_add, Nat.zero_le, true_and, Nat.sub_zero]
      by_cases hk : k < r.length
      · rw [if_pos hk, List.getElem?_append_left hk]
      · rw [if_neg hk, List.getElem?_append_right (by omega), List.getElem?_append_right (by omega), hr, hq]
    | succ i =>
      have ih := rows_set (sz := sz) (es := es) i r (fun e he => hs e (by simp [he])) hr (by simpa using hi)
      simp only [List.set_cons_succ, List.flatten_cons, ih]
      have hfl2 := flatten_len (sz := sz) (es := es) (fun e he => hs e (by simp [he]))
      have hle2 : i * sz + r.length ≤ es.flatten.length := by
        rw [hfl2, hr]
        have : (i + 1) * sz ≤ es.length * sz := Nat.mul_le_mul_right _ (Nat.succ_le_of_lt (by simpa using hi))
        rw [Nat.add_mul] at this; omega
      by_cases hk : k < q.length
      · rw [List.getElem?_append_left hk, if_neg, List.getElem?_append_left hk]
        rw [Nat.add_mul]; omega
      · rw [List.getElem?_append_right (by omega), setCells_get _ _ _ _ hle2, List.getElem?_append_right (by omega), hq]
        by_cases h2 : i * sz ≤ k - sz ∧ k - sz < i * sz + r.length
        · rw [if_pos h2, if_pos (by rw [Nat.add_mul]; omega), show k - sz - i * sz = k - (i + 1) * sz by rw [Nat.add_mul]; omega]
        · rw [if_neg h2, if_neg (by rw [Nat.add_mul]; omega)]

theorem fillRow_sound {sz : Nat} : ∀ (as : List (Nat × AV)) (vs : List (Nat × Value)) (es es' : List (List AV)) (us : Array Value), PR H F ρ as vs → (∀ e ∈ es, e.length = sz) → LR H F ρ es.flatten us.toList → ones us.toList → buildRow sz as es = some es' →
      ∃ us' : Array Value, Instr.fill (fun i => some (i * sz, sz)) us vs = some us' ∧ LR H F ρ es'.flatten us'.toList ∧ (∀ e ∈ es', e.length = sz) ∧ ones us'.toList ∧ es'.length = es.length
  | [], vs, es, es', us, hp, hs, hl, h1, e => by
    have : vs = [] := by have := hp.1; simpa using this
    subst this
    cases e
    exact ⟨us, rfl, hl, hs, h1, rfl⟩
  | (i, x) :: as, vs, es, es', us, hp, hs, hl, h1, e => by
    obtain ⟨v, r, rfl, hv, hr⟩ := hp.uncons
    unfold buildRow at e
    split at e
    · rename_i h3
      obtain ⟨h3, h4, h5⟩ := h3
      have hbad : x.isBad = false := by cases x <;> first | rfl | (simp [AV.cells, okc] at h5)
      have hc := hv.cells hbad
      have hvs : v.cells.size = sz := by have := hc.1; simp at this; omega
      have hfl := flatten_len hs
      have hu : us.size = es.length * sz := by have := hl.1; rw [hfl] at this; simpa using this
      have hle : i * sz + sz ≤ es.length * sz := by
        have : (i + 1) * sz ≤ es.length * sz := Nat.mul_le_mul_right _ h4
        rw [Nat.add_mul] at this; omega
      have htl : (v.cells.zipIdx.foldl (fun cs (c, j) => cs.setIfInBounds (i * sz + j) c) us).toList = setCells us.toList (i * sz) v.cells.toList := by
        have := foldl_setCells v.cells.toList us (i * sz) 0
        rw [Nat.add_zero] at this
        rw [← Array.foldl_toList, Array.toList_zipIdx, this]
      have h1' : ones (setCells us.toList (i * sz) v.cells.toList) := by
        intro y hy
        obtain ⟨k, hk, rfl⟩ := List.getElem_of_mem hy
        have := setCells_get v.cells.toList us.toList (i * sz) k (by simp; omega)
        rw [List.getElem?_eq_getElem hk] at this
        split at this
        · exact ones_get (ones_of hc h5) this.symm
        · exact ones_get h1 this.symm
      obtain ⟨us', h6, h7, h8, h9, h10⟩ := fillRow_sound as r (es.set i x.cells) es' (v.cells.zipIdx.foldl (fun cs (c, j) => cs.setIfInBounds (i * sz + j) c) us) hr
        (fun e he => by rcases List.mem_or_eq_of_mem_set he with he | rfl; exact hs e he; exact h3)
        (by rw [htl, rows_set i x.cells hs h3 h4]; exact hl.setCells _ hc) (by rw [htl]; exact h1') e
      refine ⟨us', ?_, h7, h8, h9, by rw [h10]; simp⟩
      unfold Instr.fill
      simp only
      rw [if_neg (by simp [hvs, hu]; omega)]
      exact h6
    · cases e

end
end Go.Proofs.YtbaoaodimbcebaaDoor.AM
