/- Operations that make, read and write memory. -/
import Derived.Test.YtbaoaodimbcebaaDoorAmOps
namespace Go.Proofs.YtbaoaodimbcebaaDoor.AM
open Go Go.RowKit
set_option linter.unusedVariables false

section
variable {P : Program} {ρ : Pls} {F : Nat → Prop} {base : Nat} {h : Heap} {w : World} {c : Nat}

/-- A new row under the name c: what is owed for 'Good'. -/
theorem good_new (R : Rel ρ F base h w.heap) (hc : ρ c = none) (hb : base ≤ w.heap.size) (b : Blk) (cs : Array Value) (T : TypeId) (hT : ∀ T0, b.ty = some T0 → T = T0) {vs : List Value}
    (hs : ∀ e ∈ b.es, e.length = b.sz) (hl : LR w.heap (FF F h ρ) ρ b.es.flatten vs) (h1 : ones vs) (hcs : ∀ (k : Nat) v, vs[k]? = some v → cs[k]? = some v)
    {v : AV} {u : Value}
    (hv : ∀ ρ' F' H', ρ' c = some (w.heap.size, 0, b.sz) → H'[w.heap.size]? = some (Obj.cells cs T (0, 0)) → VR H' F' ρ' v u) :
    ∃ ρ', Good ρ F base h w c v (h.put c (some b)) (c + 1) u (w.alloc (.cells cs T)) ρ' := by
  obtain ⟨r, m⟩ := R.new hc hb b cs T hT hs (fun i j x hx => by
    obtain ⟨v, h2, h3, h4⟩ := row_new (o := 0) hs hl h1 (fun k v hk => by simpa using hcs k v hk) i j x hx
    exact ⟨v, by simpa using h2, h3, h4⟩)
  refine ⟨_, r, hv _ _ _ (if_pos rfl) (by show (w.heap.push _)[w.heap.size]? = _; simp), fun l hl => if_neg (by omega), m, ?_⟩
  exact (Below.refl _ _).alloc hb _

theorem alloc_sound (R : Rel ρ F base h w.heap) (hb : base ≤ w.heap.size) {e : TypeId} {v : AV} {h' : Heap} {c' : Nat} (ha : allocA P e h c = some (v, h', c')) (fr : Fr ρ c c') :
    c ≤ c' ∧ Hits P (do pure (.value (← Instr.alloc e true (.tuple #[])))) w fun u w' => ∃ ρ', Good ρ F base h w c v h' c' u w' ρ' := by
  unfold allocA at ha
  split at ha
  · rename_i n el har
    obtain ⟨sz, hsz, ha⟩ := Option.bind_eq_some_iff.mp ha
    obtain ⟨zs, hze, ha⟩ := Option.bind_eq_some_iff.mp ha
    split at ha
    · rename_i hlen
      cases ha
      obtain ⟨i, z, hi, hz, hl, h1⟩ := zeT_some hze
      have hsl : ∀ e ∈ (List.range n).map (fun i => (zs.drop (i * sz)).take sz), e.length = sz := by
        intro e he
        obtain ⟨k, hk, rfl⟩ := List.mem_map.1 he
        have hk := List.mem_range.1 hk
        have : (k + 1) * sz ≤ n * sz := Nat.mul_le_mul_right _ hk
        rw [Nat.add_mul] at this
        simp
        omega
      have hfl : ((List.range n).map (fun i => (zs.drop (i * sz)).take sz)).flatten = zs := by
        apply List.ext_getElem?
        intro k
        by_cases hk : k < zs.length
        · have hf := flatten_len hsl
          simp only [List.length_map, List.length_range] at hf
          rw [List.getElem?_eq_getElem (by omega), List.getElem?_eq_getElem hk]
          obtain ⟨i, j, h2, h3⟩ := flatten_at2 hsl (List.getElem?_eq_getElem (show k < ((List.range n).map (fun i => (zs.drop (i * sz)).take sz)).flatten.length by omega))
          obtain ⟨_, hj, hi⟩ := at2_flatten hsl h3
          rw [← h3]
          simp only [List.length_map, List.length_range] at hi
          unfold at2
          rw [List.getElem?_map, List.getElem?_range hi]
          simp only [Option.map_some, Option.bind_some]
          rw [List.getElem?_take, if_pos hj, List.getElem?_drop, ← h2, List.getElem?_eq_getElem hk]
        · have hf := flatten_len hsl
          simp only [List.length_map, List.length_range] at hf
          rw [List.getElem?_eq_none (by omega), List.getElem?_eq_none (by omega)]
      refine ⟨by omega, ?_⟩
      obtain ⟨ρ', g⟩ := good_new (v := .arr c sz n) (u := .pointer (some ⟨w.heap.size, 0, none⟩)) R (fr c (Nat.le_refl _) (by omega)) hb ⟨sz, _, some e⟩ z.cells e (fun _ h => by cases h; rfl) hsl (by rw [hfl]; exact hl _ _ _) h1 (fun k v hk => by simpa using hk)
        (fun ρ' F' H' hρ hH => .arr _ _ _ _ _ _ hρ ⟨_, _, _, hH, by have := (hl w.heap F ρ).1; simp at this; omega⟩)
      refine hits_value (w' := w.alloc (.cells z.cells e)) (u := .pointer (some ⟨w.heap.size, 0, none⟩)) ?_ ⟨ρ', g⟩
      simp [Instr.alloc, run_zero hi hz, newVar, newRow]
    · cases ha
  · obtain ⟨zs, hze, ha⟩ := Option.bind_eq_some_iff.mp ha
    cases ha
    obtain ⟨i, z, hi, hz, hl, h1⟩ := zeT_some hze
    refine ⟨by omega, ?_⟩
    obtain ⟨ρ', g⟩ := good_new (v := .ptr c 0 0) (u := .pointer (some ⟨w.heap.size, 0, none⟩)) R (fr c (Nat.le_refl _) (by omega)) hb ⟨zs.length, [zs], some e⟩ z.cells e (fun _ h => by cases h; rfl) (by simp) (by simpa using hl _ _ _) h1 (fun k v hk => by simpa using hk)
      (fun ρ' F' H' hρ hH => by have := VR.ptr (H := H') (F := F') ρ' c 0 0 w.heap.size 0 _ hρ ⟨_, _, _, hH⟩; simpa using this)
    refine hits_value (w' := w.alloc (.cells z.cells e)) (u := .pointer (some ⟨w.heap.size, 0, none⟩)) ?_ ⟨ρ', g⟩
    simp [Instr.alloc, run_zero hi hz, newVar, newRow]

theorem box_sound (R : Rel ρ F base h w.heap) (hb : base ≤ w.heap.size) {e : TypeId} {x : AV} {y : Value} (hx : VR w.heap (FF F h ρ) ρ x y) (hok : x.cells.all okc = true) (fr : Fr ρ c (c + 1)) :
    Hits P (do pure (.value (← Instr.box e y))) w fun u w' => ∃ ρ', Good ρ F base h w c (.ptr c 0 0) (h.put c (some ⟨x.cells.length, [x.cells], some e⟩)) (c + 1) u w' ρ' := by
  have hbad : x.isBad = false := by cases x <;> first | rfl | (simp [AV.cells, okc] at hok)
  have hl := hx.cells hbad
  obtain ⟨ρ', g⟩ := good_new (v := .ptr c 0 0) (u := .pointer (some ⟨w.heap.size, 0, none⟩)) R (fr c (Nat.le_refl _) (by omega)) hb ⟨x.cells.length, [x.cells], some e⟩ y.cells e (fun _ h => by cases h; rfl) (by simp) (by simpa using hl) (ones_of hl hok) (fun k v hk => by simpa using hk)
    (fun ρ' F' H' hρ hH => by have := VR.ptr (H := H') (F := F') ρ' c 0 0 w.heap.size 0 _ hρ ⟨_, _, _, hH⟩; simpa using this)
  refine hits_value (w' := w.alloc (.cells y.cells e)) (u := .pointer (some ⟨w.heap.size, 0, none⟩)) ?_ ⟨ρ', g⟩
  simp [Instr.box, newVar, newRow]

/-! ### reading -/
theorem ld_sound (R : Rel ρ F base h w.heap) {n : Nat} {x : AV} {y : Value} {cs : List AV} (hx : VR w.heap (FF F h ρ) ρ x y) (e : ld h n x = some cs) :
    ∃ a vs, y = .pointer (some a) ∧ LR w.heap (FF F h ρ) ρ cs vs ∧ cs.length = n ∧ ones vs ∧ ∀ (i : Nat) v, vs[i]? = some v → w.cell? (a.add i) = some v := by
  unfold ld at e
  cases hx with
  | ptr _ l i f k o sz hρ hk =>
    simp only at e
    obtain ⟨b, hb, e⟩ := Option.bind_eq_some_iff.mp e
    obtain ⟨r, hr, e⟩ := Option.bind_eq_some_iff.mp e
    split at e
    · rename_i hlen
      cases e
      obtain ⟨k', o', cs', T, _, h1, h2, h3, h4, h5⟩ := R.ownC hb hρ hk
      rw [hρ] at h1
      obtain ⟨rfl, rfl, rfl⟩ : k = k' ∧ o = o' ∧ sz = b.sz := by cases h1; exact ⟨rfl, rfl, rfl⟩
      have key : ∀ (j : Nat) y, ((r.drop f).take n)[j]? = some y → ∃ v, cs'[o + i * b.sz + (f + j)]? = some v ∧ v.oneCell' = true ∧ VR w.heap (FF F h ρ) ρ y v := by
        intro j y hj
        rw [List.getElem?_take] at hj
        split at hj
        · rw [List.getElem?_drop] at hj
          exact h5 i (f + j) y (by unfold at2; rw [hr]; exact hj)
        · cases hj
      have hlen' : ((r.drop f).take n).length = n := by simp; omega
      refine ⟨⟨k, o + i * b.sz + f, none⟩, (List.range n).map fun j => cs'.getD (o + i * b.sz + (f + j)) .nilFunc, rfl, ⟨by simp; omega, fun j y hj => ?_⟩, hlen', fun v hv => ?_, fun j v hj => ?_⟩
      · have hjn : j < n := by have := (List.getElem?_eq_some_iff.1 hj).1; omega
        obtain ⟨v, hv, h6, h7⟩ := key j y hj
        refine ⟨v, ?_, h7⟩
        rw [List.getElem?_map, List.getElem?_range hjn]
        simp [Array.getD_eq_getD_getElem?, hv]
      · obtain ⟨j, hj, rfl⟩ := List.mem_map.1 hv
        have hjn := List.mem_range.1 hj
        obtain ⟨v, hv, h6, h7⟩ := key j _ (List.getElem?_eq_getElem (by omega))
        simpa [Array.getD_eq_getD_getElem?, hv] using h6
      · rw [List.getElem?_map] at hj
        obtain ⟨j', hj', e⟩ := Option.map_eq_some_iff.mp hj
        have hjn : j < n := by
          rcases Nat.lt_or_ge j n with hl | hl
          · exact hl
          · rw [List.getElem?_eq_none (by simpa using hl)] at hj'; cases hj'
        rw [List.getElem?_range hjn] at hj'
        cases hj'
        obtain ⟨v', hv, h6, h7⟩ := key j _ (List.getElem?_eq_getElem (by omega))
        rw [cell_eq, add_plain, cellH_plain h3, Nat.add_assoc, hv]
        simpa [Array.getD_eq_getD_getElem?, hv] using e
    · cases e
  | rptr _ rs a f hA hV =>
    simp only at e
    split at e
    · rename_i hlen
      cases e
      have hlen' : (rs.take n).length = n := by simp; omega
      have key : ∀ (j : Nat) y, (rs.take n)[j]? = some y → rs[j]? = some y := by
        intro j y hj
        rw [List.getElem?_take] at hj
        split at hj
        · exact hj
        · cases hj
      refine ⟨a, (List.range n).map f, rfl, ⟨by simp; omega, fun j y hj => ?_⟩, hlen', fun v hv => ?_, fun j v hj => ?_⟩
      · have hjn : j < n := by have := (List.getElem?_eq_some_iff.1 hj).1; omega
        exact ⟨f j, by rw [List.getElem?_map, List.getElem?_range hjn]; rfl, (hV j y (key j y hj)).mono (Mv.refl _ _) (Sub.none _)⟩
      · obtain ⟨j, hj, rfl⟩ := List.mem_map.1 hv
        have hjn := List.mem_range.1 hj
        exact (hA j _ (key j _ (List.getElem?_eq_getElem (by omega)))).2.2
      · rw [List.getElem?_map] at hj
        obtain ⟨j', hj', e⟩ := Option.map_eq_some_iff.mp hj
        have hjn : j < n := by
          rcases Nat.lt_or_ge j n with hl | hl
          · exact hl
          · rw [List.getElem?_eq_none (by simpa using hl)] at hj'; cases hj'
        rw [List.getElem?_range hjn] at hj'
        cases hj'
        rw [← e, cell_eq]
        exact (hA j _ (key j _ (List.getElem?_eq_getElem (by omega)))).2.1
    · cases e
  | _ => cases e

theorem mk_sound {H : Array Obj} {ag : Bool} {cs : List AV} {vs : List Value} (hl : LR H F ρ cs vs) : VR H F ρ (mk ag cs) (if ag then .agg vs.toArray else vs.headD undef) := by
  cases ag
  · unfold mk
    cases cs with
    | nil => exact .bad _ _
    | cons x r =>
      cases r with
      | nil =>
        obtain ⟨y, r, rfl, hy, hr⟩ := hl.uncons
        exact hy
      | cons => exact .bad _ _
  · exact hl.agg

theorem load_run {t n : Nat} {ag : Bool} (hn : szT P t = some n) (hag : aggT P t = some ag) (h1 : ag = false → n = 1) {a : Addr} {vs : List Value} (hl : vs.length = n)
    (hc : ∀ (i : Nat) v, vs[i]? = some v → w.cell? (a.add i) = some v) : (loadVar t a).run P w = .ok (if ag then .agg vs.toArray else vs.headD undef) w := by
  unfold loadVar
  rw [Sem.run_bind, run_ag hag]
  simp only [Result.andThen_ok]
  cases ag
  · have := h1 rfl
    subst this
    match vs, hl with
    | [v], _ =>
      have := hc 0 v rfl
      simp only [Addr.add, if_true] at this
      simp [this]
  · simp only [if_true, Sem.run_bind, run_sz hn, Result.andThen_ok]
    rw [← hl, run_loadCells_list w a vs (fun j v hj => hc j v hj)]
    rfl

theorem load_sound (R : Rel ρ F base h w.heap) {t : TypeId} {n : Nat} {ag : Bool} {x : AV} {y : Value} {cs : List AV} (hn : szT P t = some n) (hag : aggT P t = some ag) (h1 : ¬ (ag = false ∧ n ≠ 1))
    (hx : VR w.heap (FF F h ρ) ρ x y) (e : ld h n x = some cs) :
    Hits P (do pure (.value (← Instr.loadAt t y))) w fun u w' => ∃ ρ', Good ρ F base h w c (mk ag cs) h c u w' ρ' := by
  obtain ⟨a, vs, rfl, hl, hlen, ho, hc⟩ := ld_sound R hx e
  refine hits_value (w' := w) (u := if ag then .agg vs.toArray else vs.headD undef) ?_ ⟨ρ, good_same R (mk_sound hl)⟩
  unfold Instr.loadAt
  simp only [Instr.sureAddr, Sem.run_bind, Sem.run_pure, Result.andThen_ok]
  exact load_run hn hag (fun h => by rcases Nat.lt_trichotomy n 1 with h2 | h2 | h2 <;> simp_all) (by rw [hl.1, hlen]) hc

/-! ### writing -/
theorem store_sound (R : Rel ρ F base h w.heap) {t : TypeId} {n : Nat} {x p : AV} {y q : Value} {h' : Heap} (hn : szT P t = some n) (hx : VR w.heap (FF F h ρ) ρ x y) (hp : VR w.heap (FF F h ρ) ρ p q)
    (hlen : x.cells.length = n) (hok : x.cells.all okc = true) (e : stA h x.cells p = some h') :
    Hits P (do Instr.storeAt t q y; pure .skip) w fun u w' => ∃ ρ', Good ρ F base h w c .bad h' c u w' ρ' := by
  have hbad : x.isBad = false := by cases x <;> first | rfl | (simp [AV.cells, okc] at hok)
  have hl := hx.cells hbad
  have h1 := ones_of hl hok
  unfold stA at e
  cases hp with
  | ptr _ l i f k o sz hρ hk =>
    simp only at e
    obtain ⟨b, hb, e⟩ := Option.bind_eq_some_iff.mp e
    obtain ⟨r, hr, e⟩ := Option.bind_eq_some_iff.mp e
    split at e
    · rename_i hfit
      cases e
      obtain ⟨k', o', cs', T, hTT, g1, g2, g3, g4, g5⟩ := R.ownC hb hρ hk
      rw [hρ] at g1
      obtain ⟨rfl, rfl, rfl⟩ : k = k' ∧ o = o' ∧ sz = b.sz := by cases g1; exact ⟨rfl, rfl, rfl⟩
      have hrl : r.length = b.sz := g4 r (List.mem_of_getElem? hr)
      have hyl : y.cells.toList.length = x.cells.length := hl.1
      -- the cells that are written lie in the block
      have hin : ∀ j, j < x.cells.length → ∃ v, cs'[o + i * b.sz + f + j]? = some v := by
        intro j hj
        obtain ⟨v, hv, _⟩ := g5 i (f + j) (r[f + j]'(by omega)) (by unfold at2; rw [hr]; simp)
        exact ⟨v, by rw [Nat.add_assoc]; exact hv⟩
      have hsize : o + i * b.sz + f + 0 + y.cells.toList.length ≤ cs'.size ∨ x.cells.length = 0 := by
        by_cases h0 : x.cells.length = 0
        · exact .inr h0
        · obtain ⟨v, hv⟩ := hin (x.cells.length - 1) (by omega)
          have := (Array.getElem?_eq_some_iff.1 hv).1
          exact .inl (by omega)
      let cs2 : Array Value := (cs'.toList.take (o + i * b.sz + f + 0) ++ y.cells.toList ++ cs'.toList.drop (o + i * b.sz + f + 0 + y.cells.toList.length)).toArray
      have hrun : (storeCells ⟨k, o + i * b.sz + f, none⟩ y.cells.toList 0).run P w = .ok () (w.setRow k (if x.cells.length = 0 then cs' else cs2)) := by
        rcases hsize with hs | hs
        · by_cases h0 : x.cells.length = 0
          · have : y.cells.toList = [] := List.eq_nil_of_length_eq_zero (by omega)
            rw [if_pos h0, this, setRow_self w k cs' T _ g3]
            rfl
          · rw [if_neg h0]
            exact run_storeCells_at P k (o + i * b.sz + f) T y.cells.toList 0 cs' w g3 hs h1
        · have : y.cells.toList = [] := List.eq_nil_of_length_eq_zero (by omega)
          rw [if_pos hs, this, setRow_self w k cs' T _ g3]
          rfl
      have hsz2 : cs2.size = cs'.size ∨ x.cells.length = 0 := by
        rcases hsize with hs | hs
        · refine .inl ?_
          have hy : y.cells.size = y.cells.toList.length := by simp
          have hz : cs'.size = cs'.toList.length := by simp
          simp only [cs2, List.size_toArray, List.length_append, List.length_take, List.length_drop]
          omega
        · exact .inr hs
      have hget : ∀ m, (if x.cells.length = 0 then cs' else cs2)[m]? = if o + i * b.sz + f ≤ m ∧ m < o + i * b.sz + f + x.cells.length then y.cells.toList[m - (o + i * b.sz + f)]? else cs'[m]? := by
        intro m
        by_cases h0 : x.cells.length = 0
        · rw [if_pos h0, if_neg (by omega)]
        · rw [if_neg h0]
          have hs := hsize.resolve_right h0
          simp only [cs2, List.getElem?_toArray, Nat.add_zero] at hs ⊢
          rw [List.append_assoc]
          have hA : (cs'.toList.take (o + i * b.sz + f)).length = o + i * b.sz + f := by simp; omega
          by_cases h2 : m < o + i * b.sz + f
          · rw [List.getElem?_append_left (by omega), List.getElem?_take, if_pos h2, if_neg (by omega)]
            simp
          · rw [List.getElem?_append_right (by omega), hA]
            by_cases h3 : m < o + i * b.sz + f + x.cells.length
            · rw [List.getElem?_append_left (by omega), if_pos (by omega)]
            · rw [List.getElem?_append_right (by omega), List.getElem?_drop, if_neg (by omega)]
              rw [show o + i * b.sz + f + y.cells.toList.length + (m - (o + i * b.sz + f) - y.cells.toList.length) = m by omega]
              simp
      obtain ⟨r1, m1, s1⟩ := R.write (c := l) (o' := o) (b := b) (b' := { b with es := b.es.set i (setCells r f x.cells) }) (cs' := if x.cells.length = 0 then cs' else cs2) (H' := (w.setRow k (if x.cells.length = 0 then cs' else cs2)).heap) hb hρ g3
        (setRow_heap w k cs' _ T _ g3) (fun j hj => setRow_other w k j _ hj) (by split <;> omega) (by simp) (.inl ⟨rfl, rfl, rfl⟩) (fun T0 h => hTT.1 T0 h) hTT.2
        (fun e he => by
          rcases List.mem_or_eq_of_mem_set he with he | rfl
          · exact g4 e he
          · rw [setCells_length]; exact hrl)
        (fun i2 j2 z hz => by
          simp only at hz ⊢
          have hj2 : at2 (b.es.set i (setCells r f x.cells)) i2 j2 = some z := hz
          unfold at2 at hj2
          have hi : i < b.es.length := (List.getElem?_eq_some_iff.1 hr).1
          by_cases e2 : i2 = i
          · subst e2
            rw [List.getElem?_set_self hi] at hj2
            simp only [Option.bind_some] at hj2
            rw [setCells_get _ _ _ _ (by omega)] at hj2
            by_cases h2 : f ≤ j2 ∧ j2 < f + x.cells.length
            · rw [if_pos h2] at hj2
              obtain ⟨v, hv, hr2⟩ := hl.2 _ z hj2
              refine ⟨v, ?_, ones_get h1 hv, hr2⟩
              rw [hget, if_pos (by omega), show o + i2 * b.sz + j2 - (o + i2 * b.sz + f) = j2 - f by omega]
              exact hv
            · rw [if_neg h2] at hj2
              obtain ⟨v, hv, h3, h4⟩ := g5 i2 j2 z (by unfold at2; rw [hr]; exact hj2)
              exact ⟨v, by rw [hget, if_neg (by omega)]; exact hv, h3, h4⟩
          · rw [List.getElem?_set_ne (by omega)] at hj2
            obtain ⟨v, hv, h3, h4⟩ := g5 i2 j2 z (by unfold at2; exact hj2)
            refine ⟨v, ?_, h3, h4⟩
            rw [hget, if_neg]
            · exact hv
            · intro ⟨a1, a2⟩
              have hj : j2 < b.sz := by
                obtain ⟨q, hq, hj⟩ := Option.bind_eq_some_iff.mp hj2
                have := g4 q (List.mem_of_getElem? hq)
                have := (List.getElem?_eq_some_iff.1 hj).1
                omega
              rcases Nat.lt_or_gt_of_ne e2 with h5 | h5
              · have : (i2 + 1) * b.sz ≤ i * b.sz := Nat.mul_le_mul_right _ h5
                rw [Nat.add_mul] at this; omega
              · have : (i + 1) * b.sz ≤ i2 * b.sz := Nat.mul_le_mul_right _ h5
                rw [Nat.add_mul] at this; omega)
      have hheap : (h.put l none).put l (some { b with es := b.es.set i (setCells r f x.cells) }) = h.put l (some { b with es := b.es.set i (setCells r f x.cells) }) := by
        funext m; unfold Heap.put; split <;> simp_all
      have hρ' : (fun m => if m = l then some (k, o, b.sz) else ρ m) = ρ := by
        funext m; by_cases e2 : m = l
        · subst e2; simp [hρ]
        · simp [e2]
      simp only at r1 m1
      rw [hheap, hρ'] at r1 m1
      refine hits_skip (w' := w.setRow k (if x.cells.length = 0 then cs' else cs2)) ?_ ⟨ρ, r1, .bad _ _, fun _ _ => rfl, m1, ?_⟩
      · unfold Instr.storeAt storeVar
        simp only [Instr.sureAddr, Sem.run_bind, Sem.run_pure, Result.andThen_ok, run_sz hn]
        rw [if_neg (by have : y.cells.size = y.cells.toList.length := by simp
                       omega)]
        exact hrun
      · exact ⟨rfl, rfl, rfl, by simp, fun j hj => setRow_other w k j _ (by omega)⟩
    · cases e
  | _ => cases e

end
end Go.Proofs.YtbaoaodimbcebaaDoor.AM
