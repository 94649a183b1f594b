/- Parts of the proof: AmOps2, AmOps3, AmOps4, AmOps5, AmOps6, AmOps7, AmOps8. -/
import Derived.Test.YtgbdbenepnbajaaGreatDoorAmOps
import Derived.Lib.Builder
import Derived.Lib.UnsafeStr
import Derived.Laws.Pointers
import Derived.Laws.StructEq
import Derived.WalkSpells
import Derived.Laws.Concat
import Derived.Room.Entries
import Derived.MapKept
namespace Go.Proofs.YtgbdbenepnbajaaGreatDoor.AM
open Go Go.RowKit
set_option linter.unusedVariables false

section
variable {P : Program} {ρ : Pls} {F : Nat → Prop} {base : Nat} {h : Heap} {w : World} {c : Nat}

/-- A new row under the name c: what is owed for 'Good'. -/
theorem good_new (R : Rel ρ F base h w.heap) (hc : ρ c = none) (hb : base ≤ w.heap.size) (b : Blk) (cs : Array Value) (T : TypeId) (hT : ∀ T0, b.ty = some T0 → T = T0) {vs : List Value}
    (hs : ∀ e ∈ b.es, e.length = b.sz) (hl : LR w.heap (FF F h ρ) ρ b.es.flatten vs) (h1 : ones vs) (hcs : ∀ (k : Nat) v, vs[k]? = some v → cs[k]? = some v)
    {v : AV} {u : Value}
    (hv : ∀ ρ' F' H', ρ' c = some (w.heap.size, 0, b.sz) → H'[w.heap.size]? = some (Obj.cells cs T (0, 0)) → VR H' F' ρ' v u) :
    ∃ ρ', Good ρ F base h w c v (h.put c (some b)) (c + 1) u (w.alloc (.cells cs T)) ρ' := by
  obtain ⟨r, m⟩ := R.new hc hb b cs T hT hs (fun i j x hx => by
    obtain ⟨v, h2, h3, h4⟩ := row_new (o := 0) hs hl h1 (fun k v hk => by simpa using hcs k v hk) i j x hx
    exact ⟨v, by simpa using h2, h3, h4⟩)
  refine ⟨_, r, hv _ _ _ (if_pos rfl) (by show (w.heap.push _)[w.heap.size]? = _; simp), fun l hl => if_neg (by omega), m, ?_⟩
  exact (Below.refl _ _).alloc hb _

theorem alloc_sound (R : Rel ρ F base h w.heap) (hb : base ≤ w.heap.size) {e : TypeId} {v : AV} {h' : Heap} {c' : Nat} (ha : allocA P e h c = some (v, h', c')) (fr : Fr ρ c c') :
    c ≤ c' ∧ Hits P (do pure (.value (← Instr.alloc e true (.tuple #[])))) w fun u w' => ∃ ρ', Good ρ F base h w c v h' c' u w' ρ' := by
  unfold allocA at ha
  split at ha
  · rename_i n el har
    obtain ⟨sz, hsz, ha⟩ := Option.bind_eq_some_iff.mp ha
    obtain ⟨zs, hze, ha⟩ := Option.bind_eq_some_iff.mp ha
    split at ha
    · rename_i hlen
      cases ha
      obtain ⟨i, z, hi, hz, hl, h1⟩ := zeT_some hze
      have hsl : ∀ e ∈ (List.range n).map (fun i => (zs.drop (i * sz)).take sz), e.length = sz := by
        intro e he
        obtain ⟨k, hk, rfl⟩ := List.mem_map.1 he
        have hk := List.mem_range.1 hk
        have : (k + 1) * sz ≤ n * sz := Nat.mul_le_mul_right _ hk
        rw [Nat.add_mul] at this
        simp
        omega
      have hfl : ((List.range n).map (fun i => (zs.drop (i * sz)).take sz)).flatten = zs := by
        apply List.ext_getElem?
        intro k
        by_cases hk : k < zs.length
        · have hf := flatten_len hsl
          simp only [List.length_map, List.length_range] at hf
          rw [List.getElem?_eq_getElem (by omega), List.getElem?_eq_getElem hk]
          obtain ⟨i, j, h2, h3⟩ := flatten_at2 hsl (List.getElem?_eq_getElem (show k < ((List.range n).map (fun i => (zs.drop (i * sz)).take sz)).flatten.length by omega))
          obtain ⟨_, hj, hi⟩ := at2_flatten hsl h3
          rw [← h3]
          simp only [List.length_map, List.length_range] at hi
          unfold at2
          rw [List.getElem?_map, List.getElem?_range hi]
          simp only [Option.map_some, Option.bind_some]
          rw [List.getElem?_take, if_pos hj, List.getElem?_drop, ← h2, List.getElem?_eq_getElem hk]
        · have hf := flatten_len hsl
          simp only [List.length_map, List.length_range] at hf
          rw [List.getElem?_eq_none (by omega), List.getElem?_eq_none (by omega)]
      refine ⟨by omega, ?_⟩
      obtain ⟨ρ', g⟩ := good_new (v := .arr c sz n) (u := .pointer (some ⟨w.heap.size, 0, none⟩)) R (fr c (Nat.le_refl _) (by omega)) hb ⟨sz, _, some e⟩ z.cells e (fun _ h => by cases h; rfl) hsl (by rw [hfl]; exact hl _ _ _) h1 (fun k v hk => by simpa using hk)
        (fun ρ' F' H' hρ hH => .arr _ _ _ _ _ _ hρ ⟨_, _, _, hH, by have := (hl w.heap F ρ).1; simp at this; omega⟩)
      refine hits_value (w' := w.alloc (.cells z.cells e)) (u := .pointer (some ⟨w.heap.size, 0, none⟩)) ?_ ⟨ρ', g⟩
      simp [Instr.alloc, run_zero hi hz, newVar, newRow]
    · cases ha
  · obtain ⟨zs, hze, ha⟩ := Option.bind_eq_some_iff.mp ha
    cases ha
    obtain ⟨i, z, hi, hz, hl, h1⟩ := zeT_some hze
    refine ⟨by omega, ?_⟩
    obtain ⟨ρ', g⟩ := good_new (v := .ptr c 0 0) (u := .pointer (some ⟨w.heap.size, 0, none⟩)) R (fr c (Nat.le_refl _) (by omega)) hb ⟨zs.length, [zs], some e⟩ z.cells e (fun _ h => by cases h; rfl) (by simp) (by simpa using hl _ _ _) h1 (fun k v hk => by simpa using hk)
      (fun ρ' F' H' hρ hH => by have := VR.ptr (H := H') (F := F') ρ' c 0 0 w.heap.size 0 _ hρ ⟨_, _, _, hH⟩; simpa using this)
    refine hits_value (w' := w.alloc (.cells z.cells e)) (u := .pointer (some ⟨w.heap.size, 0, none⟩)) ?_ ⟨ρ', g⟩
    simp [Instr.alloc, run_zero hi hz, newVar, newRow]

theorem box_sound (R : Rel ρ F base h w.heap) (hb : base ≤ w.heap.size) {e : TypeId} {x : AV} {y : Value} (hx : VR w.heap (FF F h ρ) ρ x y) (hok : x.cells.all okc = true) (fr : Fr ρ c (c + 1)) :
    Hits P (do pure (.value (← Instr.box e y))) w fun u w' => ∃ ρ', Good ρ F base h w c (.ptr c 0 0) (h.put c (some ⟨x.cells.length, [x.cells], some e⟩)) (c + 1) u w' ρ' := by
  have hbad : x.isBad = false := by cases x <;> first | rfl | (simp [AV.cells, okc] at hok)
  have hl := hx.cells hbad
  obtain ⟨ρ', g⟩ := good_new (v := .ptr c 0 0) (u := .pointer (some ⟨w.heap.size, 0, none⟩)) R (fr c (Nat.le_refl _) (by omega)) hb ⟨x.cells.length, [x.cells], some e⟩ y.cells e (fun _ h => by cases h; rfl) (by simp) (by simpa using hl) (ones_of hl hok) (fun k v hk => by simpa using hk)
    (fun ρ' F' H' hρ hH => by have := VR.ptr (H := H') (F := F') ρ' c 0 0 w.heap.size 0 _ hρ ⟨_, _, _, hH⟩; simpa using this)
  refine hits_value (w' := w.alloc (.cells y.cells e)) (u := .pointer (some ⟨w.heap.size, 0, none⟩)) ?_ ⟨ρ', g⟩
  simp [Instr.box, newVar, newRow]

/-! ### reading -/
theorem ld_sound (R : Rel ρ F base h w.heap) {n : Nat} {x : AV} {y : Value} {cs : List AV} (hx : VR w.heap (FF F h ρ) ρ x y) (e : ld h n x = some cs) :
    ∃ a vs, y = .pointer (some a) ∧ LR w.heap (FF F h ρ) ρ cs vs ∧ cs.length = n ∧ ones vs ∧ ∀ (i : Nat) v, vs[i]? = some v → w.cell? (a.add i) = some v := by
  unfold ld at e
  cases hx with
  | ptr _ l i f k o sz hρ hk =>
    simp only at e
    obtain ⟨b, hb, e⟩ := Option.bind_eq_some_iff.mp e
    obtain ⟨r, hr, e⟩ := Option.bind_eq_some_iff.mp e
    split at e
    · rename_i hlen
      cases e
      obtain ⟨k', o', cs', T, _, h1, h2, h3, h4, h5⟩ := R.ownC hb hρ hk
      rw [hρ] at h1
      obtain ⟨rfl, rfl, rfl⟩ : k = k' ∧ o = o' ∧ sz = b.sz := by cases h1; exact ⟨rfl, rfl, rfl⟩
      have key : ∀ (j : Nat) y, ((r.drop f).take n)[j]? = some y → ∃ v, cs'[o + i * b.sz + (f + j)]? = some v ∧ v.oneCell' = true ∧ VR w.heap (FF F h ρ) ρ y v := by
        intro j y hj
        rw [List.getElem?_take] at hj
        split at hj
        · rw [List.getElem?_drop] at hj
          exact h5 i (f + j) y (by unfold at2; rw [hr]; exact hj)
        · cases hj
      have hlen' : ((r.drop f).take n).length = n := by simp; omega
      refine ⟨⟨k, o + i * b.sz + f, none⟩, (List.range n).map fun j => cs'.getD (o + i * b.sz + (f + j)) .nilFunc, rfl, ⟨by simp; omega, fun j y hj => ?_⟩, hlen', fun v hv => ?_, fun j v hj => ?_⟩
      · have hjn : j < n := by have := (List.getElem?_eq_some_iff.1 hj).1; omega
        obtain ⟨v, hv, h6, h7⟩ := key j y hj
        refine ⟨v, ?_, h7⟩
        rw [List.getElem?_map, List.getElem?_range hjn]
        simp [Array.getD_eq_getD_getElem?, hv]
      · obtain ⟨j, hj, rfl⟩ := List.mem_map.1 hv
        have hjn := List.mem_range.1 hj
        obtain ⟨v, hv, h6, h7⟩ := key j _ (List.getElem?_eq_getElem (by omega))
        simpa [Array.getD_eq_getD_getElem?, hv] using h6
      · rw [List.getElem?_map] at hj
        obtain ⟨j', hj', e⟩ := Option.map_eq_some_iff.mp hj
        have hjn : j < n := by
          rcases Nat.lt_or_ge j n with hl | hl
          · exact hl
          · rw [List.getElem?_eq_none (by simpa using hl)] at hj'; cases hj'
        rw [List.getElem?_range hjn] at hj'
        cases hj'
        obtain ⟨v', hv, h6, h7⟩ := key j _ (List.getElem?_eq_getElem (by omega))
        rw [cell_eq, add_plain, cellH_plain h3, Nat.add_assoc, hv]
        simpa [Array.getD_eq_getD_getElem?, hv] using e
    · cases e
  | rptr _ rs a f hA hV =>
    simp only at e
    split at e
    · rename_i hlen
      cases e
      have hlen' : (rs.take n).length = n := by simp; omega
      have key : ∀ (j : Nat) y, (rs.take n)[j]? = some y → rs[j]? = some y := by
        intro j y hj
        rw [List.getElem?_take] at hj
        split at hj
        · exact hj
        · cases hj
      refine ⟨a, (List.range n).map f, rfl, ⟨by simp; omega, fun j y hj => ?_⟩, hlen', fun v hv => ?_, fun j v hj => ?_⟩
      · have hjn : j < n := by have := (List.getElem?_eq_some_iff.1 hj).1; omega
        exact ⟨f j, by rw [List.getElem?_map, List.getElem?_range hjn]; rfl, (hV j y (key j y hj)).mono (Mv.refl _ _) (Sub.none _)⟩
      · obtain ⟨j, hj, rfl⟩ := List.mem_map.1 hv
        have hjn := List.mem_range.1 hj
        exact (hA j _ (key j _ (List.getElem?_eq_getElem (by omega)))).2.2
      · rw [List.getElem?_map] at hj
        obtain ⟨j', hj', e⟩ := Option.map_eq_some_iff.mp hj
        have hjn : j < n := by
          rcases Nat.lt_or_ge j n with hl | hl
          · exact hl
          · rw [List.getElem?_eq_none (by simpa using hl)] at hj'; cases hj'
        rw [List.getElem?_range hjn] at hj'
        cases hj'
        rw [← e, cell_eq]
        exact (hA j _ (key j _ (List.getElem?_eq_getElem (by omega)))).2.1
    · cases e
  | _ => cases e

theorem mk_sound {H : Array Obj} {ag : Bool} {cs : List AV} {vs : List Value} (hl : LR H F ρ cs vs) : VR H F ρ (mk ag cs) (if ag then .agg vs.toArray else vs.headD undef) := by
  cases ag
  · unfold mk
    cases cs with
    | nil => exact .bad _ _
    | cons x r =>
      cases r with
      | nil =>
        obtain ⟨y, r, rfl, hy, hr⟩ := hl.uncons
        exact hy
      | cons => exact .bad _ _
  · exact hl.agg

theorem load_run {t n : Nat} {ag : Bool} (hn : szT P t = some n) (hag : aggT P t = some ag) (h1 : ag = false → n = 1) {a : Addr} {vs : List Value} (hl : vs.length = n)
    (hc : ∀ (i : Nat) v, vs[i]? = some v → w.cell? (a.add i) = some v) : (loadVar t a).run P w = .ok (if ag then .agg vs.toArray else vs.headD undef) w := by
  unfold loadVar
  rw [Sem.run_bind, run_ag hag]
  simp only [Result.andThen_ok]
  cases ag
  · have := h1 rfl
    subst this
    match vs, hl with
    | [v], _ =>
      have := hc 0 v rfl
      simp only [Addr.add, if_true] at this
      simp [this]
  · simp only [if_true, Sem.run_bind, run_sz hn, Result.andThen_ok]
    rw [← hl, run_loadCells_list w a vs (fun j v hj => hc j v hj)]
    rfl

theorem load_sound (R : Rel ρ F base h w.heap) {t : TypeId} {n : Nat} {ag : Bool} {x : AV} {y : Value} {cs : List AV} (hn : szT P t = some n) (hag : aggT P t = some ag) (h1 : ¬ (ag = false ∧ n ≠ 1))
    (hx : VR w.heap (FF F h ρ) ρ x y) (e : ld h n x = some cs) :
    Hits P (do pure (.value (← Instr.loadAt t y))) w fun u w' => ∃ ρ', Good ρ F base h w c (mk ag cs) h c u w' ρ' := by
  obtain ⟨a, vs, rfl, hl, hlen, ho, hc⟩ := ld_sound R hx e
  refine hits_value (w' := w) (u := if ag then .agg vs.toArray else vs.headD undef) ?_ ⟨ρ, good_same R (mk_sound hl)⟩
  unfold Instr.loadAt
  simp only [Instr.sureAddr, Sem.run_bind, Sem.run_pure, Result.andThen_ok]
  exact load_run hn hag (fun h => by rcases Nat.lt_trichotomy n 1 with h2 | h2 | h2 <;> simp_all) (by rw [hl.1, hlen]) hc

/-! ### writing -/
theorem store_sound (R : Rel ρ F base h w.heap) {t : TypeId} {n : Nat} {x p : AV} {y q : Value} {h' : Heap} (hn : szT P t = some n) (hx : VR w.heap (FF F h ρ) ρ x y) (hp : VR w.heap (FF F h ρ) ρ p q)
    (hlen : x.cells.length = n) (hok : x.cells.all okc = true) (e : stA h x.cells p = some h') :
    Hits P (do Instr.storeAt t q y; pure .skip) w fun u w' => ∃ ρ', Good ρ F base h w c .bad h' c u w' ρ' := by
  have hbad : x.isBad = false := by cases x <;> first | rfl | (simp [AV.cells, okc] at hok)
  have hl := hx.cells hbad
  have h1 := ones_of hl hok
  unfold stA at e
  cases hp with
  | ptr _ l i f k o sz hρ hk =>
    simp only at e
    obtain ⟨b, hb, e⟩ := Option.bind_eq_some_iff.mp e
    obtain ⟨r, hr, e⟩ := Option.bind_eq_some_iff.mp e
    split at e
    · rename_i hfit
      cases e
      obtain ⟨k', o', cs', T, hTT, g1, g2, g3, g4, g5⟩ := R.ownC hb hρ hk
      rw [hρ] at g1
      obtain ⟨rfl, rfl, rfl⟩ : k = k' ∧ o = o' ∧ sz = b.sz := by cases g1; exact ⟨rfl, rfl, rfl⟩
      have hrl : r.length = b.sz := g4 r (List.mem_of_getElem? hr)
      have hyl : y.cells.toList.length = x.cells.length := hl.1
      -- the cells that are written lie in the block
      have hin : ∀ j, j < x.cells.length → ∃ v, cs'[o + i * b.sz + f + j]? = some v := by
        intro j hj
        obtain ⟨v, hv, _⟩ := g5 i (f + j) (r[f + j]'(by omega)) (by unfold at2; rw [hr]; simp)
        exact ⟨v, by rw [Nat.add_assoc]; exact hv⟩
      have hsize : o + i * b.sz + f + 0 + y.cells.toList.length ≤ cs'.size ∨ x.cells.length = 0 := by
        by_cases h0 : x.cells.length = 0
        · exact .inr h0
        · obtain ⟨v, hv⟩ := hin (x.cells.length - 1) (by omega)
          have := (Array.getElem?_eq_some_iff.1 hv).1
          exact .inl (by omega)
      let cs2 : Array Value := (cs'.toList.take (o + i * b.sz + f + 0) ++ y.cells.toList ++ cs'.toList.drop (o + i * b.sz + f + 0 + y.cells.toList.length)).toArray
      have hrun : (storeCells ⟨k, o + i * b.sz + f, none⟩ y.cells.toList 0).run P w = .ok () (w.setRow k (if x.cells.length = 0 then cs' else cs2)) := by
        rcases hsize with hs | hs
        · by_cases h0 : x.cells.length = 0
          · have : y.cells.toList = [] := List.eq_nil_of_length_eq_zero (by omega)
            rw [if_pos h0, this, setRow_self w k cs' T _ g3]
            rfl
          · rw [if_neg h0]
            exact run_storeCells_at P k (o + i * b.sz + f) T y.cells.toList 0 cs' w g3 hs h1
        · have : y.cells.toList = [] := List.eq_nil_of_length_eq_zero (by omega)
          rw [if_pos hs, this, setRow_self w k cs' T _ g3]
          rfl
      have hsz2 : cs2.size = cs'.size ∨ x.cells.length = 0 := by
        rcases hsize with hs | hs
        · refine .inl ?_
          have hy : y.cells.size = y.cells.toList.length := by simp
          have hz : cs'.size = cs'.toList.length := by simp
          simp only [cs2, List.size_toArray, List.length_append, List.length_take, List.length_drop]
          omega
        · exact .inr hs
      have hget : ∀ m, (if x.cells.length = 0 then cs' else cs2)[m]? = if o + i * b.sz + f ≤ m ∧ m < o + i * b.sz + f + x.cells.length then y.cells.toList[m - (o + i * b.sz + f)]? else cs'[m]? := by
        intro m
        by_cases h0 : x.cells.length = 0
        · rw [if_pos h0, if_neg (by omega)]
        · rw [if_neg h0]
          have hs := hsize.resolve_right h0
          simp only [cs2, List.getElem?_toArray, Nat.add_zero] at hs ⊢
          rw [List.append_assoc]
          have hA : (cs'.toList.take (o + i * b.sz + f)).length = o + i * b.sz + f := by simp; omega
          by_cases h2 : m < o + i * b.sz + f
          · rw [List.getElem?_append_left (by omega), List.getElem?_take, if_pos h2, if_neg (by omega)]
            simp
          · rw [List.getElem?_append_right (by omega), hA]
            by_cases h3 : m < o + i * b.sz + f + x.cells.length
            · rw [List.getElem?_append_left (by omega), if_pos (by omega)]
            · rw [List.getElem?_append_right (by omega), List.getElem?_drop, if_neg (by omega)]
              rw [show o + i * b.sz + f + y.cells.toList.length + (m - (o + i * b.sz + f) - y.cells.toList.length) = m by omega]
              simp
      obtain ⟨r1, m1, s1⟩ := R.write (c := l) (o' := o) (b := b) (b' := { b with es := b.es.set i (setCells r f x.cells) }) (cs' := if x.cells.length = 0 then cs' else cs2) (H' := (w.setRow k (if x.cells.length = 0 then cs' else cs2)).heap) hb hρ g3
        (setRow_heap w k cs' _ T _ g3) (fun j hj => setRow_other w k j _ hj) (by split <;> omega) (by simp) (.inl ⟨rfl, rfl, rfl⟩) (fun T0 h => hTT.1 T0 h) hTT.2
        (fun e he => by
          rcases List.mem_or_eq_of_mem_set he with he | rfl
          · exact g4 e he
          · rw [setCells_length]; exact hrl)
        (fun i2 j2 z hz => by
          simp only at hz ⊢
          have hj2 : at2 (b.es.set i (setCells r f x.cells)) i2 j2 = some z := hz
          unfold at2 at hj2
          have hi : i < b.es.length := (List.getElem?_eq_some_iff.1 hr).1
          by_cases e2 : i2 = i
          · subst e2
            rw [List.getElem?_set_self hi] at hj2
            simp only [Option.bind_some] at hj2
            rw [setCells_get _ _ _ _ (by omega)] at hj2
            by_cases h2 : f ≤ j2 ∧ j2 < f + x.cells.length
            · rw [if_pos h2] at hj2
              obtain ⟨v, hv, hr2⟩ := hl.2 _ z hj2
              refine ⟨v, ?_, ones_get h1 hv, hr2⟩
              rw [hget, if_pos (by omega), show o + i2 * b.sz + j2 - (o + i2 * b.sz + f) = j2 - f by omega]
              exact hv
            · rw [if_neg h2] at hj2
              obtain ⟨v, hv, h3, h4⟩ := g5 i2 j2 z (by unfold at2; rw [hr]; exact hj2)
              exact ⟨v, by rw [hget, if_neg (by omega)]; exact hv, h3, h4⟩
          · rw [List.getElem?_set_ne (by omega)] at hj2
            obtain ⟨v, hv, h3, h4⟩ := g5 i2 j2 z (by unfold at2; exact hj2)
            refine ⟨v, ?_, h3, h4⟩
            rw [hget, if_neg]
            · exact hv
            · intro ⟨a1, a2⟩
              have hj : j2 < b.sz := by
                obtain ⟨q, hq, hj⟩ := Option.bind_eq_some_iff.mp hj2
                have := g4 q (List.mem_of_getElem? hq)
                have := (List.getElem?_eq_some_iff.1 hj).1
                omega
              rcases Nat.lt_or_gt_of_ne e2 with h5 | h5
              · have : (i2 + 1) * b.sz ≤ i * b.sz := Nat.mul_le_mul_right _ h5
                rw [Nat.add_mul] at this; omega
              · have : (i + 1) * b.sz ≤ i2 * b.sz := Nat.mul_le_mul_right _ h5
                rw [Nat.add_mul] at this; omega)
      have hheap : (h.put l none).put l (some { b with es := b.es.set i (setCells r f x.cells) }) = h.put l (some { b with es := b.es.set i (setCells r f x.cells) }) := by
        funext m; unfold Heap.put; split <;> simp_all
      have hρ' : (fun m => if m = l then some (k, o, b.sz) else ρ m) = ρ := by
        funext m; by_cases e2 : m = l
        · subst e2; simp [hρ]
        · simp [e2]
      simp only at r1 m1
      rw [hheap, hρ'] at r1 m1
      refine hits_skip (w' := w.setRow k (if x.cells.length = 0 then cs' else cs2)) ?_ ⟨ρ, r1, .bad _ _, fun _ _ => rfl, m1, ?_⟩
      · unfold Instr.storeAt storeVar
        simp only [Instr.sureAddr, Sem.run_bind, Sem.run_pure, Result.andThen_ok, run_sz hn]
        rw [if_neg (by have : y.cells.size = y.cells.toList.length := by simp
                       omega)]
        exact hrun
      · exact ⟨rfl, rfl, rfl, by simp, fun j hj => setRow_other w k j _ (by omega)⟩
    · cases e
  | _ => cases e

end
end Go.Proofs.YtgbdbenepnbajaaGreatDoor.AM
namespace Go.Proofs.YtgbdbenepnbajaaGreatDoor.AM
open Go Go.RowKit
set_option linter.unusedVariables false

section
variable {P : Program} {ρ : Pls} {F : Nat → Prop} {w : World} {H : Array Obj}

theorem ev_sound {t : Nat → AV} {a : Act} (T : ∀ i, VR H F ρ (t i) (a.tmps.getD i undef)) (x : Operand) : VR H F ρ (evA t x) (a.eval x) := by
  cases x with
  | tmp i => exact T i
  | const v => exact lit_sound v
  | global g => exact .bad _ _
  | func f => exact .fn _ f [] #[] (fun _ => .nilFunc) rfl (fun i x h => by simp at h) (fun i x h => by simp at h)

theorem pick_sound {c a b v : AV} {cv av bv : Value} (hc : VR H F ρ c cv) (ha : VR H F ρ a av) (hb : VR H F ρ b bv) (e : pickA c a b = some v) :
    ∃ u, VR H F ρ v u ∧ (do pure (Next.value (if ← asBool cv then av else bv)) : Sem Next).run P w = .ok (.value u) w := by
  unfold pickA at e
  split at e
  · rename_i t
    cases hc
    cases e
    cases t
    · exact ⟨bv, hb, by simp [asBool]⟩
    · exact ⟨av, ha, by simp [asBool]⟩
  · cases e

theorem sh_int {op : BinOp} {k k' : IntKind} {a b : Int} {v : AV} {t : TypeId} {X Y : Operand} (e : shA op k a b = some v) :
    ∃ u, v = .val u ∧ u.oneCell' = true ∧ (do eqGuard op t X Y (.int k a) (.int k' b); binOp op t (.int k a) (.int k' b)).run P w = .ok u w := by
  unfold shA at e
  split at e
  · cases e
  · rename_i h0
    cases op <;> simp only [intV] at e
    all_goals (first
      | (cases e; done)
      | (cases e; refine ⟨_, rfl, rfl, ?_⟩; simp [eqGuard, binOp, Op.shift, h0, shlI, shrI]))

theorem bin_int {op : BinOp} {k : IntKind} {a b : Int} {v : AV} {t : TypeId} {X Y : Operand} (e : binI op k a b = some v) :
    ∃ u, v = .val u ∧ u.oneCell' = true ∧ (do eqGuard op t X Y (.int k a) (.int k b); binOp op t (.int k a) (.int k b)).run P w = .ok u w := by
  unfold binI at e
  cases op <;> simp only [intV, boolV] at e
  all_goals (first
    | (cases e; done)
    | exact sh_int e
    | (cases e; refine ⟨_, rfl, rfl, ?_⟩; simp [eqGuard, binOp, Op.intArith, Op.intCmp]; done)
    | (cases e; refine ⟨_, rfl, rfl, ?_⟩; simp [eqGuard, binOp, Op.intBits, andI, orI, xorI]; done)
    | (split at e
       · cases e
       · rename_i h0; cases e; refine ⟨_, rfl, rfl, ?_⟩; simp [eqGuard, binOp, Op.intDiv, h0]))

theorem bin_str {op : BinOp} {a b : ByteArray} {v : AV} {t : TypeId} {X Y : Operand} (e : binS op a b = some v) :
    ∃ u, v = .val u ∧ u.oneCell' = true ∧ (do eqGuard op t X Y (.string a) (.string b); binOp op t (.string a) (.string b)).run P w = .ok u w := by
  unfold binS at e
  cases op <;> simp only [boolV] at e
  all_goals (first
    | (cases e; done)
    | (cases e; refine ⟨_, rfl, rfl, ?_⟩; simp [eqGuard, binOp, Op.stringOp]; done)
    | (split at e
       · rename_i hl; cases e; refine ⟨_, rfl, rfl, ?_⟩
         have h2 : ¬ ((a.size : Int) + (b.size : Int) > IntKind.i64.max) := by
           have : IntKind.i64.max = 9223372036854775807 := by decide
           omega
         simp [eqGuard, binOp, Op.stringOp]
         simpa using h2
       · cases e))

theorem eqFields_int {d : Nat} {xs ys : Array Value} : ∀ (fs : List Field) (k0 : Nat) (as bs : List AV) (r : Bool), (∀ p ∈ fs.zipIdx k0, p.1.name ≠ "_" ∧ p.1.offset = p.2 ∧ ∃ k, P.underlying p.1.type = some (.int k)) →
    as.length = fs.length → eqs as bs = some r → (∀ (j : Nat) x, as[j]? = some x → ∃ v, xs[k0 + j]? = some v ∧ VR H F ρ x v) → (∀ (j : Nat) x, bs[j]? = some x → ∃ v, ys[k0 + j]? = some v ∧ VR H F ρ x v) →
    (Op.eqFields (d + 1) xs ys fs).run P w = .ok r w
  | [], k0, as, bs, r, _, hl, he, _, _ => by
    have : as = [] := by simpa using hl
    subst this
    cases bs with
    | nil => cases he; rfl
    | cons => cases he
  | f :: fs, k0, as, bs, r, hf, hl, he, ha, hb => by
    cases as with
    | nil => simp at hl
    | cons x as =>
      cases bs with
      | nil => unfold eqs at he; split at he <;> simp_all
      | cons y bs =>
        unfold eqs at he
        split at he
        · simp_all
        · rename_i k a as' k' b bs' e1 e2
          cases e1
          cases e2
          obtain ⟨h1, h2, kk, h3⟩ := hf (f, k0) (by simp [List.zipIdx_cons])
          simp only at h1 h2 h3
          obtain ⟨u, hu, hru⟩ := ha 0 _ rfl
          obtain ⟨u', hu', hru'⟩ := hb 0 _ rfl
          cases hru
          cases hru'
          simp only [Nat.add_zero] at hu hu'
          split at he
          · rename_i hk
            subst hk
            have hp1 : (part f.type xs f.offset).run P w = .ok (.int k a) w := by simp [part, isAgg, run_underlying h3, h2, hu]
            have hp2 : (part f.type ys f.offset).run P w = .ok (.int k b) w := by simp [part, isAgg, run_underlying h3, h2, hu']
            have hq := run_equalIn_int w d f.type k kk a b h3
            simp only [Op.eqFields, if_pos h1, Sem.run_bind, hp1, hp2, hq, Result.andThen_ok]
            split at he
            · rename_i hab
              subst hab
              simp
              exact eqFields_int fs (k0 + 1) _ _ r (fun p hp => hf p (by simp [List.zipIdx_cons, hp])) (by simpa using hl) he
                (fun j x hj => by have := ha (j + 1) x (by simpa using hj); rwa [show k0 + (j + 1) = k0 + 1 + j by omega] at this)
                (fun j x hj => by have := hb (j + 1) x (by simpa using hj); rwa [show k0 + (j + 1) = k0 + 1 + j by omega] at this)
            · rename_i hab
              cases he
              simp [hab]
          · cases he
        · cases he

theorem eqFields_K {d : Nat} {xs ys : Array Value} : ∀ (fs : List Field) (k0 : Nat) (ks : List Bool) (as bs : List AV) (r : Bool), (∀ p ∈ fs.zipIdx k0, p.1.name ≠ "_" ∧ p.1.offset = p.2) →
    (fs.mapM fun f => match P.underlying f.type with | some (.int _) => some false | some .bool => some true | _ => none) = some ks →
    as.length = fs.length → eqK ks as bs = some r → (∀ (j : Nat) x, as[j]? = some x → ∃ v, xs[k0 + j]? = some v ∧ VR H F ρ x v) → (∀ (j : Nat) x, bs[j]? = some x → ∃ v, ys[k0 + j]? = some v ∧ VR H F ρ x v) →
    (Op.eqFields (d + 1) xs ys fs).run P w = .ok r w
  | [], k0, ks, as, bs, r, _, hm, hl, he, _, _ => by
    have : as = [] := by simpa using hl
    subst this
    cases hm
    cases bs with
    | nil => cases he; rfl
    | cons => cases he
  | f :: fs, k0, ks, as, bs, r, hf, hm, hl, he, ha, hb => by
    cases as with
    | nil => simp at hl
    | cons x as =>
      simp only [List.mapM_cons, Option.bind_eq_bind, Option.pure_def] at hm
      obtain ⟨q, hq1, hm⟩ := Option.bind_eq_some_iff.mp hm
      obtain ⟨ks', hq2, hm⟩ := Option.bind_eq_some_iff.mp hm
      cases hm
      obtain ⟨h1, h2⟩ := hf (f, k0) (by simp [List.zipIdx_cons])
      simp only at h1 h2
      have rest : ∀ {bs : List AV}, eqK ks' as bs = some r → (∀ (j : Nat) x, bs[j]? = some x → ∃ v, ys[k0 + 1 + j]? = some v ∧ VR H F ρ x v) → (Op.eqFields (d + 1) xs ys fs).run P w = .ok r w := fun he hb' =>
        eqFields_K fs (k0 + 1) ks' as _ r (fun p hp => hf p (by simp [List.zipIdx_cons, hp])) hq2 (by simpa using hl) he
          (fun j x hj => by have := ha (j + 1) x (by simpa using hj); rwa [show k0 + (j + 1) = k0 + 1 + j by omega] at this) hb'
      unfold eqK at he
      split at he
      · rename_i e0 e1 e2
        cases e1
      · rename_i ks2 k a xs' k' b ys' e1 e2
        cases e1; cases e2
        have h3 : ∃ kk, P.underlying f.type = some (.int kk) := by
          split at hq1
          · rename_i kk hk; exact ⟨kk, hk⟩
          · cases hq1
          · cases hq1
        obtain ⟨kk, h3⟩ := h3
        obtain ⟨u, hu, hru⟩ := ha 0 _ rfl
        obtain ⟨u', hu', hru'⟩ := hb 0 _ rfl
        cases hru
        cases hru'
        simp only [Nat.add_zero] at hu hu'
        split at he
        · rename_i hk
          subst hk
          have hp1 : (part f.type xs f.offset).run P w = .ok (.int k a) w := by simp [part, isAgg, run_underlying h3, h2, hu]
          have hp2 : (part f.type ys f.offset).run P w = .ok (.int k b) w := by simp [part, isAgg, run_underlying h3, h2, hu']
          have hq := run_equalIn_int w d f.type k kk a b h3
          simp only [Op.eqFields, if_pos h1, Sem.run_bind, hp1, hp2, hq, Result.andThen_ok]
          split at he
          · rename_i hab
            subst hab
            simp
            exact rest he (fun j x hj => by have := hb (j + 1) x (by simpa using hj); rwa [show k0 + (j + 1) = k0 + 1 + j by omega] at this)
          · rename_i hab
            cases he
            simp [hab]
        · cases he
      · rename_i ks2 a xs' b ys' e1 e2
        cases e1; cases e2
        have h3 : P.underlying f.type = some .bool := by
          split at hq1
          · cases hq1
          · rename_i hk; exact hk
          · cases hq1
        obtain ⟨u, hu, hru⟩ := ha 0 _ rfl
        obtain ⟨u', hu', hru'⟩ := hb 0 _ rfl
        cases hru
        cases hru'
        simp only [Nat.add_zero] at hu hu'
        have hp1 : (part f.type xs f.offset).run P w = .ok (.bool a) w := by simp [part, isAgg, run_underlying h3, h2, hu]
        have hp2 : (part f.type ys f.offset).run P w = .ok (.bool b) w := by simp [part, isAgg, run_underlying h3, h2, hu']
        have hq := run_equalIn_bool' w d f.type a b h3
        simp only [Op.eqFields, if_pos h1, Sem.run_bind, hp1, hp2, hq, Result.andThen_ok]
        split at he
        · rename_i hab
          subst hab
          simp
          exact rest he (fun j x hj => by have := hb (j + 1) x (by simpa using hj); rwa [show k0 + (j + 1) = k0 + 1 + j by omega] at this)
        · rename_i hab
          cases he
          simp [hab]
      · cases he

theorem bin_aggK {t : TypeId} {ks : List Bool} {xs ys : List AV} {us vs : Array Value} {r : Bool} (hx : VR H F ρ (.agg xs) (.agg us)) (hy : VR H F ρ (.agg ys) (.agg vs)) (hi : inK P t = some ks) (hn : szT P t = some xs.length)
    (e : eqK ks xs ys = some r) : (Op.equalIn 10000 t (.agg us) (.agg vs)).run P w = .ok r w ∧ P.eqGuardType P.depth t = false := by
  unfold inK at hi
  split at hi
  · rename_i fs ht
    split at hi
    · rename_i hc
      simp only [Bool.and_eq_true, Bool.not_eq_true', beq_iff_eq, List.all_eq_true] at hc
      obtain ⟨⟨⟨h1, h2⟩, h3⟩, h4⟩ := hc
      have hff : P.fieldsOf t = fs := by unfold Program.fieldsOf; rw [ht]
      refine ⟨?_, h1⟩
      rw [run_equalIn_agg w 9999 t us vs (by rw [hff]; exact ht) h2, hff]
      have hl : xs.length = fs.size := by
        unfold szT at hn
        rw [h3] at hn
        exact (Option.some.inj hn).symm
      have lx := LR.of_agg hx
      have ly := LR.of_agg hy
      refine eqFields_K (H := H) (F := F) (ρ := ρ) fs.toList 0 ks xs ys r (fun p hp => ?_) hi (by simpa using hl) e (fun j x hj => by obtain ⟨v, hv, hr⟩ := lx.2 j x hj; exact ⟨v, by simpa using hv, hr⟩) (fun j x hj => by obtain ⟨v, hv, hr⟩ := ly.2 j x hj; exact ⟨v, by simpa using hv, hr⟩)
      obtain ⟨⟨h5, h6⟩, h7⟩ := h4 p hp
      exact ⟨by simpa using h5, h6⟩
    · cases hi
  · cases hi

theorem bin_agg {t : TypeId} {xs ys : List AV} {us vs : Array Value} {r : Bool} (hx : VR H F ρ (.agg xs) (.agg us)) (hy : VR H F ρ (.agg ys) (.agg vs)) (hi : inT P t = true) (hn : szT P t = some xs.length)
    (e : eqs xs ys = some r) : (Op.equalIn 10000 t (.agg us) (.agg vs)).run P w = .ok r w ∧ P.eqGuardType P.depth t = false := by
  unfold inT at hi
  split at hi
  · rename_i fs ht
    simp only [Bool.and_eq_true, Bool.not_eq_true', beq_iff_eq, List.all_eq_true] at hi
    obtain ⟨⟨⟨h1, h2⟩, h3⟩, h4⟩ := hi
    have hff : P.fieldsOf t = fs := by unfold Program.fieldsOf; rw [ht]
    refine ⟨?_, h1⟩
    rw [run_equalIn_agg w 9999 t us vs (by rw [hff]; exact ht) h2, hff]
    have hl : xs.length = fs.size := by
      unfold szT at hn
      rw [h3] at hn
      exact (Option.some.inj hn).symm
    have lx := LR.of_agg hx
    have ly := LR.of_agg hy
    refine eqFields_int (H := H) (F := F) (ρ := ρ) fs.toList 0 xs ys r (fun p hp => ?_) (by simpa using hl) e (fun j x hj => by obtain ⟨v, hv, hr⟩ := lx.2 j x hj; exact ⟨v, by simpa using hv, hr⟩) (fun j x hj => by obtain ⟨v, hv, hr⟩ := ly.2 j x hj; exact ⟨v, by simpa using hv, hr⟩)
    obtain ⟨⟨⟨h5, h6⟩, h7⟩, h8⟩ := h4 p hp
    refine ⟨by simpa using h5, h6, ?_⟩
    split at h8
    · rename_i k hk; exact ⟨k, hk⟩
    · cases h8
  · cases hi

theorem nil_sound {x : AV} {y : Value} {b : Bool} (hx : VR H F ρ x y) (e : isNil x = some b) : ∃ A n c, y = .slice A n c ∧ A.isNone = b := by
  unfold isNil at e
  cases hx with
  | ro _ n es A cap sz f hc hn hz hs hA hV =>
    cases e
    refine ⟨A, _, _, rfl, ?_⟩
    cases A with
    | none => exact (hn.1 rfl).symm
    | some a =>
      cases b
      · rfl
      · exact absurd (hn.2 rfl) (by simp)
  | emp _ a => cases e; exact ⟨_, _, _, rfl, rfl⟩
  | sl => cases e; exact ⟨_, _, _, rfl, rfl⟩
  | _ => cases e

theorem ptT_some {t e : TypeId} (h : ptT P t = some e) : P.underlying t = some (.pointer e) ∧ ∃ j, P.info? e = some j := by
  unfold ptT at h
  obtain ⟨d, h1, h⟩ := Option.bind_eq_some_iff.mp h
  split at h
  · rename_i e'
    split at h
    · rename_i h2
      cases h
      exact ⟨h1, Option.isSome_iff_exists.1 h2⟩
    · cases h
  · cases h
theorem pointee_of {t e : TypeId} (h : P.underlying t = some (.pointer e)) : P.underlying t = some (.pointer (P.pointee t)) := by
  unfold Program.pointee
  rw [h]
theorem run_eql_ptr_same {tp te : TypeId} {j : TypeInfo} (a : Addr) (hp : P.underlying tp = some (.pointer te)) (hte : P.info? te = some j) :
    (binOp .eql tp (.pointer (some a)) (.pointer (some a))).run P w = .ok (.bool true) w := by
  have h : ∀ d : Nat, (Op.equalIn (d + 1) tp (.pointer (some a)) (.pointer (some a))).run P w = .ok true w := fun d => by
    simp [Op.equalIn, run_underlying hp, sizeOf, typeInfo, hte, run_sameAddr_same]
  simp only [binOp]
  simp [Op.equal, Op.maxDepth, h 9999]

theorem bin_sound {op : BinOp} {t : TypeId} {x y v : AV} {a b : Value} {X Y : Operand} (hx : VR H F ρ x a) (hy : VR H F ρ y b) (e : binA P op t x y = some v) :
    ∃ u, VR H F ρ v u ∧ (do eqGuard op t X Y a b; binOp op t a b).run P w = .ok u w := by
  unfold binA at e
  split at e
  · cases hx; cases hy
    split at e
    · rename_i hk; subst hk
      obtain ⟨u, rfl, h1, h2⟩ := bin_int (P := P) (w := w) (t := t) (X := X) (Y := Y) e
      exact ⟨u, .val _ _ h1, h2⟩
    · obtain ⟨u, rfl, h1, h2⟩ := sh_int (P := P) (w := w) (t := t) (X := X) (Y := Y) e
      exact ⟨u, .val _ _ h1, h2⟩
  · cases hx; cases hy
    obtain ⟨u, rfl, h1, h2⟩ := bin_str (P := P) (w := w) (t := t) (X := X) (Y := Y) e
    exact ⟨u, .val _ _ h1, h2⟩
  · rename_i p q
    cases hx; cases hy
    split at e
    · rename_i hb
      have ht : P.underlying t = some .bool := by
        unfold boT at hb
        split at hb
        · assumption
        · cases hb
      cases op <;> simp only [boolV] at e
      all_goals (first
        | (cases e; done)
        | (cases e; refine ⟨_, .val _ _ rfl, ?_⟩; simp [eqGuard, run_eql_bool w t p q ht]; done)
        | (cases e; refine ⟨_, .val _ _ rfl, ?_⟩; simp [eqGuard, run_neq_bool w t p q ht]; done))
    · cases e
  · rename_i xs ys
    cases hx with
    | agg _ _ us g hn hA hV =>
      cases hy with
      | agg _ _ vs g' hn' hA' hV' =>
        split at e
        · rename_i hc
          simp only [Bool.and_eq_true, beq_iff_eq] at hc
          have Hx := VR.agg ρ xs us g hn hA hV
          have Hy := VR.agg ρ ys vs g' hn' hA' hV'
          cases op <;> simp only [boolV] at e
          all_goals (first
            | (cases e; done)
            | (obtain ⟨r, hr, e⟩ := Option.map_eq_some_iff.mp e
               cases e
               obtain ⟨h1, h2⟩ := bin_agg (P := P) (w := w) Hx Hy hc.1 hc.2 hr
               refine ⟨_, .val _ _ rfl, ?_⟩; rw [Sem.run_bind, run_eqGuard_agg w _ t X Y us vs h2]; simp only [Result.andThen_ok]; first | (rw [run_eql_struct, h1]; rfl) | (rw [run_neq_struct, h1]; rfl)))
        · obtain ⟨ks, hks, e⟩ := Option.bind_eq_some_iff.mp e
          split at e
          · rename_i hc
            have Hx := VR.agg ρ xs us g hn hA hV
            have Hy := VR.agg ρ ys vs g' hn' hA' hV'
            cases op <;> simp only [boolV] at e
            all_goals (first
              | (cases e; done)
              | (obtain ⟨r, hr, e⟩ := Option.map_eq_some_iff.mp e
                 cases e
                 obtain ⟨h1, h2⟩ := bin_aggK (P := P) (w := w) Hx Hy hks hc hr
                 refine ⟨_, .val _ _ rfl, ?_⟩; rw [Sem.run_bind, run_eqGuard_agg w _ t X Y us vs h2]; simp only [Result.andThen_ok]; first | (rw [run_eql_struct, h1]; rfl) | (rw [run_neq_struct, h1]; rfl)))
          · cases e
  · cases hx; cases hy
    split at e
    · rename_i hs
      obtain ⟨el, hel⟩ := Option.isSome_iff_exists.1 hs
      have ht := pointee_of (ptT_some hel).1
      cases op <;> simp only [boolV] at e
      all_goals (first
        | (cases e; done)
        | (cases e; refine ⟨_, .val _ _ rfl, ?_⟩; simp [eqGuard, run_eql_pointer_nil w t none ht]; done)
        | (cases e; refine ⟨_, .val _ _ rfl, ?_⟩; simp [eqGuard, run_neq_pointer_nil w t none ht]; done))
    · cases e
  · cases hy
    split at e
    · rename_i hs
      obtain ⟨el, hel⟩ := Option.isSome_iff_exists.1 hs
      have ht := pointee_of (ptT_some hel).1
      cases hx with
      | ptr _ l i f k o sz hρ hk =>
        cases op <;> simp only [boolV] at e
        all_goals (first
          | (cases e; done)
          | (cases e; refine ⟨_, .val _ _ rfl, ?_⟩; simp [eqGuard, run_eql_pointer_nil w t (some _) ht]; done)
          | (cases e; refine ⟨_, .val _ _ rfl, ?_⟩; simp [eqGuard, run_neq_pointer_nil w t (some _) ht]; done))
    · cases e
  · split at e
    · rename_i hs
      simp only [Bool.and_eq_true, beq_iff_eq] at hs
      obtain ⟨⟨⟨hs, rfl⟩, rfl⟩, rfl⟩ := hs
      obtain ⟨el, hel⟩ := Option.isSome_iff_exists.1 hs
      obtain ⟨ht, j, hj⟩ := ptT_some hel
      cases hx with
      | ptr _ l i f k o sz hρ hk =>
        cases hy with
        | ptr _ _ _ _ k' o' sz' hρ' hk' =>
          rw [hρ] at hρ'
          cases hρ'
          cases op <;> simp only [boolV] at e
          all_goals (first
            | (cases e; done)
            | (cases e; refine ⟨_, .val _ _ rfl, ?_⟩; simp [eqGuard, run_eql_ptr_same (w := w) _ ht hj]; done)
            | (cases e; refine ⟨_, .val _ _ rfl, ?_⟩; simp [eqGuard, Lib.run_neq_ptr_same w _ ht hj]; done))
    · cases e
  · split at e
    · rename_i hs
      obtain ⟨el, hel⟩ := Option.isSome_iff_exists.1 hs
      have ht := slT_some hel
      cases hy with
      | ro _ n es A cap sz f hc hn hz hs' hA hV =>
        obtain rfl : A = none := hn.2 rfl
        cases op <;> simp only [boolV] at e
        all_goals (first
          | (cases e; done)
          | (obtain ⟨r, hr, e⟩ := Option.map_eq_some_iff.mp e
             cases e
             obtain ⟨B, m, q, rfl, hB⟩ := nil_sound hx hr
             refine ⟨_, .val _ _ rfl, ?_⟩; simp [eqGuard, Lib.run_eql_slice_nil w t el B m q _ _ ht, hB]; done)
          | (obtain ⟨r, hr, e⟩ := Option.map_eq_some_iff.mp e
             cases e
             obtain ⟨B, m, q, rfl, hB⟩ := nil_sound hx hr
             refine ⟨_, .val _ _ rfl, ?_⟩; simp [eqGuard, run_neq_slice_nil_any w t el B m q _ _ ht, hB]; done))
    · cases e
  · cases e

theorem ifT_some {t : TypeId} (h : ifT P t = true) : ∃ ms, P.underlying t = some (.interface ms) := by
  unfold ifT at h
  split at h
  · rename_i e; exact ⟨_, e⟩
  · cases h
theorem eqIn_ifc {t tt : TypeId} {ms : _} (vv : Value) (ht : P.underlying t = some (.interface ms)) (d : Nat) : (Op.equalIn (d + 1) t (.iface tt vv) .nilIface).run P w = .ok false w := by
  simp [Op.equalIn, run_underlying ht]
theorem eqIn_nil {t : TypeId} {ms : _} (ht : P.underlying t = some (.interface ms)) (d : Nat) : (Op.equalIn (d + 1) t .nilIface .nilIface).run P w = .ok true w := by
  simp [Op.equalIn, run_underlying ht]
theorem ifc_sound {op : BinOp} {t : TypeId} {x v : AV} {a : Value} {X Y : Operand} (hY : nilC Y = true) (hx : VR H F ρ x a) (e : ifcA P op t x = some v) :
    ∃ u, VR H F ρ v u ∧ (do eqGuard op t X Y a .nilIface; binOp op t a .nilIface).run P w = .ok u w := by
  unfold ifcA at e
  split at e
  · rename_i ht
    obtain ⟨ms, ht⟩ := ifT_some ht
    have hc : ∃ c, Y = .const c := by
      unfold nilC at hY
      split at hY
      · exact ⟨_, rfl⟩
      · cases hY
    obtain ⟨c, rfl⟩ := hc
    split at e
    · cases hx
      cases e
      refine ⟨_, .val _ _ rfl, ?_⟩
      simp only [eqGuard, binOp]
      simp [Op.equal, Op.maxDepth, eqIn_ifc _ ht 9999]
    · cases hx
      cases e
      refine ⟨_, .val _ _ rfl, ?_⟩
      simp only [eqGuard, binOp]
      simp [Op.equal, Op.maxDepth, eqIn_ifc _ ht 9999]
    · cases hx
      cases e
      refine ⟨_, .val _ _ rfl, ?_⟩
      simp only [eqGuard, binOp]
      simp [Op.equal, Op.maxDepth, eqIn_ifc _ ht 9999]
    · cases hx
      cases e
      refine ⟨_, .val _ _ rfl, ?_⟩
      simp only [eqGuard, binOp]
      simp [Op.equal, Op.maxDepth, eqIn_ifc _ ht 9999]
    · cases hx
      cases e
      refine ⟨_, .val _ _ rfl, ?_⟩
      simp only [eqGuard, binOp]
      simp [Op.equal, Op.maxDepth, eqIn_nil ht 9999]
    · cases hx
      cases e
      refine ⟨_, .val _ _ rfl, ?_⟩
      simp only [eqGuard, binOp]
      simp [Op.equal, Op.maxDepth, eqIn_nil ht 9999]
    · cases e
  · cases e

theorem un_sound {op : UnOp} {x v : AV} {a : Value} (hx : VR H F ρ x a) (e : unA op x = some v) : ∃ u, VR H F ρ v u ∧ (Op.unary op a).run P w = .ok u w := by
  unfold unA at e
  split at e
  · cases hx; cases e; exact ⟨_, .val _ _ rfl, by simp [Op.unary, Op.intArith]⟩
  · cases hx; cases e; exact ⟨_, .val _ _ rfl, by simp [Op.unary, Op.intBits, notI]⟩
  · cases hx; cases e; exact ⟨_, .val _ _ rfl, by simp [Op.unary]⟩
  · cases e

theorem fieldAddr_sound {s : TypeId} {x v : AV} {a : Value} {f : Nat} (hx : VR H F ρ x a) (e : fieldAddrA P s x f = some v) : ∃ u, VR H F ρ v u ∧ (Instr.fieldAt s a f).run P w = .ok u w := by
  unfold fieldAddrA at e
  obtain ⟨⟨off, ft⟩, h1, e⟩ := Option.bind_eq_some_iff.mp e
  obtain ⟨fs, fd, h2, h3, h4, h5⟩ := fdT_some h1
  simp only at e
  obtain ⟨sz, h6, e⟩ := Option.bind_eq_some_iff.mp e
  split at e
  · cases e
  · rename_i h0
    have hrun : ∀ a : Addr, (Instr.fieldAt s (.pointer (some a)) f).run P w = .ok (.pointer (some (a.add off))) w := by
      intro a
      have h7 : (sizeOf fd.type).run P w = .ok sz w := by rw [h5]; exact run_sz h6 w
      simp [Instr.fieldAt, run_underlying h2, h3, Instr.sureAddr, fieldPlace, h7, h0, h4]
    cases hx with
    | ptr _ l i k b o z hρ hk =>
      cases e
      refine ⟨_, ?_, hrun _⟩
      rw [add_plain, Nat.add_assoc]
      exact .ptr _ l i (k + off) b o z hρ hk
    | rptr _ cs a g hA hV =>
      cases e
      refine ⟨_, .rptr _ (cs.drop off) (a.add off) (fun j => g (off + j)) (fun j x hj => ?_) (fun j x hj => ?_), hrun _⟩
      · rw [List.getElem?_drop] at hj
        rw [add_block, add_add]
        exact hA _ x hj
      · rw [List.getElem?_drop] at hj
        exact hV _ x hj
    | _ => cases e

theorem field_sound {s : TypeId} {x v : AV} {a : Value} {f : Nat} (hx : VR H F ρ x a) (e : fieldA P s x f = some v) : ∃ u, VR H F ρ v u ∧ (Instr.field s a f).run P w = .ok u w := by
  unfold fieldA at e
  obtain ⟨⟨off, ft⟩, h1, e⟩ := Option.bind_eq_some_iff.mp e
  obtain ⟨fs, fd, h2, h3, h4, h5⟩ := fdT_some h1
  simp only at e
  obtain ⟨sz, h6, e⟩ := Option.bind_eq_some_iff.mp e
  obtain ⟨ag, h7, e⟩ := Option.bind_eq_some_iff.mp e
  cases hx with
  | agg _ cs vs g hn hA hV =>
    simp only at e
    split at e
    · rename_i hle
      cases e
      have L := LR.of_agg (VR.agg ρ cs vs g hn hA hV)
      have h8 : (sizeOf fd.type).run P w = .ok sz w := by rw [h5]; exact run_sz h6 w
      have h9 : (isAgg fd.type).run P w = .ok ag w := by rw [h5]; exact run_ag h7 w
      cases ag
      · -- one cell
        obtain rfl : sz = 1 := by
          by_cases h : sz = 1
          · exact h
          · exact absurd ⟨rfl, h⟩ hle.2
        have hlt : off < cs.length := by omega
        obtain ⟨u, hu, hr⟩ := L.2 off _ (List.getElem?_eq_getElem hlt)
        refine ⟨u, ?_, by simp [Instr.field, run_underlying h2, h3, asAgg, part, h9, h4, show vs[off]? = some u by simpa using hu]⟩
        have : (cs.drop off).take 1 = [cs[off]] := by
          rw [List.drop_eq_getElem_cons hlt]; rfl
        rw [this]
        exact hr
      · refine ⟨_, ((L.drop off).take sz).agg, ?_⟩
        simp [Instr.field, run_underlying h2, h3, asAgg, part, h8, h9, h4]
        apply Array.ext'
        simp [Array.toList_extract, List.extract_eq_take_drop]
    · cases e
  | _ => cases e

end
end Go.Proofs.YtgbdbenepnbajaaGreatDoor.AM
namespace Go.Proofs.YtgbdbenepnbajaaGreatDoor.AM
open Go Go.RowKit
set_option linter.unusedVariables false
set_option linter.unusedSimpArgs false

section
variable {P : Program} {ρ : Pls} {F : Nat → Prop} {base : Nat} {h : Heap} {w : World} {c : Nat} {H : Array Obj}

theorem indexAddr_sound {t : TypeId} {x ix v : AV} {a b : Value} (hx : VR H F ρ x a) (hi : VR H F ρ ix b) (e : indexAddrA P t x ix = some v) :
    ∃ u, VR H F ρ v u ∧ (Instr.indexAt t a b).run P w = .ok u w := by
  unfold indexAddrA at e
  split at e
  · rename_i kk i
    cases hi
    split at e
    · rename_i h0
      cases hx with
      | sl _ l sz off len k o cap hρ hc hk =>
        simp only at e
        obtain ⟨el, h1, e⟩ := Option.bind_eq_some_iff.mp e
        obtain ⟨s, h2, e⟩ := Option.bind_eq_some_iff.mp e
        split at e
        · rename_i h3
          cases e
          obtain ⟨rfl, h3⟩ := h3
          refine ⟨.pointer (some ((⟨k, o + off * s, none⟩ : Addr).add (i.toNat * s))), ?_, ?_⟩
          · rw [add_plain, show o + off * s + i.toNat * s = o + (off + i.toNat) * s + 0 by rw [Nat.add_mul]; omega]
            exact .ptr _ l (off + i.toNat) 0 k o s hρ (have1 hk)
          · simp [Instr.indexAt, run_underlying (slT_some h1), asIntOf, h0, h3, run_sz h2]
        · cases e
      | ro _ n es A cap sz f hc hn hz hs hA hV =>
        simp only at e
        obtain ⟨el, h1, e⟩ := Option.bind_eq_some_iff.mp e
        obtain ⟨s, h2, e⟩ := Option.bind_eq_some_iff.mp e
        obtain ⟨cs, h3, e⟩ := Option.bind_eq_some_iff.mp e
        split at e
        · rename_i h4
          cases e
          have hsz : s = sz := by rw [← h4]; exact hs cs (List.mem_of_getElem? h3)
          subst hsz
          have hlt : i.toNat < es.length := (List.getElem?_eq_some_iff.1 h3).1
          have hlt' : i < es.length := by omega
          cases A with
          | none =>
            have := (hz (hn.1 rfl)).1
            subst this
            simp at hlt
          | some a =>
            refine ⟨.pointer (some (a.add (i.toNat * s))), .rptr _ cs _ (fun j => f i.toNat j) (fun j x hj => ?_) (fun j x hj => ?_), ?_⟩
            · obtain ⟨a', ha', h5, h6, h7⟩ := hA i.toNat j x (by unfold at2; rw [h3]; exact hj)
              cases ha'
              rw [add_block, add_add]
              exact ⟨h5, h6, h7⟩
            · exact hV i.toNat j x (by unfold at2; rw [h3]; exact hj)
            · simp [Instr.indexAt, run_underlying (slT_some h1), asIntOf, h0, hlt', run_sz h2]
        · cases e
      | arr _ l sz len k o hρ hk =>
        simp only at e
        obtain ⟨⟨n, el⟩, h1, e⟩ := Option.bind_eq_some_iff.mp e
        simp only at e
        obtain ⟨s, h2, e⟩ := Option.bind_eq_some_iff.mp e
        split at e
        · rename_i h3
          cases e
          obtain ⟨rfl, rfl, h3, h4⟩ := h3
          refine ⟨.pointer (some ((⟨k, o, none⟩ : Addr).add (i.toNat * s))), ?_, ?_⟩
          · rw [add_plain]
            exact .ptr _ l i.toNat 0 k o s hρ (have1 hk)
          · simp [Instr.indexAt, Instr.sureAddr, run_underlying (arT_some h1), asIntOf, h0, h3, run_sz h2]
        · cases e
      | _ => cases e
    · cases e
  · cases e

theorem index_sound {t : TypeId} {x ix v : AV} {a b : Value} (hx : VR H F ρ x a) (hi : VR H F ρ ix b) (e : indexA P t x ix = some v) :
    ∃ u, VR H F ρ v u ∧ (Instr.index t a b).run P w = .ok u w := by
  unfold indexA at e
  split at e
  · rename_i kk i s
    cases hi; cases hx
    split at e
    · rename_i hs
      have ht : P.underlying t = some .string := by
        unfold stT at hs
        split at hs
        · assumption
        · cases hs
      split at e
      · rename_i h0
        obtain ⟨b, hb, e⟩ := Option.map_eq_some_iff.mp e
        cases e
        exact ⟨_, .val _ _ rfl, by simp [Instr.index, run_underlying ht, asIntOf, h0, hb]⟩
      · cases e
    · cases e
  · rename_i kk i cs
    cases hi
    cases hx with
    | agg _ _ vs g hn hA hV =>
      obtain ⟨⟨n, el⟩, h1, e⟩ := Option.bind_eq_some_iff.mp e
      simp only at e
      obtain ⟨sz, h2, e⟩ := Option.bind_eq_some_iff.mp e
      obtain ⟨ag, h3, e3⟩ := Option.bind_eq_some_iff.mp e
      split at e3
      · rename_i hc
        obtain ⟨rfl, rfl, hc1, hc2⟩ := hc
        have h8 : (sizeOf el).run P w = .ok 1 w := run_sz h2 w
        have h9 : (isAgg el).run P w = .ok false w := run_ag h3 w
        have L := LR.of_agg (VR.agg ρ cs vs g hn hA hV)
        obtain ⟨u, hu, hr⟩ := L.2 i.toNat _ e3
        exact ⟨u, hr, by simp [Instr.index, run_underlying (arT_some h1), asIntOf, hc1, hc2, part, h8, h9, show vs[i.toNat]? = some u by simpa using hu]⟩
      · cases e3
  · cases e

/-- Options of values. -/
def OR (H : Array Obj) (F : Nat → Prop) (ρ : Pls) : Option AV → Option Value → Prop
  | none, none => True
  | some x, some v => VR H F ρ x v
  | _, _ => False

theorem OR.map {t : Nat → AV} {a : Act} (T : ∀ i, VR H F ρ (t i) (a.tmps.getD i undef)) (x : Option Operand) : OR H F ρ (x.map (evA t)) (x.map a.eval) := by
  cases x with
  | none => trivial
  | some x => exact ev_sound T x

theorem bound_run {x : AV} {v : Value} {d m m' k : Nat} {code : BoundsCode} (hx : VR H F ρ x v) (e : bnd (some x) d m = some k) (hm : m ≤ m') : (Instr.sliceBound v m' code).run P w = .ok k w ∧ k ≤ m := by
  unfold bnd at e
  split at e
  · cases ‹some x = none›
  · rename_i kk i he
    cases he
    cases hx
    split at e
    · rename_i h0
      cases e
      refine ⟨?_, by omega⟩
      have : (0 ≤ i ∧ i ≤ (m' : Int)) := by omega
      simp [Instr.sliceBound, asIntOf, this]
    · cases e
  · cases e

theorem bounds_run {isS : Bool} {lo hi : Option AV} {lv hv : Option Value} {len m cap hh ll : Nat} (hl : OR H F ρ lo lv) (hh' : OR H F ρ hi hv) (e1 : bnd hi len m = some hh) (e2 : bnd lo 0 hh = some ll) (hm : m ≤ cap) (hlen : len ≤ m) :
    (Instr.sliceBounds isS len cap lv hv none).run P w = .ok (ll, hh, cap) w ∧ hh ≤ m ∧ ll ≤ hh := by
  have h1 : (match hv with | some v => Instr.sliceBound v cap (if isS then .sliceAcap else .sliceAlen) | none => pure len : Sem Nat).run P w = .ok hh w ∧ hh ≤ m := by
    cases hi with
    | none =>
      cases hv with
      | none => cases e1; exact ⟨rfl, hlen⟩
      | some v => exact hh'.elim
    | some x =>
      cases hv with
      | none => exact hh'.elim
      | some v => exact bound_run hh' e1 hm
  have h2 : (match lv with | some v => Instr.sliceBound v hh .sliceB | none => pure 0 : Sem Nat).run P w = .ok ll w ∧ ll ≤ hh := by
    cases lo with
    | none =>
      cases lv with
      | none => cases e2; exact ⟨rfl, Nat.zero_le _⟩
      | some v => exact hl.elim
    | some x =>
      cases lv with
      | none => exact hl.elim
      | some v => exact bound_run hl e2 (Nat.le_refl _)
  refine ⟨?_, h1.2, h2.2⟩
  cases hv <;> cases lv <;> simp [Instr.sliceBounds] at h1 h2 ⊢ <;> simp [h1.1, h2.1]

theorem slice_str {t : TypeId} (ht : stT P t = true) {s : ByteArray} {lo hi mx : Option Value} : (Instr.sliceAt t (.string s) lo hi mx).run P w = (Instr.slice t (.string s) lo hi mx).run P w := by
  have : P.underlying t = some .string := by
    unfold stT at ht
    split at ht
    · assumption
    · cases ht
  simp [Instr.sliceAt, run_underlying this]

theorem slice_sl {t e : TypeId} (ht : slT P t = some e) {x : Value} {lo hi mx : Option Value} : (Instr.sliceAt t x lo hi mx).run P w = (Instr.slice t x lo hi mx).run P w := by
  simp [Instr.sliceAt, run_underlying (slT_some ht)]

theorem slice_sound {t : TypeId} {x v : AV} {a : Value} {lo hi mx : Option AV} {lv hv mv : Option Value} (hx : VR H F ρ x a) (hl : OR H F ρ lo lv) (hh : OR H F ρ hi hv) (hm : OR H F ρ mx mv) (e : sliceA P t x lo hi mx = some v) :
    ∃ u, VR H F ρ v u ∧ (Instr.sliceAt t a lv hv mv).run P w = .ok u w := by
  have three : ∀ {A : Option Addr} {n cap : Nat} {el : TypeId}, a = .slice A n cap → slT P t = some el → (∃ y, hi = some y ∧ bnd (some y) 0 0 = some 0) → bnd lo 0 0 = some 0 → (∃ k, mx = some (.val (.int k 0))) →
      (∃ s, (sizeOf el).run P w = .ok s w) → (Instr.sliceAt t a lv hv mv).run P w = .ok (.slice A 0 0) w := by
    rintro A n cap el rfl hel ⟨y, rfl, hy⟩ hlo ⟨k, rfl⟩ ⟨s, hs⟩
    cases mv with
    | none => exact hm.elim
    | some mvv =>
      cases hm
      cases hv with
      | none => exact hh.elim
      | some hvv =>
        have b0 := fun code => (show (Instr.sliceBound (.int k 0) cap code).run P w = .ok 0 w by simp [Instr.sliceBound, asIntOf])
        have b1 := fun code => (bound_run (P := P) (w := w) (code := code) hh hy (Nat.le_refl 0)).1
        rw [slice_sl hel]
        cases lo with
        | none =>
          cases lv with
          | some _ => exact hl.elim
          | none => simp [Instr.slice, run_underlying (slT_some hel), Instr.sliceBounds, b0, b1, hs]
        | some x2 =>
          cases lv with
          | none => exact hl.elim
          | some lvv =>
            have b2 := fun code => (bound_run (P := P) (w := w) (code := code) hl hlo (Nat.le_refl 0)).1
            simp [Instr.slice, run_underlying (slT_some hel), Instr.sliceBounds, b0, b1, b2, hs]
  have three' : ∀ {k : IntKind} {el s : TypeId} {z : AV}, mx = some (.val (.int k 0)) → slT P t = some el → szT P el = some s → ((hi.bind fun x => bnd (some x) 0 0).bind fun _ => (bnd lo 0 0).bind fun _ => some z) = some v →
      z = v ∧ ∀ {A : Option Addr} {n cap : Nat}, a = .slice A n cap → (Instr.sliceAt t a lv hv mv).run P w = .ok (.slice A 0 0) w := by
    intro k el s z h1 h2 h3 h4
    obtain ⟨p, h5, h4⟩ := Option.bind_eq_some_iff.mp h4
    obtain ⟨q, h6, h4⟩ := Option.bind_eq_some_iff.mp h4
    obtain ⟨y, h7, h5⟩ := Option.bind_eq_some_iff.mp h5
    cases h4
    have zero : ∀ {x : Option AV} {r : Nat}, bnd x 0 0 = some r → bnd x 0 0 = some 0 := by
      intro x r hr
      have : r = 0 := by
        unfold bnd at hr
        split at hr
        · cases hr; rfl
        · split at hr
          · cases hr; omega
          · cases hr
        · cases hr
      rw [hr, this]
    exact ⟨rfl, fun ha => three ha h2 ⟨y, h7, zero h5⟩ (zero h6) ⟨k, h1⟩ ⟨s, run_sz h3 w⟩⟩
  unfold sliceA at e
  split at e
  · -- a string
    rename_i s
    cases hx
    cases mv with
    | some _ => exact hm.elim
    | none =>
      split at e
      · rename_i ht
        obtain ⟨hh', e1, e⟩ := Option.bind_eq_some_iff.mp e
        obtain ⟨ll, e2, e⟩ := Option.bind_eq_some_iff.mp e
        cases e
        obtain ⟨b1, _, _⟩ := bounds_run (P := P) (w := w) (isS := false) hl hh e1 e2 (Nat.le_refl _) (Nat.le_refl _)
        have ht' : P.underlying t = some .string := by
          unfold stT at ht
          split at ht
          · assumption
          · cases ht
        refine ⟨_, .val _ _ rfl, ?_⟩
        rw [slice_str ht]
        simp [Instr.slice, run_underlying ht', b1]
      · cases e
  · -- read-only
    rename_i n es
    cases mv with
    | some _ => exact hm.elim
    | none =>
      obtain ⟨el, h1, e⟩ := Option.bind_eq_some_iff.mp e
      obtain ⟨s, h2, e⟩ := Option.bind_eq_some_iff.mp e
      split at e
      · cases e
      · rename_i hhd
        obtain ⟨hh', e1, e⟩ := Option.bind_eq_some_iff.mp e
        obtain ⟨ll, e2, e⟩ := Option.bind_eq_some_iff.mp e
        cases e
        cases hx with
        | ro _ _ _ A cap sz f hc hn hz hs hA hV =>
          obtain ⟨b1, b2, b3⟩ := bounds_run (P := P) (w := w) (isS := true) (cap := cap) hl hh e1 e2 hc (Nat.le_refl _)
          refine ⟨.slice (if cap = ll then A else A.map (·.add (ll * s))) (hh' - ll) (cap - ll), ?_, ?_⟩
          · have hlen : ((es.take hh').drop ll).length = hh' - ll := by simp; omega
            rw [← hlen]
            have hsub : ∀ {i j : Nat} {x : AV}, at2 ((es.take hh').drop ll) i j = some x → at2 es (ll + i) j = some x ∧ ll < cap := by
              intro i j x hx
              unfold at2 at hx ⊢
              obtain ⟨r, hr, hx⟩ := Option.bind_eq_some_iff.mp hx
              rw [List.getElem?_drop, List.getElem?_take] at hr
              split at hr
              · refine ⟨by rw [hr]; exact hx, by omega⟩
              · cases hr
            have hsz : es ≠ [] → s = sz := by
              intro hne
              cases es with
              | nil => exact absurd rfl hne
              | cons r es =>
                have hr := hs r (by simp)
                simp only [AM.hd, beq_eq_false_iff_ne, ne_eq, Bool.not_eq_false] at hhd
                have : r.length = s := by simpa using hhd
                omega
            refine .ro _ n _ _ _ sz (fun i j => f (ll + i) j) (by rw [hlen]; omega) ?_ (fun hn' => ?_) (fun r hr => hs r (List.mem_of_mem_take (List.mem_of_mem_drop hr))) (fun i j x hx => ?_) (fun i j x hx => hV _ _ x (hsub hx).1)
            · rw [← hn]
              split
              · rfl
              · cases A <;> simp
            · obtain ⟨h5, h6⟩ := hz hn'
              subst h5
              simp
              omega
            · obtain ⟨h5, h6⟩ := hsub hx
              obtain ⟨a', ha', h7, h8, h9⟩ := hA _ _ x h5
              subst ha'
              have : es ≠ [] := by intro h0; subst h0; simp [at2] at h5
              have := hsz this
              subst this
              rw [if_neg (by omega)]
              refine ⟨a'.add (ll * s), rfl, by rw [add_block]; exact h7, ?_, h9⟩
              rw [add_add, show ll * s + (i * s + j) = (ll + i) * s + j by rw [Nat.add_mul]; omega]
              exact h8
          · rw [slice_sl h1]
            simp [Instr.slice, run_underlying (slT_some h1), b1, run_sz h2]
  · -- of the call's own
    rename_i p sz off len
    cases mv with
    | some _ => exact hm.elim
    | none =>
      obtain ⟨el, h1, e⟩ := Option.bind_eq_some_iff.mp e
      obtain ⟨s, h2, e⟩ := Option.bind_eq_some_iff.mp e
      split at e
      · rename_i hs
        subst hs
        obtain ⟨hh', e1, e⟩ := Option.bind_eq_some_iff.mp e
        obtain ⟨ll, e2, e⟩ := Option.bind_eq_some_iff.mp e
        cases hx with
        | sl _ _ _ _ _ k o cap hρ hc hk =>
          obtain ⟨b1, b2, b3⟩ := bounds_run (P := P) (w := w) (isS := true) (cap := cap) hl hh e1 e2 hc (Nat.le_refl _)
          refine ⟨.slice (if cap = ll then some ⟨k, o + off * s, none⟩ else (some (⟨k, o + off * s, none⟩ : Addr)).map (·.add (ll * s))) (hh' - ll) (cap - ll), ?_, ?_⟩
          · split at e
            · rename_i hlt
              cases e
              have haddr : (if cap = ll then some ⟨k, o + off * s, none⟩ else (some (⟨k, o + off * s, none⟩ : Addr)).map (·.add (ll * s))) = some (⟨k, o + (off + ll) * s, none⟩ : Addr) := by
                by_cases hcl : cap = ll
                · have h0 : ll = 0 := by
                    rcases hlt with hlt | hlt
                    · omega
                    · exact hlt
                  rw [if_pos hcl, h0]
                  simp
                · rw [if_neg hcl]
                  simp only [Option.map_some]
                  rw [add_plain, show o + off * s + ll * s = o + (off + ll) * s by rw [Nat.add_mul]; omega]
              rw [haddr]
              refine .sl _ p s (off + ll) (hh' - ll) k o (cap - ll) hρ (by omega) ?_
              obtain ⟨cs, T, fz, h3, h4⟩ := hk
              exact ⟨cs, T, fz, h3, by rw [show off + ll + (cap - ll) = off + cap by omega]; exact h4⟩
            · rename_i hlt
              cases e
              rw [show hh' - ll = ([] : List (List AV)).length by simp; omega]
              refine .ro _ false [] _ _ 0 (fun _ _ => .nilFunc) (Nat.zero_le _) ?_ (fun h => by cases h) (fun r hr => by cases hr) (fun i j x hx => by simp [at2] at hx) (fun i j x hx => by simp [at2] at hx)
              split <;> simp
          · rw [slice_sl h1]
            simp [Instr.slice, run_underlying (slT_some h1), b1, run_sz h2]
      · cases e
  · -- an array
    rename_i p sz len
    cases mv with
    | some _ => exact hm.elim
    | none =>
      obtain ⟨⟨n, el⟩, h1, e⟩ := Option.bind_eq_some_iff.mp e
      simp only at e
      obtain ⟨s, h2, e⟩ := Option.bind_eq_some_iff.mp e
      split at e
      · rename_i hs
        obtain ⟨rfl, rfl⟩ := hs
        obtain ⟨hh', e1, e⟩ := Option.bind_eq_some_iff.mp e
        obtain ⟨ll, e2, e⟩ := Option.bind_eq_some_iff.mp e
        cases hx with
        | arr _ _ _ _ k o hρ hk =>
          obtain ⟨b1, b2, b3⟩ := bounds_run (P := P) (w := w) (isS := false) (cap := n) hl hh e1 e2 (Nat.le_refl _) (Nat.le_refl _)
          refine ⟨.slice (some (if n = ll then ⟨k, o, none⟩ else (⟨k, o, none⟩ : Addr).add (ll * s))) (hh' - ll) (n - ll), ?_, ?_⟩
          · split at e
            · rename_i hlt
              cases e
              rw [if_neg (by omega), add_plain]
              refine .sl _ p s ll (hh' - ll) k o (n - ll) hρ (by omega) ?_
              obtain ⟨cs, T, fz, h3, h4⟩ := hk
              exact ⟨cs, T, fz, h3, by rw [show ll + (n - ll) = n by omega]; exact h4⟩
            · rename_i hlt
              cases e
              rw [show hh' - ll = ([] : List (List AV)).length by simp; omega]
              exact .ro _ false [] _ _ 0 (fun _ _ => .nilFunc) (Nat.zero_le _) (by simp) (fun h => by cases h) (fun r hr => by cases hr) (fun i j x hx => by simp [at2] at hx) (fun i j x hx => by simp [at2] at hx)
          · simp [Instr.sliceAt, run_underlying (arT_some h1), Instr.sureAddr, b1, run_sz h2]
      · cases e
  · rename_i b _ k
    obtain ⟨el, h1, e⟩ := Option.bind_eq_some_iff.mp e
    obtain ⟨s, h2, e⟩ := Option.bind_eq_some_iff.mp e
    obtain ⟨rfl, hr⟩ := three' rfl h1 h2 e
    cases hx with
    | ro _ _ es A cap sz f hc hn hz hs hA hV =>
      refine ⟨_, ?_, hr rfl⟩
      cases b
      · cases A with
        | none => exact absurd (hn.1 rfl) (by simp)
        | some a => exact .emp _ a
      · obtain rfl : A = none := hn.2 rfl
        exact lit_sound (.slice none 0 0)
  · obtain ⟨el, h1, e⟩ := Option.bind_eq_some_iff.mp e
    obtain ⟨s, h2, e⟩ := Option.bind_eq_some_iff.mp e
    obtain ⟨rfl, hr⟩ := three' rfl h1 h2 e
    cases hx with
    | sl _ _ _ _ _ k o cap hρ hc hk => exact ⟨_, .emp _ _, hr rfl⟩
  · obtain ⟨el, h1, e⟩ := Option.bind_eq_some_iff.mp e
    obtain ⟨s, h2, e⟩ := Option.bind_eq_some_iff.mp e
    obtain ⟨rfl, hr⟩ := three' rfl h1 h2 e
    cases hx with
    | emp _ a => exact ⟨_, .emp _ _, hr rfl⟩
  · cases e

theorem extract_sound {v : AV} {a : Value} {i : Nat} {vs : List AV} (hx : VR H F ρ (.tup vs) a) (e : vs[i]? = some v) : ∃ u, VR H F ρ v u ∧ (Instr.extract a i).run P w = .ok u w := by
  cases hx with
  | tup _ _ us g hn hA hV =>
    exact ⟨g i, hV i v e, by simp [Instr.extract, hA i v e]⟩

end
end Go.Proofs.YtgbdbenepnbajaaGreatDoor.AM
namespace Go.Proofs.YtgbdbenepnbajaaGreatDoor.AM
open Go Go.RowKit
set_option linter.unusedVariables false
set_option linter.unusedSimpArgs false

section
variable {P : Program} {ρ : Pls} {F : Nat → Prop} {base : Nat} {h : Heap} {w : World} {c : Nat} {H : Array Obj}

/-! ### structs -/
theorem foldl_setCells : ∀ (l : List Value) (cells : Array Value) (off k : Nat), ((l.zipIdx k).foldl (fun cs (c, j) => cs.setIfInBounds (off + j) c) cells).toList = setCells cells.toList (off + k) l
  | [], _, _, _ => rfl
  | v :: l, cells, off, k => by
    rw [List.zipIdx_cons, List.foldl_cons, foldl_setCells l _ off (k + 1), setCells]
    simp [Nat.add_assoc]

def PR (H : Array Obj) (F : Nat → Prop) (ρ : Pls) (as : List (Nat × AV)) (vs : List (Nat × Value)) : Prop :=
  vs.map (·.1) = as.map (·.1) ∧ ∀ (i : Nat) a v, as[i]? = some a → vs[i]? = some v → VR H F ρ a.2 v.2

theorem PR.uncons {a : Nat × AV} {as : List (Nat × AV)} {vs : List (Nat × Value)} (h : PR H F ρ (a :: as) vs) : ∃ v r, vs = (a.1, v) :: r ∧ VR H F ρ a.2 v ∧ PR H F ρ as r := by
  obtain ⟨h1, h2⟩ := h
  cases vs with
  | nil => simp at h1
  | cons v r =>
    obtain ⟨i, v⟩ := v
    simp only [List.map_cons, List.cons.injEq] at h1
    obtain ⟨rfl, h1⟩ := h1
    exact ⟨v, r, rfl, h2 0 _ _ rfl rfl, h1, fun i x y hx hy => h2 (i + 1) x y (by simpa using hx) (by simpa using hy)⟩

theorem PR.of {t : Nat → AV} {a : Act} (T : ∀ i, VR H F ρ (t i) (a.tmps.getD i undef)) (ps : Array (Nat × Operand)) :
    PR H F ρ (ps.toList.map fun p => (p.1, evA t p.2)) (ps.map fun (i, x) => (i, a.eval x)).toList := by
  refine ⟨by simp [Function.comp_def], fun i x y hx hy => ?_⟩
  simp only [List.getElem?_map, Array.toList_map, Option.map_eq_some_iff] at hx hy
  obtain ⟨p, hp, rfl⟩ := hx
  obtain ⟨q, hq, rfl⟩ := hy
  rw [hp] at hq
  cases hq
  exact ev_sound T p.2

theorem fill_sound {t : TypeId} {pl : Nat → Option (Nat × Nat)} (hpl : ∀ i off ft sz, fpT P t i = some (off, ft) → szT P ft = some sz → pl i = some (off, sz)) :
    ∀ (as : List (Nat × AV)) (vs : List (Nat × Value)) (cs cs' : List AV) (us : Array Value), PR H F ρ as vs → LR H F ρ cs us.toList → buildA P t as cs = some cs' →
      ∃ us' : Array Value, Instr.fill pl us vs = some us' ∧ LR H F ρ cs' us'.toList
  | [], vs, cs, cs', us, hp, hl, e => by
    have : vs = [] := by have := hp.1; simpa using this
    subst this
    cases e
    exact ⟨us, rfl, hl⟩
  | (i, x) :: as, vs, cs, cs', us, hp, hl, e => by
    obtain ⟨v, r, rfl, hv, hr⟩ := hp.uncons
    unfold buildA at e
    obtain ⟨⟨off, ft⟩, h1, e⟩ := Option.bind_eq_some_iff.mp e
    simp only at e
    obtain ⟨sz, h2, e⟩ := Option.bind_eq_some_iff.mp e
    split at e
    · rename_i h3
      obtain ⟨h3, h4, h5⟩ := h3
      have hc := hv.cells h5
      have hs : v.cells.size = sz := by have := hc.1; simp at this; omega
      have hu : us.size = cs.length := by have := hl.1; simpa using this
      obtain ⟨us', h6, h7⟩ := fill_sound hpl as r (setCells cs off x.cells) cs' (v.cells.zipIdx.foldl (fun cs (c, j) => cs.setIfInBounds (off + j) c) us) hr (by
        have := foldl_setCells v.cells.toList us off 0
        rw [Nat.add_zero] at this
        rw [← Array.foldl_toList, Array.toList_zipIdx, this]
        exact hl.setCells off hc) e
      refine ⟨us', ?_, h7⟩
      unfold Instr.fill
      rw [hpl i off ft sz h1 h2]
      simp only
      rw [if_neg (by simp [hs, hu]; omega)]
      exact h6
    · cases e

theorem places_get : ∀ (fs : List Field) (places : List (Nat × Nat)), fs.mapM (fun f => (P.info? f.type).map fun i => (f.offset, i.size)) = some places →
    ∀ (i : Nat) f, fs[i]? = some f → ∃ j, P.info? f.type = some j ∧ places[i]? = some (f.offset, j.size)
  | [], _, _, i, f, hf => by simp at hf
  | g :: fs, places, e, i, f, hf => by
    simp only [List.mapM_cons, Option.bind_eq_bind, Option.pure_def] at e
    obtain ⟨p, h1, e⟩ := Option.bind_eq_some_iff.mp e
    obtain ⟨ps, h2, e⟩ := Option.bind_eq_some_iff.mp e
    cases e
    cases i with
    | zero =>
      simp at hf
      subst hf
      obtain ⟨j, h3, h4⟩ := Option.map_eq_some_iff.mp h1
      exact ⟨j, h3, by simp [h4]⟩
    | succ i => simpa using places_get fs ps h2 i f (by simpa using hf)

theorem build_sound {t : TypeId} {as : List (Nat × AV)} {vs : Array (Nat × Value)} {zs cs : List AV} (hbl : blT P t = true) (hz : zeT P t = some zs) (hp : PR H F ρ as vs.toList) (e : buildA P t as zs = some cs) :
    ∃ u, VR H F ρ (.agg cs) u ∧ (Instr.build t vs).run P w = .ok u w := by
  unfold blT at hbl
  split at hbl
  · rename_i fs ht
    obtain ⟨places, hpl⟩ := Option.isSome_iff_exists.1 hbl
    obtain ⟨i, z, hi, hzz, hl, _⟩ := zeT_some hz
    obtain ⟨us, h1, h2⟩ := fill_sound (P := P) (t := t) (pl := (places.toArray[·]?)) (fun i off ft sz h1 h2 => by
      have har : arT P t = none := by unfold arT; rw [ht]; rfl
      unfold fpT at h1
      rw [har] at h1
      obtain ⟨fs', f, h3, h4, rfl, rfl⟩ := fdT_some h1
      rw [ht] at h3
      cases h3
      obtain ⟨j, h5, h6⟩ := places_get _ _ hpl i f (by simpa using h4)
      obtain ⟨j', h7, h8⟩ := szT_some h2
      rw [h5] at h7
      cases h7
      simp [h6, h8]) as vs.toList zs cs z.cells hp (hl _ _ _) e
    refine ⟨.agg us, by have := h2.agg; simpa using this, ?_⟩
    refine run_build w t vs us ?_
    unfold Program.built
    rw [hi, ht]
    simp only [hzz, hpl]
    exact h1
  · rename_i n el ht
    obtain ⟨ie, hie⟩ := Option.isSome_iff_exists.1 hbl
    obtain ⟨i, z, hi, hzz, hl, _⟩ := zeT_some hz
    obtain ⟨us, h1, h2⟩ := fill_sound (P := P) (t := t) (pl := fun i => some (i * ie.size, ie.size)) (fun i off ft sz h1 h2 => by
      have har : arT P t = some (n, el) := by unfold arT; rw [ht]; rfl
      unfold fpT at h1
      rw [har] at h1
      obtain ⟨j', h7, h8⟩ := szT_some h2
      obtain ⟨s0, h9, h10⟩ := Option.map_eq_some_iff.mp h1
      obtain ⟨j2, h11, h12⟩ := szT_some h9
      cases h10
      rw [hie] at h7 h11
      cases h7; cases h11
      subst h8; subst h12; rfl) as vs.toList zs cs z.cells hp (hl _ _ _) e
    refine ⟨.agg us, by have := h2.agg; simpa using this, ?_⟩
    refine run_build w t vs us ?_
    unfold Program.built
    rw [hi, ht]
    simp only [hzz, hie]
    exact h1
  · cases hbl

/-! ### rows of zeros -/
theorem zeros_row {zs : List AV} {z : Array Value} {sz : Nat} (hl : LR H F ρ zs z.toList) (hz : zs.length = sz) (h0 : 0 < sz) (n : Nat) :
    LR H F ρ (List.replicate n zs).flatten (madeCells z (n * sz)).toList := by
  have hu : ∀ e ∈ List.replicate n zs, e.length = sz := fun e he => by rw [List.eq_of_mem_replicate he]; exact hz
  have hzs : z.size = sz := by have := hl.1; simp at this; omega
  refine ⟨by rw [flatten_len hu]; simp [madeCells], fun k x hx => ?_⟩
  obtain ⟨i, j, rfl, h2⟩ := flatten_at2 hu hx
  obtain ⟨h3, h4, h5⟩ := at2_flatten hu h2
  unfold at2 at h2
  simp only [List.length_replicate] at h5
  rw [List.getElem?_replicate, if_pos h5] at h2
  simp only [Option.bind_some] at h2
  obtain ⟨v, hv, hr⟩ := hl.2 j x h2
  refine ⟨v, ?_, hr⟩
  have hlt : i * sz + j < n * sz := by
    have : (i + 1) * sz ≤ n * sz := Nat.mul_le_mul_right _ h5
    rw [Nat.add_mul] at this; omega
  have hmod : (i * sz + j) % z.size = j := by rw [hzs, Nat.mul_comm, Nat.mul_add_mod]; exact Nat.mod_eq_of_lt h4
  have hjz : j < z.size := by omega
  have hv' : z[j] = v := by
    rw [Array.getElem?_toList, Array.getElem?_eq_getElem hjz] at hv
    exact Option.some.inj hv
  simp [madeCells, hlt, hmod, getElem!_pos z j hjz, hv']

theorem zeros_ones {z : Array Value} {sz : Nat} (h1 : ones z.toList) (hz : z.size = sz) (h0 : 0 < sz) (n : Nat) : ones (madeCells z n).toList := by
  intro v hv
  simp only [madeCells, Array.toList_map, List.mem_map] at hv
  obtain ⟨k, _, rfl⟩ := hv
  have hlt : k % z.size < z.size := Nat.mod_lt _ (by omega)
  rw [getElem!_pos z _ hlt]
  exact h1 _ (by simp)

theorem replicate_len {zs : List AV} {sz n : Nat} (hz : zs.length = sz) : ∀ e ∈ List.replicate n zs, e.length = sz := fun e he => by rw [List.eq_of_mem_replicate he]; exact hz

theorem make_sound (R : Rel ρ F base h w.heap) (hb : base ≤ w.heap.size) {t : TypeId} {x y v : AV} {a b : Value} {h' : Heap} {c' : Nat} (hx : VR w.heap (FF F h ρ) ρ x a) (hy : VR w.heap (FF F h ρ) ρ y b)
    (e : makeA P t h c x y = some (v, h', c')) (fr : Fr ρ c c') : c ≤ c' ∧ Hits P (do pure (.value (← Instr.makeSlice t a b))) w fun u w' => ∃ ρ', Good ρ F base h w c v h' c' u w' ρ' := by
  unfold makeA at e
  split at e
  · rename_i k1 n k2 m
    cases hx; cases hy
    obtain ⟨el, h1, e⟩ := Option.bind_eq_some_iff.mp e
    obtain ⟨sz, h2, e⟩ := Option.bind_eq_some_iff.mp e
    obtain ⟨by_, h3, e⟩ := Option.bind_eq_some_iff.mp e
    obtain ⟨zs, h4, e⟩ := Option.bind_eq_some_iff.mp e
    split at e
    · rename_i h5
      obtain ⟨h5, h6, h7, h8, h9, h10⟩ := h5
      cases e
      obtain ⟨i, z, hi, hz, hl, h1'⟩ := zeT_some h4
      have hsz : i.size = sz := by
        obtain ⟨j, hj, hj'⟩ := szT_some h2
        rw [hi] at hj; cases hj; exact hj'
      have hby : i.bytes = by_ := by
        unfold byT at h3
        rw [hi] at h3; exact Option.some.inj h3
      have hzs : z.cells.size = sz := by have := (hl w.heap F ρ).1; simp at this; omega
      unfold room at h7 h8
      refine ⟨by omega, ?_⟩
      obtain ⟨ρ', g⟩ := good_new (v := .sl c sz 0 n.toNat) (u := .slice (some ⟨w.heap.size, 0, none⟩) n.toNat m.toNat) R (fr c (Nat.le_refl _) (by omega)) hb ⟨sz, List.replicate m.toNat zs, some el⟩ (madeCells z.cells (m.toNat * sz)) el (fun _ h => by cases h; rfl)
        (replicate_len h9) (zeros_row (hl _ _ _) h9 h10 _) (zeros_ones h1' hzs h10 _) (fun k v hk => by simpa using hk)
        (fun ρ' F' H' hρ hH => by
          have := VR.sl (H := H') (F := F') ρ' c sz 0 n.toNat w.heap.size 0 m.toNat hρ (by omega) ⟨_, _, _, hH, by simp [size_madeCells]⟩
          simpa using this)
      refine hits_value (run_make w t el i z (slT_some h1) hi hz k1 k2 n m h5 h6 ?_ ?_) (by rw [hsz]; exact ⟨ρ', g⟩)
      · rw [hby, Int.mul_comm]; omega
      · omega
    · cases e
  · cases e

/-- A row of nothing: the memory grows, and nobody is told. -/
theorem good_push (R : Rel ρ F base h w.heap) (hb : base ≤ w.heap.size) (o : Obj) {v : AV} {u : Value} (hv : VR (w.alloc o).heap (FF F h ρ) ρ v u) : Good ρ F base h w c v h c u (w.alloc o) ρ := by
  obtain ⟨r, m⟩ := R.keep (H' := (w.alloc o).heap) (fun k hk => by show (w.heap.push o)[k]? = _; rw [Array.getElem?_push, if_neg (by omega)]) (by simp)
  exact ⟨r, hv, fun _ _ => rfl, m, (Below.refl _ _).alloc hb o⟩

theorem rows_set {sz : Nat} : ∀ {es : List (List AV)} (i : Nat) (r : List AV), (∀ e ∈ es, e.length = sz) → r.length = sz → i < es.length → (es.set i r).flatten = setCells es.flatten (i * sz) r
  | [], i, r, _, _, hi => by simp at hi
  | q :: es, i, r, hs, hr, hi => by
    have hq : q.length = sz := hs q (by simp)
    apply List.ext_getElem?
    intro k
    have hfl := flatten_len (sz := sz) (es := q :: es) hs
    have hle : i * sz + r.length ≤ (q :: es).flatten.length := by
      rw [hfl, hr]
      have : (i + 1) * sz ≤ (q :: es).length * sz := Nat.mul_le_mul_right _ hi
      rw [Nat.add_mul] at this; omega
    rw [setCells_get _ _ _ _ hle]
    cases i with
    | zero =>
      simp only [List.set_cons_zero, List.flatten_cons, Nat.zero_mul, Nat.zero_add, Nat.zero_le, true_and, Nat.sub_zero]
      by_cases hk : k < r.length
      · rw [if_pos hk, List.getElem?_append_left hk]
      · rw [if_neg hk, List.getElem?_append_right (by omega), List.getElem?_append_right (by omega), hr, hq]
    | succ i =>
      have ih := rows_set (sz := sz) (es := es) i r (fun e he => hs e (by simp [he])) hr (by simpa using hi)
      simp only [List.set_cons_succ, List.flatten_cons, ih]
      have hfl2 := flatten_len (sz := sz) (es := es) (fun e he => hs e (by simp [he]))
      have hle2 : i * sz + r.length ≤ es.flatten.length := by
        rw [hfl2, hr]
        have : (i + 1) * sz ≤ es.length * sz := Nat.mul_le_mul_right _ (Nat.succ_le_of_lt (by simpa using hi))
        rw [Nat.add_mul] at this; omega
      by_cases hk : k < q.length
      · rw [List.getElem?_append_left hk, if_neg, List.getElem?_append_left hk]
        rw [Nat.add_mul]; omega
      · rw [List.getElem?_append_right (by omega), setCells_get _ _ _ _ hle2, List.getElem?_append_right (by omega), hq]
        by_cases h2 : i * sz ≤ k - sz ∧ k - sz < i * sz + r.length
        · rw [if_pos h2, if_pos (by rw [Nat.add_mul]; omega), show k - sz - i * sz = k - (i + 1) * sz by rw [Nat.add_mul]; omega]
        · rw [if_neg h2, if_neg (by rw [Nat.add_mul]; omega)]

theorem fillRow_sound {sz : Nat} : ∀ (as : List (Nat × AV)) (vs : List (Nat × Value)) (es es' : List (List AV)) (us : Array Value), PR H F ρ as vs → (∀ e ∈ es, e.length = sz) → LR H F ρ es.flatten us.toList → ones us.toList → buildRow sz as es = some es' →
      ∃ us' : Array Value, Instr.fill (fun i => some (i * sz, sz)) us vs = some us' ∧ LR H F ρ es'.flatten us'.toList ∧ (∀ e ∈ es', e.length = sz) ∧ ones us'.toList ∧ es'.length = es.length
  | [], vs, es, es', us, hp, hs, hl, h1, e => by
    have : vs = [] := by have := hp.1; simpa using this
    subst this
    cases e
    exact ⟨us, rfl, hl, hs, h1, rfl⟩
  | (i, x) :: as, vs, es, es', us, hp, hs, hl, h1, e => by
    obtain ⟨v, r, rfl, hv, hr⟩ := hp.uncons
    unfold buildRow at e
    split at e
    · rename_i h3
      obtain ⟨h3, h4, h5⟩ := h3
      have hbad : x.isBad = false := by cases x <;> first | rfl | (simp [AV.cells, okc] at h5)
      have hc := hv.cells hbad
      have hvs : v.cells.size = sz := by have := hc.1; simp at this; omega
      have hfl := flatten_len hs
      have hu : us.size = es.length * sz := by have := hl.1; rw [hfl] at this; simpa using this
      have hle : i * sz + sz ≤ es.length * sz := by
        have : (i + 1) * sz ≤ es.length * sz := Nat.mul_le_mul_right _ h4
        rw [Nat.add_mul] at this; omega
      have htl : (v.cells.zipIdx.foldl (fun cs (c, j) => cs.setIfInBounds (i * sz + j) c) us).toList = setCells us.toList (i * sz) v.cells.toList := by
        have := foldl_setCells v.cells.toList us (i * sz) 0
        rw [Nat.add_zero] at this
        rw [← Array.foldl_toList, Array.toList_zipIdx, this]
      have h1' : ones (setCells us.toList (i * sz) v.cells.toList) := by
        intro y hy
        obtain ⟨k, hk, rfl⟩ := List.getElem_of_mem hy
        have := setCells_get v.cells.toList us.toList (i * sz) k (by simp; omega)
        rw [List.getElem?_eq_getElem hk] at this
        split at this
        · exact ones_get (ones_of hc h5) this.symm
        · exact ones_get h1 this.symm
      obtain ⟨us', h6, h7, h8, h9, h10⟩ := fillRow_sound as r (es.set i x.cells) es' (v.cells.zipIdx.foldl (fun cs (c, j) => cs.setIfInBounds (i * sz + j) c) us) hr
        (fun e he => by rcases List.mem_or_eq_of_mem_set he with he | rfl; exact hs e he; exact h3)
        (by rw [htl, rows_set i x.cells hs h3 h4]; exact hl.setCells _ hc) (by rw [htl]; exact h1') e
      refine ⟨us', ?_, h7, h8, h9, by rw [h10]; simp⟩
      unfold Instr.fill
      simp only
      rw [if_neg (by simp [hvs, hu]; omega)]
      exact h6
    · cases e

end
end Go.Proofs.YtgbdbenepnbajaaGreatDoor.AM
namespace Go.Proofs.YtgbdbenepnbajaaGreatDoor.AM
open Go Go.RowKit
set_option linter.unusedVariables false
set_option linter.unusedSimpArgs false

section
variable {P : Program} {ρ : Pls} {F : Nat → Prop} {base : Nat} {h : Heap} {w : World} {c : Nat} {H : Array Obj}

theorem buildSlice_emp (R : Rel ρ F base h w.heap) (hb : base ≤ w.heap.size) {t e : TypeId} {sz : Nat} (ht : slT P t = some e) (hsz : szT P e = some sz) :
    Hits P (do pure (.value (← Instr.buildSlice t 0 #[]))) w fun u w' => ∃ ρ', Good ρ F base h w c .emp h c u w' ρ' := by
  refine hits_value (u := .slice (some ⟨w.heap.size, 0, none⟩) 0 0) (w' := w.alloc (.cells #[] e)) ?_ ⟨ρ, good_push R hb _ (.emp _ _)⟩
  simp [Instr.buildSlice, run_underlying (slT_some ht), run_sz hsz, Instr.fill, newRow, Array.range_zero']

theorem buildSlice_sound (R : Rel ρ F base h w.heap) (hb : base ≤ w.heap.size) {t e : TypeId} {n sz : Nat} {zs : List AV} {as : List (Nat × AV)} {vs : Array (Nat × Value)} {es : List (List AV)} (ht : slT P t = some e) (hsz : szT P e = some sz)
    (hz : zeT P e = some zs) (hzl : zs.length = sz) (h0 : 0 < sz) (hn : 0 < n) (hmax : n * sz ≤ 16777216) (hp : PR w.heap (FF F h ρ) ρ as vs.toList) (eb : buildRow sz as (List.replicate n zs) = some es) (fr : Fr ρ c (c + 1)) :
    Hits P (do pure (.value (← Instr.buildSlice t n vs))) w fun u w' => ∃ ρ', Good ρ F base h w c (.sl c sz 0 n) (h.put c (some ⟨sz, es, some e⟩)) (c + 1) u w' ρ' := by
  obtain ⟨i, z, hi, hzz, hl, h1⟩ := zeT_some hz
  have hzs : z.cells.size = sz := by have := (hl w.heap F ρ).1; simp at this; omega
  obtain ⟨us, g1, g2, g3, g4, g5⟩ := fillRow_sound (H := w.heap) (F := FF F h ρ) (ρ := ρ) as vs.toList (List.replicate n zs) es (madeCells z.cells (n * sz)) hp (replicate_len hzl) (zeros_row (hl _ _ _) hzl h0 n) (zeros_ones h1 hzs h0 _) eb
  have hus : us.size = n * sz := by
    have h2 := g2.1
    rw [flatten_len g3, g5] at h2
    simpa using h2
  obtain ⟨ρ', g⟩ := good_new (v := .sl c sz 0 n) (u := .slice (some ⟨w.heap.size, 0, none⟩) n n) R (fr c (Nat.le_refl _) (by omega)) hb ⟨sz, es, some e⟩ us e (fun _ h => by cases h; rfl) g3 g2 g4 (fun k v hk => by simpa using hk)
    (fun ρ' F' H' hρ hH => by
      have := VR.sl (H := H') (F := F') ρ' c sz 0 n w.heap.size 0 n hρ (Nat.le_refl _) ⟨_, _, _, hH, by simp [hus]⟩
      simpa using this)
  refine hits_value (w' := w.alloc (.cells us e)) (u := .slice (some ⟨w.heap.size, 0, none⟩) n n) ?_ ⟨ρ', g⟩
  have hne : ¬ n * sz = 0 := by
    have := Nat.mul_pos hn h0; omega
  have hm : ¬ (2 ^ 24 < n * sz) := by omega
  have hfill : Instr.fill (fun i => some (i * sz, sz)) (Array.map (fun x => z.cells[x % z.cells.size]!) (Array.range (n * sz))) vs.toList = some us := g1
  simp [Instr.buildSlice, run_underlying (slT_some ht), run_sz hsz, hm, hne, run_zero hi hzz, hfill, newRow]

/-- A literal that nobody writes. -/
theorem buildSlice_ro (R : Rel ρ F base h w.heap) (hb : base ≤ w.heap.size) (hF : ∀ k, F k → k < base) {t e : TypeId} {n sz : Nat} {zs : List AV} {as : List (Nat × AV)} {vs : Array (Nat × Value)} {es : List (List AV)} (ht : slT P t = some e) (hsz : szT P e = some sz)
    (hz : zeT P e = some zs) (hzl : zs.length = sz) (h0 : 0 < sz) (hn : 0 < n) (hmax : n * sz ≤ 16777216) (hp : PR w.heap (FF F h ρ) ρ as vs.toList) (eb : buildRow sz as (List.replicate n zs) = some es) (hfl : es.flatten.all flat = true) :
    Hits P (do pure (.value (← Instr.buildSlice t n vs))) w fun u w' => ∃ ρ', Good ρ F base h w c (.ro false es) h c u w' ρ' := by
  obtain ⟨i, z, hi, hzz, hl, h1⟩ := zeT_some hz
  have hzs : z.cells.size = sz := by have := (hl w.heap F ρ).1; simp at this; omega
  obtain ⟨us, g1, g2, g3, g4, g5⟩ := fillRow_sound (H := w.heap) (F := FF F h ρ) (ρ := ρ) as vs.toList (List.replicate n zs) es (madeCells z.cells (n * sz)) hp (replicate_len hzl) (zeros_row (hl _ _ _) hzl h0 n) (zeros_ones h1 hzs h0 _) eb
  have hen : n = es.length := by rw [g5]; simp
  have hnew : (w.alloc (.cells us e)).heap[w.heap.size]? = some (.cells us e (0, 0)) := by
    show (w.heap.push _)[w.heap.size]? = _
    rw [Array.getElem?_push, if_pos rfl]
  have hnf : ¬ FF F h ρ w.heap.size := by
    rintro (hf | ⟨l, b, p, hl', hp', e'⟩)
    · have := hF _ hf; omega
    · have := R.bd l p hp'; omega
  have key : ∀ i j x, at2 es i j = some x → ∃ v, us[i * sz + j]? = some v ∧ v.oneCell' = true ∧ VR w.heap (FF F h ρ) ρ x v ∧ flat x = true := by
    intro i j x hx
    obtain ⟨h2, _⟩ := at2_flatten g3 hx
    obtain ⟨v, hv, hr⟩ := g2.2 _ x h2
    exact ⟨v, by simpa using hv, ones_get g4 hv, hr, List.all_eq_true.1 hfl x (List.mem_of_getElem? h2)⟩
  have hne : ¬ n * sz = 0 := by
    have := Nat.mul_pos hn h0; omega
  have hm : ¬ (2 ^ 24 < n * sz) := by omega
  have hfill : Instr.fill (fun i => some (i * sz, sz)) (Array.map (fun x => z.cells[x % z.cells.size]!) (Array.range (n * sz))) vs.toList = some us := g1
  refine hits_value (w' := w.alloc (.cells us e)) (u := .slice (some ⟨w.heap.size, 0, none⟩) n n) (by simp [Instr.buildSlice, run_underlying (slT_some ht), run_sz hsz, hm, hne, run_zero hi hzz, hfill, newRow]) ⟨ρ, good_push R hb _ ?_⟩
  have hv : VR (w.alloc (.cells us e)).heap (FF F h ρ) ρ (.ro false es) (.slice (some ⟨w.heap.size, 0, none⟩) es.length n) := by
    refine .ro ρ false es _ n sz (fun i j => us.getD (i * sz + j) .nilFunc) (by omega) (by simp) (fun h => by cases h) g3 (fun i j x hx => ?_) (fun i j x hx => ?_)
    · obtain ⟨v, hv, h3, h4, h5⟩ := key i j x hx
      refine ⟨_, rfl, hnf, ?_, ?_⟩
      · rw [add_plain, cellH_plain hnew]
        simp [Array.getD_eq_getD_getElem?, hv]
      · simpa [Array.getD_eq_getD_getElem?, hv] using h3
    · obtain ⟨v, hv, h3, h4, h5⟩ := key i j x hx
      simpa [Array.getD_eq_getD_getElem?, hv] using h4.flat h5 _ _ _
  rw [← hen] at hv
  exact hv

/-! ### len, max, min -/
theorem len_sound {t : TypeId} {x : AV} {a : Value} {n : Nat} {ty : TypeId} {as : Array TypeId} {vs : Array Value} (hx : VR H F ρ x a) (ht : (slT P t).isSome = true) (e : lenA x = some n) (h1 : as[0]? = some t) (h2 : vs[0]? = some a) :
    (Builtin.len_ as ty vs).run P w = .ok (.int .i64 n) w := by
  obtain ⟨el, hel⟩ := Option.isSome_iff_exists.1 ht
  unfold lenA at e
  cases hx with
  | ro _ b es A cap sz f hc hn hz hs hA hV => cases e; simp [Builtin.len_, h1, h2, run_underlying (slT_some hel), goInt]
  | emp => cases e; simp [Builtin.len_, h1, h2, run_underlying (slT_some hel), goInt]
  | sl => cases e; simp [Builtin.len_, h1, h2, run_underlying (slT_some hel), goInt]
  | _ => cases e

theorem len_str {t : TypeId} {s : ByteArray} {ty : TypeId} {as : Array TypeId} {vs : Array Value} (ht : stT P t = true) (h1 : as[0]? = some t) (h2 : vs[0]? = some (.string s)) :
    (Builtin.len_ as ty vs).run P w = .ok (.int .i64 s.size) w := by
  have ht' : P.underlying t = some .string := by
    unfold stT at ht
    split at ht
    · assumption
    · cases ht
  simp [Builtin.len_, h1, h2, run_underlying ht', goInt]

theorem fold_max : ∀ (r : List AV) (x v : AV) (a : Value) (rs : List Value), VR H F ρ x a → LR H F ρ r rs → r.foldlM max2 x = some v → ∃ u, VR H F ρ v u ∧ (rs.foldlM Builtin.max2 a).run P w = .ok u w
  | [], x, v, a, rs, hx, hl, e => by
    have : rs = [] := by have := hl.1; simpa using this
    subst this
    cases e
    exact ⟨a, hx, rfl⟩
  | y :: r, x, v, a, rs, hx, hl, e => by
    obtain ⟨b, rs, rfl, hy, hr⟩ := hl.uncons
    simp only [List.foldlM_cons] at e ⊢
    obtain ⟨z, hz, e⟩ := Option.bind_eq_some_iff.mp e
    unfold max2 at hz
    split at hz
    · cases hx; cases hy; cases hz
      obtain ⟨u, hu, hru⟩ := fold_max r _ v _ rs (.val _ _ rfl) hr e
      exact ⟨u, hu, by simp [Builtin.max2]; exact hru⟩
    · cases hz

theorem fold_min : ∀ (r : List AV) (x v : AV) (a : Value) (rs : List Value), VR H F ρ x a → LR H F ρ r rs → r.foldlM min2 x = some v → ∃ u, VR H F ρ v u ∧ (rs.foldlM Builtin.min2 a).run P w = .ok u w
  | [], x, v, a, rs, hx, hl, e => by
    have : rs = [] := by have := hl.1; simpa using this
    subst this
    cases e
    exact ⟨a, hx, rfl⟩
  | y :: r, x, v, a, rs, hx, hl, e => by
    obtain ⟨b, rs, rfl, hy, hr⟩ := hl.uncons
    simp only [List.foldlM_cons] at e ⊢
    obtain ⟨z, hz, e⟩ := Option.bind_eq_some_iff.mp e
    unfold min2 at hz
    split at hz
    · cases hx; cases hy; cases hz
      obtain ⟨u, hu, hru⟩ := fold_min r _ v _ rs (.val _ _ rfl) hr e
      exact ⟨u, hu, by simp [Builtin.min2]; exact hru⟩
    · cases hz

/-! ### what a slice leads to -/
theorem els_sound (R : Rel ρ F base h w.heap) {x : AV} {y : Value} {es : List (List AV)} (hx : VR w.heap (FF F h ρ) ρ x y) (e : els h x = some es) :
    ∃ A cap, y = .slice A es.length cap ∧ (∃ sz, ∀ r ∈ es, r.length = sz) ∧
      (es ≠ [] → ∃ a vs, A = some a ∧ LR w.heap (FF F h ρ) ρ es.flatten vs ∧ ones vs ∧ ∀ (i : Nat) v, vs[i]? = some v → w.cell? (a.add i) = some v) := by
  unfold els at e
  cases hx with
  | ro _ n rs A cap sz f hc hn hz hs hA hV =>
    cases e
    refine ⟨A, cap, rfl, ⟨sz, hs⟩, fun hne => ?_⟩
    cases A with
    | none => exact absurd (hz (hn.1 rfl)).1 hne
    | some a =>
      have hfl := flatten_len hs
      have key : ∀ (k : Nat) x, es.flatten[k]? = some x → ∃ v, w.cell? (a.add k) = some v ∧ v.oneCell' = true ∧ VR w.heap (FF F h ρ) ρ x v := by
        intro k x hx
        obtain ⟨i, j, rfl, h2⟩ := flatten_at2 hs hx
        obtain ⟨a', ha', h3, h4, h5⟩ := hA i j x h2
        cases ha'
        exact ⟨f i j, h4, h5, (hV i j x h2).mono (Mv.refl _ _) (Sub.none _)⟩
      refine ⟨a, (List.range es.flatten.length).map fun k => (w.cell? (a.add k)).getD .nilFunc, rfl, ⟨by simp, fun k x hx => ?_⟩, fun v hv => ?_, fun k v hk => ?_⟩
      · obtain ⟨v, hv, h1, h2⟩ := key k x hx
        have hlt := (List.getElem?_eq_some_iff.1 hx).1
        exact ⟨v, by rw [List.getElem?_map, List.getElem?_range hlt]; simp [hv], h2⟩
      · obtain ⟨k, hk, rfl⟩ := List.mem_map.1 hv
        obtain ⟨v, hv, h1, h2⟩ := key k _ (List.getElem?_eq_getElem (List.mem_range.1 hk))
        simpa [hv] using h1
      · rw [List.getElem?_map] at hk
        obtain ⟨k', hk', e⟩ := Option.map_eq_some_iff.mp hk
        have hlt : k < es.flatten.length := by
          rcases Nat.lt_or_ge k es.flatten.length with hl | hl
          · exact hl
          · rw [List.getElem?_eq_none (by rw [List.length_range]; exact hl)] at hk'; cases hk'
        rw [List.getElem?_range hlt] at hk'
        cases hk'
        obtain ⟨v', hv', h1, h2⟩ := key k _ (List.getElem?_eq_getElem hlt)
        rw [hv'] at e ⊢
        simpa using e
  | emp _ a => cases e; exact ⟨_, _, rfl, ⟨0, fun r hr => by cases hr⟩, fun hne => absurd rfl hne⟩
  | sl _ l sz off len k o cap hρ hc hk =>
    simp only at e
    obtain ⟨b, hb, e⟩ := Option.bind_eq_some_iff.mp e
    split at e
    · rename_i hle
      cases e
      obtain ⟨k', o', cs', T, _, g1, g2, g3, g4, g5⟩ := R.ownC hb hρ (have1 hk)
      rw [hρ] at g1
      obtain ⟨rfl, rfl, rfl⟩ : k = k' ∧ o = o' ∧ sz = b.sz := by cases g1; exact ⟨rfl, rfl, rfl⟩
      have hlen : ((b.es.drop off).take len).length = len := by simp; omega
      have hs : ∀ r ∈ (b.es.drop off).take len, r.length = b.sz := fun r hr => g4 r (List.mem_of_mem_drop (List.mem_of_mem_take hr))
      refine ⟨_, cap, by rw [hlen], ⟨b.sz, hs⟩, fun hne => ?_⟩
      have hfl := flatten_len hs
      have key : ∀ (m : Nat) x, ((b.es.drop off).take len).flatten[m]? = some x → ∃ v, w.cell? ((⟨k, o + off * b.sz, none⟩ : Addr).add m) = some v ∧ v.oneCell' = true ∧ VR w.heap (FF F h ρ) ρ x v := by
        intro m x hx
        obtain ⟨i, j, rfl, h2⟩ := flatten_at2 hs hx
        have h3 : at2 b.es (off + i) j = some x := by
          unfold at2 at h2 ⊢
          obtain ⟨r, hr, h2⟩ := Option.bind_eq_some_iff.mp h2
          rw [List.getElem?_take] at hr
          split at hr
          · rw [List.getElem?_drop] at hr
            rw [hr]; exact h2
          · cases hr
        obtain ⟨v, hv, h4, h5⟩ := g5 _ _ x h3
        refine ⟨v, ?_, h4, h5⟩
        rw [cell_eq, add_plain, cellH_plain g3, show o + off * b.sz + (i * b.sz + j) = o + (off + i) * b.sz + j by rw [Nat.add_mul]; omega]
        exact hv
      refine ⟨_, (List.range ((b.es.drop off).take len).flatten.length).map fun m => (w.cell? ((⟨k, o + off * b.sz, none⟩ : Addr).add m)).getD .nilFunc, rfl, ⟨by simp, fun m x hx => ?_⟩, fun v hv => ?_, fun m v hm => ?_⟩
      · obtain ⟨v, hv, h1, h2⟩ := key m x hx
        have hlt := (List.getElem?_eq_some_iff.1 hx).1
        exact ⟨v, by rw [List.getElem?_map, List.getElem?_range hlt]; simp [hv], h2⟩
      · obtain ⟨m, hm, rfl⟩ := List.mem_map.1 hv
        obtain ⟨v, hv, h1, h2⟩ := key m _ (List.getElem?_eq_getElem (List.mem_range.1 hm))
        simpa [hv] using h1
      · rw [List.getElem?_map] at hm
        obtain ⟨m', hm', e⟩ := Option.map_eq_some_iff.mp hm
        have hlt : m < ((b.es.drop off).take len).flatten.length := by
          rcases Nat.lt_or_ge m ((b.es.drop off).take len).flatten.length with hl | hl
          · exact hl
          · rw [List.getElem?_eq_none (by rw [List.length_range]; exact hl)] at hm'; cases hm'
        rw [List.getElem?_range hlt] at hm'
        cases hm'
        obtain ⟨v', hv', h1, h2⟩ := key m _ (List.getElem?_eq_getElem hlt)
        rw [hv'] at e ⊢
        simpa using e
    · cases e
  | _ => cases e

theorem setCells_row (P : Program) {g o : Nat} {T : TypeId} {vs : List Value} {cur : Array Value} (hg : w.heap[g]? = some (.cells cur T (0, 0))) (hl : o + vs.length ≤ cur.size) (h1 : ones vs) :
    w.setCells g o vs = w.setRow g (cur.toList.take o ++ vs ++ cur.toList.drop (o + vs.length)).toArray := by
  have a := run_storeCells_at P g o T vs 0 cur w hg (by omega) h1
  have b := run_storeCells_cells (P := P) g o vs 0 w (fun j hj => by rw [cell_eq, cellH_plain hg]; simp; omega) (fun j hj => by unfold World.frozen?; simp only [hg]; simp) h1
  rw [a] at b
  simp only [Nat.add_zero] at b
  injection b with _ b
  exact b.symm

theorem byte_rows (bs : List UInt8) : (bs.map fun b => [intV .u8 (b.toNat : Int)]).flatten = bs.map fun b => intV .u8 (b.toNat : Int) := by
  induction bs with
  | nil => rfl
  | cons b bs ih => simp only [List.map_cons, List.flatten_cons, ih, List.singleton_append]

/-- What an append takes. -/
theorem src_sound (R : Rel ρ F base h w.heap) {t' : TypeId} {y : AV} {b : Value} {xs : List (List AV)} (hy : VR w.heap (FF F h ρ) ρ y b) (ht' : okSrc P t' y = true) (e : srcA h y = some xs) :
    (∃ q, ∀ r ∈ xs, r.length = q) ∧ (xs = [] → ∀ (t ty el : TypeId) (i : TypeInfo) (A : Option Addr) (n cap : Nat), P.underlying t = some (.slice el) → P.info? el = some i → n ≤ cap → (Builtin.append_ #[t, t'] ty #[.slice A n cap, b]).run P w = .ok (.slice A n cap) w) ∧
    (xs ≠ [] → ∃ news, LR w.heap (FF F h ρ) ρ xs.flatten news ∧ ones news ∧ ∀ q, (∀ r ∈ xs, r.length = q) → Src P q t' b xs.length news w) ∧
    (xs = [] → (Builtin.lenOf b).run P w = .ok 0 w ∧ ∀ size, (Builtin.firstCells size 0 b).run P w = .ok #[] w) := by
  have slices : els h y = some xs → (slT P t').isSome = true → (∃ q, ∀ r ∈ xs, r.length = q) ∧ (xs = [] → ∀ (t ty el : TypeId) (i : TypeInfo) (A : Option Addr) (n cap : Nat), P.underlying t = some (.slice el) → P.info? el = some i → n ≤ cap → (Builtin.append_ #[t, t'] ty #[.slice A n cap, b]).run P w = .ok (.slice A n cap) w) ∧
    (xs ≠ [] → ∃ news, LR w.heap (FF F h ρ) ρ xs.flatten news ∧ ones news ∧ ∀ q, (∀ r ∈ xs, r.length = q) → Src P q t' b xs.length news w) ∧
    (xs = [] → (Builtin.lenOf b).run P w = .ok 0 w ∧ ∀ size, (Builtin.firstCells size 0 b).run P w = .ok #[] w) := by
    intro h5 ht'
    obtain ⟨el', hel'⟩ := Option.isSome_iff_exists.1 ht'
    obtain ⟨B, capB, rfl, hq, hsrc⟩ := els_sound R hy h5
    refine ⟨hq, fun h0 t ty el i A n cap h1 h2 hn => ?_, fun hne => ?_, fun h0 => ?_⟩
    · subst h0
      have hsz : (sizeOf el).run P w = .ok i.size w := by simp [sizeOf, typeInfo, h2]
      cases A <;> cases B <;> simp [Builtin.append_, run_underlying h1, run_underlying (slT_some hel'), hsz, Builtin.lenOf, Builtin.firstCells, loadCells, loadCellsFrom, storeCells, hn]
    · obtain ⟨ba, news, rfl, hnl, hn1, hncell⟩ := hsrc hne
      refine ⟨news, hnl, hn1, fun q hqq => ?_⟩
      exact Src.ofSlice w (slT_some hel') ba xs.length capB news (by rw [hnl.1, flatten_len hqq]) hncell hn1
    · subst h0
      refine ⟨by simp [Builtin.lenOf], fun size => ?_⟩
      cases B <;> simp [Builtin.firstCells, loadCells, loadCellsFrom]
  cases y with
  | val v =>
    cases v with
    | string s =>
      cases hy
      cases e
      have hst : P.underlying t' = some .string := by
        unfold okSrc stT at ht'
        simp only at ht'
        split at ht'
        · assumption
        · cases ht'
      refine ⟨⟨1, fun r hr => by obtain ⟨x, _, rfl⟩ := List.mem_map.1 hr; rfl⟩, fun h0 t ty el i A n cap h1 h2 hn => ?_, fun hne => ⟨byteCells s, ?_, ?_, fun q hq => ?_⟩, fun h0 => ?_⟩
      · have hs0 : s.data.toList = [] := by simpa using h0
        have hsz : (sizeOf el).run P w = .ok i.size w := by simp [sizeOf, typeInfo, h2]
        have hdat : s.data = #[] := by
          apply Array.ext'
          simpa using hs0
        have hs : s = ByteArray.empty := ByteArray.ext hdat
        subst hs
        have hlen : (Builtin.lenOf (.string ByteArray.empty)).run P w = .ok 0 w := rfl
        have hfc : (Builtin.firstCells i.size 0 (.string ByteArray.empty)).run P w = .ok #[] w := by
          simp [Builtin.firstCells]
        cases A <;> simp [Builtin.append_, run_underlying h1, run_underlying hst, hsz, hlen, hfc, storeCells, hn]
      · rw [byte_rows]
        have hb : byteCells s = s.data.toList.map fun b => .int .u8 (b.toNat : Int) := rfl
        rw [hb]
        refine ⟨by simp, fun i x hx => ?_⟩
        rw [List.getElem?_map] at hx
        obtain ⟨z, hz, rfl⟩ := Option.map_eq_some_iff.mp hx
        exact ⟨.int .u8 (z.toNat : Int), by rw [List.getElem?_map, hz]; rfl, .val _ _ rfl⟩
      · intro v hv
        obtain ⟨_, _, rfl⟩ := List.mem_map.1 hv
        rfl
      · have hlen : (s.data.toList.map fun b => [intV .u8 (b.toNat : Int)]).length = s.size := by rw [List.length_map, Array.length_toList]; rfl
        have hq1 : q = 1 := by
          cases hd : s.data.toList with
          | nil => rw [hd] at hne; exact absurd rfl hne
          | cons z zs => exact (hq [intV .u8 (z.toNat : Int)] (by rw [hd]; simp)).symm
        rw [hlen, hq1]
        exact Src.ofString w hst s
      · have hs0 : s.data.toList = [] := by simpa using h0
        have hdat : s.data = #[] := by
          apply Array.ext'
          simpa using hs0
        have hs : s = ByteArray.empty := ByteArray.ext hdat
        subst hs
        exact ⟨rfl, fun size => by simp [Builtin.firstCells]⟩
    | _ => cases e
  | _ => exact slices e ht'

theorem tyK_some {b : Blk} {e T0 : Nat} (h : tyK (some b) e = some T0) : b.ty = some T0 := by
  unfold tyK at h
  simp only at h
  split at h
  · rename_i h1; rw [h1]; exact h
  · cases h
theorem tyK_some' {b : Blk} {e T0 : Nat} (h : tyK (some b) e = some T0) : e = T0 := by
  unfold tyK at h
  simp only at h
  split at h
  · exact Option.some.inj h
  · cases h

/-- THE APPEND. -/
theorem append_sound (R : Rel ρ F base h w.heap) (hb : base ≤ w.heap.size) {t t' ty : TypeId} {x y v : AV} {a b : Value} {h' : Heap} {c' : Nat} (hx : VR w.heap (FF F h ρ) ρ x a) (hy : VR w.heap (FF F h ρ) ρ y b)
    (ht' : okSrc P t' y = true) (e : appendA P t h c x y = some (v, h', c')) (fr : Fr ρ c c') :
    c ≤ c' ∧ ∃ u w', (Builtin.append_ #[t, t'] ty #[a, b]).run P w = .ok u w' ∧ ∃ ρ', Good ρ F base h w c v h' c' u w' ρ' := by
  unfold appendA at e
  replace e := Option.bind_eq_some_iff.mp e; obtain ⟨el, h1, e⟩ := e
  replace e := Option.bind_eq_some_iff.mp e; obtain ⟨sz, h2, e⟩ := e
  replace e := Option.bind_eq_some_iff.mp e; obtain ⟨by_, h3, e⟩ := e
  replace e := Option.bind_eq_some_iff.mp e; obtain ⟨zs, h4, e⟩ := e
  replace e := Option.bind_eq_some_iff.mp e; obtain ⟨xs, h5, e⟩ := e
  obtain ⟨i, z, hi, hz, hzl, hz1⟩ := zeT_some h4
  have hsz : i.size = sz := by
    obtain ⟨j, hj, hj'⟩ := szT_some h2
    rw [hi] at hj; cases hj; exact hj'
  have hby : i.bytes = by_ := by
    unfold byT at h3
    rw [hi] at h3; exact Option.some.inj h3
  split at e
  · rename_i h6
    obtain ⟨h6, h7⟩ := h6
    obtain ⟨⟨q, hq⟩, hemp, hsrc, _⟩ := src_sound (t' := t') R hy ht' h5
    split at e
    · -- nothing is appended
      rename_i h8
      have : xs = [] := by simpa using h8
      subst this
      have hrun : ∀ A n cap, a = .slice A n cap → n ≤ cap → (Builtin.append_ #[t, t'] ty #[a, b]).run P w = .ok a w := by
        rintro A n cap rfl hn
        exact hemp rfl t ty el i A n cap (slT_some h1) hi hn
      split at e
      all_goals first
        | (cases e; done)
        | (cases e
           refine ⟨Nat.le_refl _, a, w, ?_, ρ, good_same R hx⟩
           cases hx
           first | exact hrun _ _ _ rfl (by assumption) | exact hrun _ _ _ rfl (Nat.le_refl _))
    · rename_i h8
      have hne : xs ≠ [] := by intro h0; subst h0; simp at h8
      obtain ⟨news, hnl, hn1, hSrc⟩ := hsrc hne
      have hqsz : q = sz := by
        cases xs with
        | nil => exact absurd rfl hne
        | cons r xs =>
          have := hq r (by simp)
          simp [AM.hd] at h7
          omega
      subst hqsz
      have hfl := flatten_len hq
      have hnlen : news.length = xs.length * q := by rw [hnl.1, hfl]
      have hpos : 0 < xs.length := List.length_pos_iff.2 hne
      have S : Src P i.size t' b xs.length news w := by rw [hsz]; exact hSrc q hq
      -- a new row
      have grow : ∀ {A : Option Addr} {n cap : Nat} {ys : List (List AV)} {olds : List Value} {hk : Heap} (tt : Option Nat), (∀ T0, tt = some T0 → el = T0) → a = .slice A n cap → cap < n + xs.length → ys.length = n → (∀ r ∈ ys, r.length = q) → LR w.heap (FF F h ρ) ρ ys.flatten olds → ones olds →
          (Builtin.firstCells i.size n (.slice A n cap)).run P w.drew = .ok olds.toArray w.drew → (n + xs.length) * by_ ≤ room → n + xs.length ≤ room → Rel ρ F base hk w.heap → Mv w.heap (FF F h ρ) w.heap (FF F hk ρ) → Fr ρ c (c + 1) →
          ∃ u w', (Builtin.append_ #[t, t'] ty #[a, b]).run P w = .ok u w' ∧ ∃ ρ', Good ρ F base h w c (.sl c q 0 (n + xs.length)) (hk.put c (some ⟨q, ys ++ xs, tt⟩)) (c + 1) u w' ρ' := by
        rintro A n cap ys olds hk tt htt rfl hg hyl hyq hol ho1 hfirst hr1 hr2 Rk mk fr'
        unfold room at hr1 hr2
        have hrun := run_append_grow_src (P := P) w t t' ty el i z (slT_some h1) hi hz A n cap olds hfirst b xs.length news S hg (by omega) (by
          rw [hby]
          have hg2 := Room.nextslicecap_le' (need := n + xs.length) (old := cap) hg
          have := Nat.mul_le_mul_right by_ hg2
          rw [Nat.mul_assoc] at this
          omega)
        have hall : ∀ r ∈ ys ++ xs, r.length = q := by
          intro r hr
          rcases List.mem_append.1 hr with hr | hr
          · exact hyq r hr
          · exact hq r hr
        have hLR : LR w.heap (FF F hk ρ) ρ (ys ++ xs).flatten (olds ++ news) := by
          rw [List.flatten_append]
          exact (hol.mono mk (Sub.refl _)).append (hnl.mono mk (Sub.refl _))
        have hones : ones (olds ++ news) := by
          intro v hv
          rcases List.mem_append.1 hv with hv | hv
          · exact ho1 v hv
          · exact hn1 v hv
        have hcap : n + xs.length ≤ grownCap w (n + xs.length) cap el := grownCap_ge w _ _ _
        have holl : olds.length = n * q := by rw [hol.1, flatten_len hyq, hyl]
        obtain ⟨ρ', g⟩ := good_new (w := w.drew) (h := hk) (v := .sl c q 0 (n + xs.length)) (u := .slice (some ⟨w.heap.size, 0, none⟩) (n + xs.length) (grownCap w (n + xs.length) cap el)) Rk (fr' c (Nat.le_refl _) (by omega)) hb ⟨q, ys ++ xs, tt⟩
          ((olds ++ news).toArray ++ Builtin.zeroCells z.cells (grownCap w (n + xs.length) cap el - (n + xs.length))) el htt hall hLR hones
          (fun k v hk => by
            have hlt := (List.getElem?_eq_some_iff.1 hk).1
            rw [Array.getElem?_append_left (by simpa using hlt)]
            simpa using hk)
          (fun ρ' F' H' hρ hH => by
            have := VR.sl (H := H') (F := F') ρ' c q 0 (n + xs.length) w.heap.size 0 (grownCap w (n + xs.length) cap el) hρ hcap ⟨_, _, _, hH, by
              have hzs : z.cells.size = q := by have := (hzl w.heap F ρ).1; simp at this; omega
              simp only [Array.size_append, List.size_toArray, List.length_append, size_zeroCells, hzs, holl, hnlen]
              rw [← Nat.add_mul, ← Nat.add_mul, show n + xs.length + (grownCap w (n + xs.length) cap el - (n + xs.length)) = grownCap w (n + xs.length) cap el by omega]
              simp⟩
            simpa using this)
        exact ⟨_, _, hrun, ρ', g.rel, g.val, g.out, mk.trans g.mv, ⟨g.bel.os, g.bel.tape, g.bel.output, g.bel.size, g.bel.block⟩⟩
      split at e
      · split at e
        · rename_i h9
          cases e
          cases hx with
          | ro _ _ _ A cap sz' f hc hn hz' hs hA hV =>
            obtain rfl : A = none := hn.2 rfl
            obtain ⟨_, rfl⟩ := hz' rfl
            have := grow (ys := []) (olds := []) (hk := h) (some el) (fun _ h => by cases h; rfl) rfl (by simp; omega) rfl (fun r hr => by cases hr) (by simpa using LR.nil) (fun v hv => by cases hv) (by simp [Builtin.firstCells]) (by simpa using h9.1) (by simpa using h9.2) R (Mv.refl _ _) fr
            simp only [List.length_nil, Nat.zero_add, List.nil_append] at this
            exact ⟨by omega, this⟩
        · cases e
      · split at e
        · rename_i h9
          cases e
          cases hx with
          | emp _ aa =>
            have := grow (ys := []) (olds := []) (hk := h) (some el) (fun _ h => by cases h; rfl) rfl (by omega) rfl (fun r hr => by cases hr) (by simpa using LR.nil) (fun v hv => by cases hv) (by simp [Builtin.firstCells, loadCells, loadCellsFrom]) (by simpa using h9.1) (by simpa using h9.2) R (Mv.refl _ _) fr
            simp only [Nat.zero_add, List.nil_append] at this
            exact ⟨by omega, this⟩
        · cases e
      · rename_i l sz' off len
        replace e := Option.bind_eq_some_iff.mp e; obtain ⟨ys, h9, e⟩ := e
        split at e
        · rename_i h10
          obtain ⟨rfl, h10, h11⟩ := h10
          cases e
          refine ⟨by omega, ?_⟩
          have hyl : ys.length = len := by
            unfold els at h9
            obtain ⟨b2, hb2, h9⟩ := Option.bind_eq_some_iff.mp h9
            split at h9
            · cases h9; simp; omega
            · cases h9
          obtain ⟨A', cap', hAe, ⟨q', hq'⟩, hold⟩ := els_sound R hx h9
          have hx' := hx
          cases hx with
          | sl _ _ _ _ _ k o cap hρ hc hk =>
            injection hAe with e1 e2 e3
            subst e1
            have hb2 : ∃ b2, h l = some b2 ∧ off + len ≤ b2.es.length ∧ ys = (b2.es.drop off).take len := by
              unfold els at h9
              obtain ⟨b2, hb2, h9⟩ := Option.bind_eq_some_iff.mp h9
              split at h9
              · cases h9; exact ⟨b2, hb2, by assumption, rfl⟩
              · cases h9
            obtain ⟨b2, hb2, hle2, hys⟩ := hb2
            obtain ⟨k2, o2, cs2, T2, hTT, g1, g2, g3, g4, g5⟩ := R.ownC hb2 hρ (have1 hk)
            rw [hρ] at g1
            obtain ⟨rfl, rfl, hbs⟩ : k = k2 ∧ o = o2 ∧ sz' = b2.sz := by cases g1; exact ⟨rfl, rfl, rfl⟩
            have hyq : ∀ r ∈ ys, r.length = sz' := fun r hr => by
              rw [hys] at hr
              rw [hbs]
              exact g4 r (List.mem_of_mem_drop (List.mem_of_mem_take hr))
            obtain ⟨olds, hol, ho1, hoc⟩ : ∃ olds, LR w.heap (FF F h ρ) ρ ys.flatten olds ∧ ones olds ∧ ∀ (i : Nat) v, olds[i]? = some v → w.cell? ((⟨k, o + off * sz', none⟩ : Addr).add i) = some v := by
              by_cases hy0 : ys = []
              · exact ⟨[], by rw [hy0]; exact LR.nil, fun v hv => (by cases hv), fun i v hv => by simp at hv⟩
              · obtain ⟨a', vs', ha', h12, h13, h14⟩ := hold hy0
                cases ha'
                exact ⟨vs', h12, h13, h14⟩
            have holl : olds.length = len * sz' := by rw [hol.1, flatten_len hyq, hyl]
            by_cases hroom : len + xs.length ≤ cap
            · -- there is room
              obtain ⟨cs3, T3, fz3, g6, g7⟩ := hk
              rw [g3] at g6
              cases g6
              have hfit : o + off * sz' + len * sz' + news.length ≤ cs2.size := by
                rw [hnlen, Nat.add_assoc, ← Nat.add_mul]
                have := Nat.mul_le_mul_right sz' hroom
                rw [Nat.add_mul] at g7
                omega
              have hrun := run_append_room_src (P := P) w t t' ty el i (slT_some h1) hi k (o + off * sz') len cap b xs.length news S hroom
                (fun j hj => by rw [hsz, cell_eq, cellH_plain g3]; simp; omega) (fun j hj => by unfold World.frozen?; simp only [g3]; simp)
              rw [hsz, setCells_row P g3 hfit hn1] at hrun
              let cs4 : Array Value := (cs2.toList.take (o + off * sz' + len * sz') ++ news ++ cs2.toList.drop (o + off * sz' + len * sz' + news.length)).toArray
              have hs4 : cs4.size = cs2.size := by
                have hz2 : cs2.size = cs2.toList.length := by simp
                simp only [cs4, List.size_toArray, List.length_append, List.length_take, List.length_drop]
                omega
              have hget : ∀ m, cs4[m]? = if o + off * sz' + len * sz' ≤ m ∧ m < o + off * sz' + len * sz' + news.length then news[m - (o + off * sz' + len * sz')]? else cs2[m]? := by
                intro m
                have hz2 : cs2.size = cs2.toList.length := by simp
                simp only [cs4, List.getElem?_toArray]
                rw [List.append_assoc]
                have hA : (cs2.toList.take (o + off * sz' + len * sz')).length = o + off * sz' + len * sz' := by rw [List.length_take]; omega
                by_cases h2 : m < o + off * sz' + len * sz'
                · rw [List.getElem?_append_left (by omega), List.getElem?_take, if_pos h2, if_neg (by omega)]
                  simp
                · rw [List.getElem?_append_right (by omega), hA]
                  by_cases h3 : m < o + off * sz' + len * sz' + news.length
                  · rw [List.getElem?_append_left (by omega), if_pos (by omega)]
                  · rw [List.getElem?_append_right (by omega), List.getElem?_drop, if_neg (by omega)]
                    rw [show o + off * sz' + len * sz' + news.length + (m - (o + off * sz' + len * sz') - news.length) = m by omega]
                    simp
              have hall : ∀ r ∈ ys ++ xs, r.length = sz' := by
                intro r hr
                rcases List.mem_append.1 hr with hr | hr
                · exact hyq r hr
                · exact hq r hr
              obtain ⟨r1, m1, s1⟩ := R.write (c := c) (o' := o + off * sz') (b := b2) (b' := ⟨sz', ys ++ xs, tyK (h l) el⟩) (cs' := cs4) (H' := (w.setRow k cs4).heap) hb2 (by rw [hρ, hbs]) g3
                (setRow_heap w k cs2 _ T2 _ g3) (fun j hj => setRow_other w k j _ hj) (by omega) (by simp) (.inr (fr c (Nat.le_refl _) (by omega))) (fun T0 ht => hTT.1 T0 (by rw [hb2] at ht; exact tyK_some ht)) (by have := hTT.2; rw [← hbs] at this; exact Nat.dvd_add this (Nat.dvd_mul_left _ _)) hall
                (fun i2 j2 x2 hx2 => by
                  simp only at hx2 ⊢
                  obtain ⟨h15, h16, h17⟩ := at2_flatten hall hx2
                  rw [List.flatten_append] at h15
                  have hyf := flatten_len hyq
                  rw [hyl] at hyf
                  by_cases h18 : i2 * sz' + j2 < len * sz'
                  · rw [List.getElem?_append_left (by omega)] at h15
                    obtain ⟨v2, hv2, hr2⟩ := hol.2 _ x2 h15
                    have := hoc _ v2 hv2
                    rw [cell_eq, add_plain, cellH_plain g3] at this
                    exact ⟨v2, by rw [hget, if_neg (by omega), Nat.add_assoc]; exact this, ones_get ho1 hv2, hr2⟩
                  · rw [List.getElem?_append_right (by omega)] at h15
                    obtain ⟨v2, hv2, hr2⟩ := hnl.2 _ x2 h15
                    have hlt := (List.getElem?_eq_some_iff.1 hv2).1
                    refine ⟨v2, ?_, ones_get hn1 hv2, hr2⟩
                    rw [hget, if_pos (by omega), show o + off * sz' + i2 * sz' + j2 - (o + off * sz' + len * sz') = i2 * sz' + j2 - ys.flatten.length by omega]
                    exact hv2)
              refine ⟨_, _, hrun, _, r1, ?_, fun m hm => if_neg (by omega), m1, ⟨rfl, rfl, rfl, by simp, fun j hj => setRow_other w k j _ (by omega)⟩⟩
              have := VR.sl (H := (w.setRow k cs4).heap) (F := FF F ((h.put l none).put c (some ⟨sz', ys ++ xs, tyK (h l) el⟩)) (fun m => if m = c then some (k, o + off * sz', sz') else ρ m)) (fun m => if m = c then some (k, o + off * sz', sz') else ρ m) c sz' 0 (len + xs.length) k (o + off * sz') cap (if_pos rfl) hroom
                ⟨cs4, T2, _, setRow_heap w k cs2 _ T2 _ g3, by rw [hs4, Nat.zero_add]; rw [Nat.add_mul] at g7; omega⟩
              rw [Nat.zero_mul, Nat.add_zero] at this
              exact this
            · -- there is none
              have hfirst : (Builtin.firstCells i.size len (.slice (some ⟨k, o + off * sz', none⟩) len cap)).run P w.drew = .ok olds.toArray w.drew :=
                run_firstCells_some w.drew i.size len _ len cap olds (by rw [hsz]; exact holl) (fun j v hj => by have := hoc j v hj; simpa using this)
              obtain ⟨Rk, mk⟩ := R.kill l
              exact grow (tyK (h l) el) (fun T0 ht => by rw [hb2] at ht; have := tyK_some' ht; omega) rfl (by omega) hyl hyq hol ho1 hfirst h10 h11 Rk mk fr
        · cases e
      · cases e
  · cases e

/-- THE COPY, of all that there is. -/
theorem copy_sound (R : Rel ρ F base h w.heap) {t t' ty el : TypeId} {l sz off n : Nat} {y : AV} {a b : Value} {bk : Blk} {xs : List (List AV)} (hx : VR w.heap (FF F h ρ) ρ (.sl l sz off n) a) (hy : VR w.heap (FF F h ρ) ρ y b)
    (h1 : slT P t = some el) (h2 : szT P el = some sz) (hb2 : h l = some bk) (h5 : srcA h y = some xs) (ht' : okSrc P t' y = true) (h7 : AM.hd xs sz = true) (hle2 : off + n ≤ bk.es.length) (hn : xs.length ≤ n) :
    ∃ w', (Builtin.copy_ #[t, t'] ty #[a, b]).run P w = .ok (.int .i64 xs.length) w' ∧ ∃ ρ', Good ρ F base h w c (.val (.int .i64 xs.length)) (h.put l (some { bk with es := bk.es.take off ++ xs ++ bk.es.drop (off + xs.length) })) c (.int .i64 xs.length) w' ρ' := by
  obtain ⟨⟨q, hq⟩, _, hsrc, hemp⟩ := src_sound (t' := t') R hy ht' h5
  cases hx with
  | sl _ _ _ _ _ k o cap hρ hc hk =>
    have hsize : (sizeOf el).run P w = .ok sz w := run_sz h2 w
    by_cases hne : xs = []
    · subst hne
      obtain ⟨g1, g2⟩ := hemp rfl
      refine ⟨w, ?_, ρ, ?_⟩
      · simp [Builtin.copy_, run_underlying (slT_some h1), g1, g2, hsize, storeCells, goInt]
      · have e : h.put l (some { bk with es := bk.es.take off ++ [] ++ bk.es.drop (off + ([] : List (List AV)).length) }) = h := by
          funext m
          simp only [Heap.put]
          by_cases e : m = l
          · subst e
            rw [if_pos rfl, hb2]
            simp
          · rw [if_neg e]
        rw [e]
        exact good_same R (.val _ _ rfl)
    · obtain ⟨news, hnl, hn1, hS⟩ := hsrc hne
      have hqsz : q = sz := by
        cases xs with
        | nil => exact absurd rfl hne
        | cons r xs =>
          have := hq r (by simp)
          simp [AM.hd] at h7
          omega
      subst hqsz
      have S := hS q hq
      have hfl := flatten_len hq
      have hnlen : news.length = xs.length * q := by rw [hnl.1, hfl]
      obtain ⟨k2, o2, cs2, T2, hTT, g1, g2, g3, g4, g5⟩ := R.ownC hb2 hρ (have1 hk)
      rw [hρ] at g1
      obtain ⟨rfl, rfl, hbs⟩ : k = k2 ∧ o = o2 ∧ q = bk.sz := by cases g1; exact ⟨rfl, rfl, rfl⟩
      obtain ⟨cs3, T3, fz3, g6, g7⟩ := hk
      rw [g3] at g6
      cases g6
      have hfit : o + off * q + news.length ≤ cs2.size := by
        rw [hnlen, Nat.add_assoc, ← Nat.add_mul]
        have := Nat.mul_le_mul_right q (show off + xs.length ≤ off + cap by omega)
        omega
      have hrow := setCells_row P g3 hfit hn1
      have hstore := run_storeCells_cells (P := P) k (o + off * q) news 0 w (fun j hj => by rw [cell_eq, cellH_plain g3]; simp; omega) (fun j hj => by unfold World.frozen?; simp only [g3]; simp) hn1
      simp only [Nat.add_zero] at hstore
      rw [hrow] at hstore
      let cs4 : Array Value := (cs2.toList.take (o + off * q) ++ news ++ cs2.toList.drop (o + off * q + news.length)).toArray
      have hs4 : cs4.size = cs2.size := by
        have hz2 : cs2.size = cs2.toList.length := by simp
        simp only [cs4, List.size_toArray, List.length_append, List.length_take, List.length_drop]
        omega
      have hget : ∀ m, cs4[m]? = if o + off * q ≤ m ∧ m < o + off * q + news.length then news[m - (o + off * q)]? else cs2[m]? := by
        intro m
        have hz2 : cs2.size = cs2.toList.length := by simp
        simp only [cs4, List.getElem?_toArray]
        rw [List.append_assoc]
        have hA : (cs2.toList.take (o + off * q)).length = o + off * q := by rw [List.length_take]; omega
        by_cases h2 : m < o + off * q
        · rw [List.getElem?_append_left (by omega), List.getElem?_take, if_pos h2, if_neg (by omega)]
          simp
        · rw [List.getElem?_append_right (by omega), hA]
          by_cases h3 : m < o + off * q + news.length
          · rw [List.getElem?_append_left (by omega), if_pos (by omega)]
          · rw [List.getElem?_append_right (by omega), List.getElem?_drop, if_neg (by omega)]
            rw [show o + off * q + news.length + (m - (o + off * q) - news.length) = m by omega]
            simp
      have hes : ∀ i2, (bk.es.take off ++ xs ++ bk.es.drop (off + xs.length))[i2]? = if off ≤ i2 ∧ i2 < off + xs.length then xs[i2 - off]? else bk.es[i2]? := by
        intro i2
        have hA : (bk.es.take off).length = off := by rw [List.length_take]; omega
        rw [List.append_assoc]
        by_cases h2 : i2 < off
        · rw [List.getElem?_append_left (by omega), List.getElem?_take, if_pos h2, if_neg (by omega)]
        · rw [List.getElem?_append_right (by omega), hA]
          by_cases h3 : i2 < off + xs.length
          · rw [List.getElem?_append_left (by omega), if_pos (by omega)]
          · rw [List.getElem?_append_right (by omega), List.getElem?_drop, if_neg (by omega)]
            rw [show off + xs.length + (i2 - off - xs.length) = i2 by omega]
      obtain ⟨r1, m1, s1⟩ := R.write (c := l) (o' := o) (b := bk) (b' := { bk with es := bk.es.take off ++ xs ++ bk.es.drop (off + xs.length) }) (cs' := cs4) (H' := (w.setRow k cs4).heap) hb2 (by rw [hρ, hbs]) g3
        (setRow_heap w k cs2 _ T2 _ g3) (fun j hj => setRow_other w k j _ hj) (by omega) (by simp) (.inl ⟨rfl, rfl, rfl⟩) (fun T0 ht => hTT.1 T0 ht) hTT.2
        (fun r hr => by
          rcases List.mem_append.1 hr with hr | hr
          · rcases List.mem_append.1 hr with hr | hr
            · exact g4 r (List.mem_of_mem_take hr)
            · rw [hq r hr]; exact hbs
          · exact g4 r (List.mem_of_mem_drop hr))
        (fun i2 j2 x2 hx2 => by
          simp only at hx2 ⊢
          unfold at2 at hx2
          rw [hes] at hx2
          rw [← hbs]
          by_cases hin : off ≤ i2 ∧ i2 < off + xs.length
          · rw [if_pos hin] at hx2
            obtain ⟨r, hr, hj⟩ := Option.bind_eq_some_iff.mp hx2
            have hrl := hq r (List.mem_of_getElem? hr)
            have hjl := (List.getElem?_eq_some_iff.1 hj).1
            obtain ⟨h15, h16, _⟩ := at2_flatten (i := i2 - off) (j := j2) (x := x2) hq (by unfold at2; rw [hr]; exact hj)
            obtain ⟨v2, hv2, hr2⟩ := hnl.2 _ x2 h15
            have hlt := (List.getElem?_eq_some_iff.1 hv2).1
            refine ⟨v2, ?_, ones_get hn1 hv2, hr2⟩
            have hmul : i2 * q = off * q + (i2 - off) * q := by rw [← Nat.add_mul]; congr 1; omega
            rw [hget, if_pos (by omega), show o + i2 * q + j2 - (o + off * q) = (i2 - off) * q + j2 by omega]
            exact hv2
          · rw [if_neg hin] at hx2
            obtain ⟨r, hr, hj⟩ := Option.bind_eq_some_iff.mp hx2
            have hrl := g4 r (List.mem_of_getElem? hr)
            have hjl := (List.getElem?_eq_some_iff.1 hj).1
            obtain ⟨v2, hv2, h6, h8⟩ := g5 i2 j2 x2 (by unfold at2; rw [hr]; exact hj)
            refine ⟨v2, ?_, h6, h8⟩
            rw [← hbs] at hv2
            rw [hget, if_neg, hv2]
            rw [hnlen]
            rintro ⟨h9, h10⟩
            replace h10 : i2 * q + j2 < off * q + xs.length * q := by omega
            rw [← Nat.add_mul] at h10
            by_cases h11 : i2 < off
            · have : i2 * q + q ≤ off * q := by rw [← Nat.succ_mul]; exact Nat.mul_le_mul_right q h11
              omega
            · have h12 : off + xs.length ≤ i2 := by omega
              have := Nat.mul_le_mul_right q h12
              omega)
      have hheap : (h.put l none).put l (some { bk with es := bk.es.take off ++ xs ++ bk.es.drop (off + xs.length) }) = h.put l (some { bk with es := bk.es.take off ++ xs ++ bk.es.drop (off + xs.length) }) := by
        funext m
        simp only [Heap.put]
        by_cases e : m = l
        · rw [if_pos e, if_pos e]
        · rw [if_neg e, if_neg e, if_neg e]
      have hρe : (fun m => if m = l then some (k, o, bk.sz) else ρ m) = ρ := by
        funext m
        by_cases e : m = l
        · subst e; rw [if_pos rfl, hρ, hbs]
        · rw [if_neg e]
      rw [hheap] at r1 m1
      simp only at r1 m1
      rw [hρe] at r1 m1
      refine ⟨w.setRow k cs4, ?_, ρ, r1, .val _ _ rfl, fun _ _ => rfl, m1, ⟨rfl, rfl, rfl, by simp, fun j hj => setRow_other w k j _ (by omega)⟩⟩
      have hmin : Nat.min xs.length n = xs.length := Nat.min_eq_left hn
      have hlenb := S.len w
      have hcells := S.cells
      simp [Builtin.copy_, run_underlying (slT_some h1), hlenb, hcells, hsize, hmin, hstore, goInt, cs4]

end
end Go.Proofs.YtgbdbenepnbajaaGreatDoor.AM
namespace Go.Proofs.YtgbdbenepnbajaaGreatDoor.AM
open Go Go.RowKit
set_option linter.unusedVariables false
set_option linter.unusedSimpArgs false

section
variable {P : Program} {ρ : Pls} {F : Nat → Prop} {base : Nat} {h : Heap} {w : World} {c : Nat}

theorem liesAt_row {e s count off i n : Nat} (hs : P.cellsOf e = s) (h0 : s ≠ 0) (ho : off = i * s) (hn : i + n ≤ count) : liesAt P P.depth e count off e n = true := by
  have hd : P.depth = (2 * (P.types.size + Made.depth) + 1) + 1 := rfl
  rw [hd]
  simp only [liesAt, Bool.or_eq_true]
  left
  rw [hd]
  have h1 : off / s = i := by rw [ho, Nat.mul_div_cancel _ (by omega)]
  have h2 : off % s = 0 := by rw [ho, Nat.mul_mod_left]
  simp [rowAt, hs, h0, h1, h2, hn, sameLayout]

theorem szT_cells {e s : Nat} (h : szT P e = some s) : P.cellsOf e = s := by
  unfold szT at h
  unfold Program.cellsOf
  rw [h]
  rfl

theorem usT_some {t : TypeId} (h : usT P t = true) : P.underlying t = some .unsafePointer := by
  unfold usT at h
  split at h
  · assumption
  · cases h

theorem shape_of {w : World} {k : Nat} {cs : Array Value} {T : TypeId} {fz : Nat × Nat} (h : w.heap[k]? = some (Obj.cells cs T fz)) : w.shape? k = some (T, cs.size) := by
  unfold World.shape?
  rw [h]

/-- What is known where a pointer leads into a row of its own. -/
theorem ptr_at (R : Rel ρ F base h w.heap) {l i : Nat} {b : Blk} {y : Value} (hx : VR w.heap (FF F h ρ) ρ (.ptr l i 0) y) (hb : h l = some b) (hi : i < b.es.length) (hz : 0 < b.sz) :
    ∃ (k o : Nat) (cs : Array Value) (T : TypeId), y = .pointer (some ⟨k, o + i * b.sz, none⟩) ∧ ρ l = some (k, o, b.sz) ∧ (∀ T0, b.ty = some T0 → T = T0) ∧ b.sz ∣ o ∧ base ≤ k ∧ w.heap[k]? = some (Obj.cells cs T (0, 0)) ∧ (∀ e ∈ b.es, e.length = b.sz) ∧
      (∀ i j x, at2 b.es i j = some x → ∃ v, cs[o + i * b.sz + j]? = some v ∧ v.oneCell' = true ∧ VR w.heap (FF F h ρ) ρ x v) ∧ o + b.es.length * b.sz ≤ cs.size := by
  cases hx with
  | ptr _ _ _ _ k o sz hρ hk =>
    obtain ⟨k2, o2, cs, T, hTT, g1, g2, g3, g4, g5⟩ := R.ownC hb hρ hk
    rw [hρ] at g1
    obtain ⟨rfl, rfl, rfl⟩ : k = k2 ∧ o = o2 ∧ sz = b.sz := by cases g1; exact ⟨rfl, rfl, rfl⟩
    refine ⟨k, o, cs, T, rfl, hρ, hTT.1, hTT.2, g2, g3, g4, g5, ?_⟩
    obtain ⟨m, hm⟩ : ∃ m, b.es.length = m + 1 := ⟨b.es.length - 1, by omega⟩
    have hr := g4 _ (List.getElem_mem (l := b.es) (n := m) (by omega))
    have : at2 b.es m (b.sz - 1) = some (b.es[m]'(by omega))[b.sz - 1] := by
      unfold at2
      rw [List.getElem?_eq_getElem (by omega)]
      simp only [Option.bind_some]
      rw [List.getElem?_eq_getElem (by omega)]
    obtain ⟨v, hv, _⟩ := g5 _ _ _ this
    have := (Array.getElem?_eq_some_iff.1 hv).1
    rw [hm, Nat.add_mul]
    omega

/-- A pointer as unsafe.Pointer, and back. -/
theorem uns_sound {src dst : TypeId} (R : Rel ρ F base h w.heap) {l i f : Nat} {v : AV} {y : Value} (hx : VR w.heap (FF F h ρ) ρ (.ptr l i f) y) (e : convA P src dst h (.ptr l i f) = some v) :
    ∃ z, VR w.heap (FF F h ρ) ρ v z ∧ (convert src dst y).run P w = .ok z w := by
  unfold convA at e
  simp only at e
  split at e
  · rename_i hf
    subst hf
    obtain ⟨b, hb, e⟩ := Option.bind_eq_some_iff.mp e
    split at e
    · rename_i hib
      obtain ⟨k, o, cs, T, rfl, hρ, hT, hd, hbk, g3, g4, g5, hsz⟩ := ptr_at R hx hb hib.1 hib.2
      have hmul : i * b.sz + b.sz ≤ b.es.length * b.sz := by rw [← Nat.succ_mul]; exact Nat.mul_le_mul_right _ hib.1
      split at e
      · rename_i t ht _
        split at e
        · rename_i hc
          cases e
          simp only [Bool.and_eq_true, beq_iff_eq] at hc
          obtain ⟨q1, j, q2⟩ := ptT_some ht
          refine ⟨_, hx, Go.Lib.run_to_unsafe w ⟨k, o + i * b.sz, none⟩ q1 (usT_some hc.1) q2 ?_ (shape_of g3) (by show o + i * b.sz < cs.size; omega)⟩
          have := hc.2
          unfold szT at this
          rw [q2] at this
          simp at this
          omega
        · cases e
      · rename_i u _ hu
        split at e
        · rename_i hc
          cases e
          simp only [Bool.and_eq_true, beq_iff_eq] at hc
          obtain ⟨q1, j, q2⟩ := ptT_some hu
          obtain rfl : T = u := hT _ hc.2
          have hcel := szT_cells hc.1.2
          obtain ⟨q, hq⟩ := hd
          refine ⟨_, hx, Go.Lib.run_from_unsafe w ⟨k, o + i * b.sz, none⟩ (usT_some hc.1.1) q1 q2 (shape_of g3) (liesAt_row (i := q + i) hcel (by omega) (by show o + i * b.sz = _; rw [hq, Nat.add_mul, Nat.mul_comm b.sz q]) ?_)⟩
          rw [hcel, Nat.le_div_iff_mul_le hib.2, Nat.add_mul, Nat.add_mul, Nat.mul_comm q, ← hq]
          omega
        · cases e
      · cases e
    · cases e
  · cases e

theorem freeze_heap (w : World) (k a n : Nat) (hn : n ≠ 0) : (w.freeze ⟨k, a, none⟩ n).heap.size = w.heap.size ∧ (∀ j, j ≠ k → (w.freeze ⟨k, a, none⟩ n).heap[j]? = w.heap[j]?) ∧
    ∀ (cs : Array Value) (T : TypeId) (fz : Nat × Nat), w.heap[k]? = some (Obj.cells cs T fz) → ∃ fz', (w.freeze ⟨k, a, none⟩ n).heap[k]? = some (Obj.cells cs T fz') := by
  unfold World.freeze
  rw [if_neg hn]
  refine ⟨by simp, fun j hj => ?_, fun cs T fz hk => ?_⟩
  · simp only [Array.getElem?_modify]
    rw [if_neg (fun e => hj e.symm)]
  · simp only [Array.getElem?_modify, if_true, hk]
    exact ⟨_, rfl⟩

/-- A row that is given up, and frozen. -/
theorem Rel.frozen (R : Rel ρ F base h w.heap) {l k o a n : Nat} {b : Blk} (hn : n ≠ 0) (hb : h l = some b) (hρ : ρ l = some (k, o, b.sz)) :
    Rel ρ F base (h.put l none) (w.freeze ⟨k, a, none⟩ n).heap ∧ Mv w.heap (FF F h ρ) (w.freeze ⟨k, a, none⟩ n).heap (FF F (h.put l none) ρ) := by
  obtain ⟨f1, f2, f3⟩ := freeze_heap w k a n hn
  obtain ⟨R', m⟩ := R.kill l
  have mv : Mv w.heap (FF F h ρ) (w.freeze ⟨k, a, none⟩ n).heap (FF F (h.put l none) ρ) := by
    refine ⟨fun j hj hF => ⟨(m.st j hj hF).1, f2 j fun e => hF (.inr ⟨l, b, _, hb, hρ, e.symm⟩)⟩, fun j cs T fz hj => ?_, by omega⟩
    by_cases e : j = k
    · subst e
      obtain ⟨fz', h1⟩ := f3 cs T fz hj
      exact ⟨cs, T, fz', h1, Nat.le_refl _⟩
    · exact ⟨cs, T, fz, by rw [f2 j e]; exact hj, Nat.le_refl _⟩
  refine ⟨⟨fun x b2 hx => ?_, R'.inj, fun x p hp => by have := R.bd x p hp; omega, R.gb, glOk_stable (fun j hj _ => f2 j (by obtain ⟨k2, o2, h1, h2, _⟩ := R.own l b hb; rw [hρ] at h1; cases h1; have := R.gb; omega)) R.gl⟩, mv⟩
  unfold Heap.put at hx
  split at hx
  · cases hx
  · rename_i e1
    obtain ⟨k2, o2, h1, h2, h3⟩ := R.own x b2 hx
    exact ⟨k2, o2, h1, h2, h3.mono (f2 k2 (R.inj x l b2 b _ _ hx hb e1 h1 hρ)) mv.toC (Sub.refl _)⟩

theorem byteA_some {r : List AV} {b : UInt8} (hb : byteA r = some b) : r = [.val (.int .u8 b.toNat)] := by
  unfold byteA at hb
  split at hb
  · rename_i n
    split at hb
    · rename_i hn
      cases hb
      have : ((UInt8.ofNat n.toNat).toNat : Int) = n := by
        have h256 : n.toNat < 256 := by omega
        rw [UInt8.toNat_ofNat_of_lt' (by exact h256)]
        omega
      rw [this]
    · cases hb
  · cases hb

theorem bytes_of : ∀ {es : List (List AV)} {bs : List UInt8}, es.mapM byteA = some bs → es = bs.map fun b => [.val (.int .u8 b.toNat)]
  | [], bs, e => by simp at e; subst e; rfl
  | r :: es, bs, e => by
    simp only [List.mapM_cons, Option.bind_eq_bind, Option.pure_def] at e
    obtain ⟨b, g1, e⟩ := Option.bind_eq_some_iff.mp e
    obtain ⟨bs', g2, e⟩ := Option.bind_eq_some_iff.mp e
    cases e
    rw [byteA_some g1, bytes_of g2]
    rfl

/-- unsafe.String over a row of bytes. -/
theorem run_unsafeString_at (w : World) (pt it ty e : TypeId) (hp : P.underlying pt = some (.pointer e)) (hc : P.cellsOf e = 1) (g o cells : Nat) (hsh : w.shape? g = some (e, cells)) (l : List UInt8) (h0 : l ≠ []) (hn : o + l.length ≤ cells) (h63 : l.length ≤ 9223372036854775807)
    (hcell : ∀ j x, l[j]? = some x → w.cell? ((⟨g, o, none⟩ : Addr).add j) = some (.int .u8 x.toNat)) :
    (Builtin.unsafeString_ #[pt, it] ty #[.pointer (some ⟨g, o, none⟩), .int .i64 l.length]).run P w = .ok (.string ⟨l.toArray⟩) (w.freeze ⟨g, o, none⟩ l.length) := by
  have hl : l.length ≠ 0 := by simpa using h0
  have hlb := Go.Lib.run_loadBytes (P := P) w l ⟨g, o, none⟩ .empty hcell
  have hlies : liesAt P P.depth e (cells / P.cellsOf e) o e l.length = true := liesAt_row (s := 1) (i := o) hc (by omega) (by simp) (by rw [hc]; simpa using hn)
  have h63' : ¬ (9223372036854775807 : Int) < (l.length : Int) := by omega
  have hmax : IntKind.i64.max = 9223372036854775807 := rfl
  have hneg : ¬ (l.length : Int) < 0 := by omega
  show Sem.run P (do
        let n ← asInt (.int .i64 l.length)
        if n < 0 then runtimePanic (.error _)
        if n > IntKind.i64.max then unsupported (.unsafePointer _)
        if n = 0 then pure (Value.string .empty)
        else if ← variablesAt ⟨g, o, none⟩ (← elemOf pt) n.toNat then do
          let s ← loadBytes ⟨g, o, none⟩ .empty n.toNat
          freeze ⟨g, o, none⟩ n.toNat
          pure (Value.string s)
        else unsupported (.unsafePointer _)) w = _
  simp [asInt, asIntOf, hmax, h63', hneg, hl, variablesAt, hsh, elemOf, run_underlying hp, hlies, hlb]

/-- A STRING OF A ROW, in place: the row is given up. -/
theorem unsStr_sound (R : Rel ρ F base h w.heap) {pt it ty : TypeId} {l i : Nat} {n : Int} {y : Value} {b : Blk} {bs : List UInt8} (hx : VR w.heap (FF F h ρ) ρ (.ptr l i 0) y) (hb : h l = some b)
    (h0 : 0 < n) (hr : n ≤ room) (hle : i + n.toNat ≤ b.es.length) (h1 : b.sz = 1) (ht : b.ty = ptT P pt) (hc : (ptT P pt).bind (szT P) = some 1) (hbs : ((b.es.drop i).take n.toNat).mapM byteA = some bs) :
    ∃ w', (Builtin.unsafeString_ #[pt, it] ty #[y, .int .i64 n]).run P w = .ok (.string ⟨bs.toArray⟩) w' ∧ ∃ ρ', Good ρ F base h w c (.val (.string ⟨bs.toArray⟩)) (h.put l none) c (.string ⟨bs.toArray⟩) w' ρ' := by
  obtain ⟨e, he, hc⟩ := Option.bind_eq_some_iff.mp hc
  rw [he] at ht
  obtain ⟨k, o, cs, T, rfl, hρ, hT, hd, hbk, g3, g4, g5, hsz⟩ := ptr_at R hx hb (by omega) (by omega)
  obtain rfl : T = e := hT _ ht
  have hrows := bytes_of hbs
  have hlen : bs.length = n.toNat := by
    have := congrArg List.length hrows
    simp only [List.length_take, List.length_drop, List.length_map] at this
    omega
  have hroom : room = 140737488355328 := rfl
  have hnz : bs.length ≠ 0 := by omega
  have hrun := run_unsafeString_at (P := P) w pt it ty T (ptT_some he).1 (szT_cells hc) k (o + i * b.sz) cs.size (shape_of g3) bs (by intro h; subst h; exact hnz rfl) (by rw [h1] at hsz ⊢; omega) (by omega)
    (fun j x hj => by
      have hj' : b.es[i + j]? = some [.val (.int .u8 x.toNat)] := by
        have h3 : (((b.es.drop i).take n.toNat))[j]? = some [AV.val (.int .u8 x.toNat)] := by rw [hrows, List.getElem?_map, hj]; rfl
        rw [List.getElem?_take] at h3
        split at h3
        · rw [List.getElem?_drop] at h3; exact h3
        · cases h3
      obtain ⟨v, hv, _, hvr⟩ := g5 (i + j) 0 (.val (.int .u8 x.toNat)) (by unfold at2; rw [hj']; rfl)
      cases hvr
      rw [cell_eq, add_plain, cellH_plain g3]
      rw [← hv]
      congr 1
      rw [h1]
      omega)
  rw [hlen] at hrun
  obtain ⟨r1, m1⟩ := R.frozen (a := o + i * b.sz) (n := n.toNat) (by omega) hb hρ
  have hn2 : ((n.toNat : Nat) : Int) = n := by omega
  rw [hn2] at hrun
  obtain ⟨f1, f2, f3⟩ := freeze_heap w k (o + i * b.sz) n.toNat (by omega)
  refine ⟨_, hrun, ρ, r1, .val _ _ rfl, fun _ _ => rfl, m1, ⟨?_, ?_, ?_, by omega, fun j hj => f2 j (by omega)⟩⟩
  all_goals (unfold World.freeze; rw [if_neg (by omega)])

/-- The address of a row's first element. -/
theorem data_sound (R : Rel ρ F base h w.heap) {ts : Array TypeId} {ty : TypeId} {l sz off n : Nat} {y : Value} (hx : VR w.heap (FF F h ρ) ρ (.sl l sz off n) y) (hn : 0 < n) :
    ∃ z, (Builtin.unsafeSliceData_ ts ty #[y]).run P w = .ok z w ∧ VR w.heap (FF F h ρ) ρ (.ptr l off 0) z := by
  cases hx with
  | sl _ _ _ _ _ k o cap hρ hc hk =>
    exact ⟨_, Go.Lib.run_unsafeSliceData_row w ts ty _ n cap (by omega), .ptr ρ l off 0 k o sz hρ (have1 hk)⟩

end
end Go.Proofs.YtgbdbenepnbajaaGreatDoor.AM
namespace Go.Proofs.YtgbdbenepnbajaaGreatDoor.AM
open Go Go.RowKit
set_option linter.unusedVariables false
set_option linter.unusedSimpArgs false

abbrev mrows (l : List MapEntry) : List (List AV) := l.map fun e => [.val e.key, .val e.val]

theorem bytes_ne {a b : ByteArray} (h : (a == b) = false) : (b == a) = false := by
  cases h2 : (b == a)
  · rfl
  · have := (MapKept.bytes_beq b a).1 h2
    subst this
    rw [h] at h2
    cases h2

theorem get_now (s : ByteArray) : ∀ (l : List MapEntry) (i : Nat) (r : Option AV), mpGet s (mrows l) = some r →
    (r = none ∧ Instr.findNow .string (.string s) l i = some none) ∨ ∃ j e, r = some (.val e.val) ∧ Instr.findNow .string (.string s) l i = some (some (i + j, e.val)) ∧ l[j]? = some e
  | [], i, r, h => by cases h; exact .inl ⟨rfl, rfl⟩
  | e :: l, i, r, h => by
    obtain ⟨key, val, born⟩ := e
    cases key <;> simp only [mrows, List.map_cons, mpGet] at h
    case string k =>
      cases hk : (k == s)
      · rw [hk] at h
        simp only [Bool.false_eq_true, if_false] at h
        have hn : Instr.sameNow .string (.string s) (.string k) = some false := by show some (s == k) = _; rw [bytes_ne hk]
        rcases get_now s l (i + 1) r h with ⟨h1, h2⟩ | ⟨j, e, h1, h2, h3⟩
        · exact .inl ⟨h1, by simp [Instr.findNow, hn, h2]⟩
        · exact .inr ⟨j + 1, e, h1, by simp [Instr.findNow, hn, h2]; omega, by simpa using h3⟩
      · rw [hk] at h
        simp only [if_true, Option.some.injEq] at h
        subst h
        have e := (MapKept.bytes_beq k s).1 hk
        subst e
        have hn : Instr.sameNow .string (.string k) (.string k) = some true := by show some (k == k) = _; rw [hk]
        exact .inr ⟨0, ⟨.string k, val, born⟩, rfl, by simp [Instr.findNow, hn], rfl⟩
    all_goals cases h

theorem set_now (s : ByteArray) (x : AV) : ∀ (l : List MapEntry) (i : Nat) (rows : List (List AV)), mpSet s x (mrows l) = some rows →
    (Instr.findNow .string (.string s) l i = some none ∧ rows = mrows l ++ [[.val (.string s), x]]) ∨
    ∃ j e, Instr.findNow .string (.string s) l i = some (some (i + j, e.val)) ∧ l[j]? = some e ∧ e.key = .string s ∧ rows = (mrows l).set j [.val (.string s), x]
  | [], i, rows, h => by cases h; exact .inl ⟨rfl, rfl⟩
  | e :: l, i, rows, h => by
    obtain ⟨key, val, born⟩ := e
    cases key <;> simp only [mrows, List.map_cons, mpSet] at h
    case string k =>
      cases hk : (k == s)
      · rw [hk] at h
        simp only [Bool.false_eq_true, if_false] at h
        obtain ⟨r, h0, rfl⟩ := Option.map_eq_some_iff.mp h
        have hn : Instr.sameNow .string (.string s) (.string k) = some false := by show some (s == k) = _; rw [bytes_ne hk]
        rcases set_now s x l (i + 1) r h0 with ⟨h1, h2⟩ | ⟨j, e, h1, h2, h3, h4⟩
        · exact .inl ⟨by simp [Instr.findNow, hn, h1], by rw [h2]; rfl⟩
        · exact .inr ⟨j + 1, e, by simp [Instr.findNow, hn, h1]; omega, by simpa using h2, h3, by rw [h4]; rfl⟩
      · rw [hk] at h
        simp only [if_true, Option.some.injEq] at h
        subst h
        have e := (MapKept.bytes_beq k s).1 hk
        subst e
        have hn : Instr.sameNow .string (.string k) (.string k) = some true := by show some (k == k) = _; rw [hk]
        exact .inr ⟨0, ⟨.string k, val, born⟩, by simp [Instr.findNow, hn], rfl, rfl, rfl⟩
    all_goals cases h

section
variable {P : Program} {ρ : Pls} {F : Nat → Prop} {base : Nat} {h : Heap} {w : World} {c : Nat}

theorem mpT_some {t e : TypeId} (h : mpT P t = some e) : ∃ k, P.underlying t = some (.map k e) ∧ P.underlying k = some .string := by
  unfold mpT at h
  obtain ⟨d, h1, h⟩ := Option.bind_eq_some_iff.mp h
  split at h
  · split at h
    · rename_i k e2 hs
      cases h
      refine ⟨k, h1, ?_⟩
      unfold stT at hs
      split at hs
      · assumption
      · cases hs
    · cases h
  · cases h

theorem mpOf_some {b : Option Blk} {es : List (List AV)} (h : mpOf b = some es) : ∃ z ty, b = some ⟨z, [[.mpr es]], ty⟩ := by
  unfold mpOf at h
  split at h
  · cases h; exact ⟨_, _, rfl⟩
  · cases h

/-- The map that a name leads to. -/
theorem own_mp {H : Array Obj} {l : Nat} {es : List (List AV)} (R : Rel ρ F base h H) (hp : mpOf (h l) = some es) :
    ∃ (k : Nat) (ents : Array MapEntry) (cl : Nat) (b : Blk), h l = some b ∧ b.sz = 0 ∧ ρ l = some (k, 0, 0) ∧ base ≤ k ∧ H[k]? = some (.map ents cl) ∧ es = mrows ents.toList ∧ ∀ e ∈ ents.toList, e.val.oneCell' = true := by
  obtain ⟨z, ty, hb⟩ := mpOf_some hp
  obtain ⟨k, o, h1, h2, h3⟩ := R.own l _ hb
  cases h3 with
  | cells cs T hk hT hd hs hv =>
    obtain ⟨v, _, _, hr⟩ := hv 0 0 _ rfl
    cases hr
  | loop st j m t ps a' b' r ho hb' hk =>
    injection hb' with _ hb' _
    simp at hb'
  | map es2 ents cl ho hb' hk hr hv =>
    subst ho
    unfold mpBlk at hb'
    injection hb' with hz hb' _
    simp only [List.cons.injEq, AV.mpr.injEq, and_true] at hb'
    subst hz
    exact ⟨k, ents, cl, _, hb, rfl, h1, h2, hk, by rw [hb']; exact hr, hv⟩

/-- A NEW MAP. -/
theorem mkMap_sound (R : Rel ρ F base h w.heap) (hb : base ≤ w.heap.size) (t : TypeId) (fr : Fr ρ c (c + 1)) :
    (Instr.makeMap t none).run P w = .ok (.map (some w.heap.size)) (w.alloc (.map #[] 0)) ∧ ∃ ρ', Good ρ F base h w c (.mp c) (h.put c (some (mpBlk []))) (c + 1) (.map (some w.heap.size)) (w.alloc (.map #[] 0)) ρ' := by
  refine ⟨rfl, ?_⟩
  have hc : ρ c = none := fr c (Nat.le_refl _) (by omega)
  obtain ⟨r, m⟩ := R.newB hc hb (mpBlk []) (.map #[] 0) (fun F' ρ' m s hk => .map [] #[] 0 rfl rfl hk rfl (by simp))
  refine ⟨_, r, .mp _ c w.heap.size (if_pos rfl), fun l hl => if_neg (by omega), m, (Below.refl _ _).alloc hb _⟩

/-- A map that turns. -/
theorem turn_mp {l k cl cl' : Nat} {b : Blk} {ents ents' : Array MapEntry} {es' : List (List AV)} (R : Rel ρ F base h w.heap) (hl : h l = some b) (hz : b.sz = 0) (hρ : ρ l = some (k, 0, 0)) (hk : w.heap[k]? = some (.map ents cl))
    (hr : es' = mrows ents'.toList) (hv : ∀ e ∈ ents'.toList, e.val.oneCell' = true) :
    Rel ρ F base (h.put l (some (mpBlk es'))) (w.putObj k (.map ents' cl')).heap ∧ Mv w.heap (FF F h ρ) (w.putObj k (.map ents' cl')).heap (FF F (h.put l (some (mpBlk es'))) ρ) := by
  have hlt := getElem_lt hk
  have h9 := R.writeB (l := l) (c := l) (k := k) (o := 0) (o' := 0) (b := b) (b' := mpBlk es') (H' := (w.putObj k (.map ents' cl')).heap) hl (by rw [hz]; exact hρ) hlt (fun j hj => World.putObj_heap_other hj)
    (fun cs T fz hc => by rw [hk] at hc; cases hc) World.putObj_size (.inl ⟨rfl, rfl, hz.symm⟩)
    (fun F' ρ' m s => .map es' ents' cl' rfl rfl (World.putObj_heap_same hlt) hr hv)
  have e1 : (fun m => if m = l then some (k, 0, (mpBlk es').sz) else ρ m) = ρ := by
    funext m
    by_cases e : m = l
    · subst e; rw [if_pos rfl, hρ]; rfl
    · rw [if_neg e]
  have e2 : (h.put l none).put l (some (mpBlk es')) = h.put l (some (mpBlk es')) := by
    funext m
    simp only [Heap.put]
    by_cases e : m = l
    · rw [if_pos e, if_pos e]
    · rw [if_neg e, if_neg e, if_neg e]
  rw [e1, e2] at h9
  exact ⟨h9.1, h9.2.1⟩

theorem setMap_sound {mt e : TypeId} {l : Nat} {s : ByteArray} {v : Value} {es es' : List (List AV)} {y : Value} (R : Rel ρ F base h w.heap) (ht : mpT P mt = some e) (hx : VR w.heap (FF F h ρ) ρ (.mp l) y) (hp : mpOf (h l) = some es) (h1 : v.oneCell' = true) (hs : mpSet s (.val v) es = some es') :
    ∃ w', (Instr.mapUpdate mt y (.string s) v).run P w = .ok () w' ∧ ∃ ρ', Good ρ F base h w c .bad (h.put l (some (mpBlk es'))) c undef w' ρ' := by
  obtain ⟨kt, hm, hd⟩ := mpT_some ht
  obtain ⟨k, ents, cl, b, g1, g2, g3, g4, g5, rfl, g7⟩ := own_mp R hp
  cases hx with
  | mp _ _ k' hρ =>
    rw [g3] at hρ
    cases hρ
    have hkey : MapKept.IsKey .string (.string s) := trivial
    rcases set_now s (.val v) ents.toList 0 es' hs with ⟨f1, f2⟩ | ⟨j, en, f1, f2, f3, f4⟩
    · have hrun : (Instr.mapUpdate mt (.map (some k)) (.string s) v).run P w = .ok () (w.putObj k (.map (ents.push { key := .string s, val := v, born := cl }) (cl + 1))) := by
        simp [Instr.mapUpdate, run_underlying hm, MapKept.run_getObj_map g5, MapKept.run_checkKey hd hkey, MapKept.run_findKey hd f1, MapKept.run_setObj_map _ g5, Result.andThen]
        rfl
      obtain ⟨r, m⟩ := turn_mp (es' := es') (ents' := ents.push { key := .string s, val := v, born := cl }) (cl' := cl + 1) R g1 g2 g3 g5 (by rw [f2]; simp [mrows]) (fun e he => by
        simp at he
        rcases he with he | rfl
        · exact g7 e (by simpa using he)
        · exact h1)
      exact ⟨_, hrun, ρ, r, .bad _ _, fun _ _ => rfl, m, ⟨rfl, rfl, rfl, by rw [World.putObj_size]; exact Nat.le_refl _, fun q hq => World.putObj_heap_other (by omega)⟩⟩
    · have hj : ents[j]? = some en := by simpa using f2
      have hrun : (Instr.mapUpdate mt (.map (some k)) (.string s) v).run P w = .ok () (w.putObj k (.map (ents.modify j fun e => { e with key := .string s, val := v }) cl)) := by
        have hf : Instr.findNow .string (.string s) ents.toList 0 = some (some (j, en.val)) := by simpa using f1
        simp [Instr.mapUpdate, run_underlying hm, MapKept.run_getObj_map g5, MapKept.run_checkKey hd hkey, MapKept.run_findKey hd hf, hj, f3, MapKept.run_keyThatStays hkey, MapKept.run_setObj_map _ g5, Result.andThen]
        rfl
      have hjl := (Array.getElem?_eq_some_iff.1 hj).1
      have hmod : (ents.modify j fun e => { e with key := .string s, val := v }).toList = ents.toList.set j { en with key := .string s, val := v } := by
        apply List.ext_getElem?
        intro i
        rw [Array.getElem?_toList, Array.getElem?_modify, List.getElem?_set, Array.getElem?_toList, Array.length_toList]
        by_cases e : j = i
        · subst e
          rw [if_pos rfl, if_pos rfl, if_pos hjl, hj]
          rfl
        · rw [if_neg e, if_neg e]
      obtain ⟨r, m⟩ := turn_mp (es' := es') (ents' := ents.modify j fun e => { e with key := .string s, val := v }) (cl' := cl) R g1 g2 g3 g5 (by rw [f4, hmod]; simp [mrows, List.map_set]) (fun e he => by
        rw [hmod] at he
        rcases List.mem_or_eq_of_mem_set he with he | rfl
        · exact g7 e he
        · exact h1)
      exact ⟨_, hrun, ρ, r, .bad _ _, fun _ _ => rfl, m, ⟨rfl, rfl, rfl, by rw [World.putObj_size]; exact Nat.le_refl _, fun q hq => World.putObj_heap_other (by omega)⟩⟩

theorem look_sound {mt e : TypeId} {l : Nat} {s : ByteArray} {es : List (List AV)} {y : Value} {z : AV} {q : Option AV} (R : Rel ρ F base h w.heap) (ht : mpT P mt = some e) (hz : ziT P e = some z) (hx : VR w.heap (FF F h ρ) ρ (.mp l) y) (hp : mpOf (h l) = some es) (hs : mpGet s es = some q) :
    ∃ u, VR w.heap (FF F h ρ) ρ (q.getD z) u ∧ (Instr.lookup mt y (.string s) true).run P w = .ok (.tuple #[u, .bool q.isSome]) w ∧ (Instr.lookup mt y (.string s) false).run P w = .ok u w := by
  obtain ⟨kt, hm, hd⟩ := mpT_some ht
  obtain ⟨k, ents, cl, b, g1, g2, g3, g4, g5, rfl, g7⟩ := own_mp R hp
  cases hx with
  | mp _ _ k' hρ =>
    rw [g3] at hρ
    cases hρ
    have hkey : MapKept.IsKey .string (.string s) := trivial
    rcases get_now s ents.toList 0 q hs with ⟨rfl, f1⟩ | ⟨j, en, rfl, f1, f2⟩
    · obtain ⟨kk, n, hzv, hzr⟩ : ∃ kk n, z = .val (.int kk n) ∧ (zeroValue e).run P w = .ok (.int kk n) w := by
        unfold ziT at hz
        split at hz
        · rename_i kk n hzz
          cases hz
          obtain ⟨i, hi, hzz⟩ := Option.bind_eq_some_iff.mp hzz
          exact ⟨kk, n, rfl, run_zero hi hzz w⟩
        · cases hz
      subst hzv
      exact ⟨.int kk n, .val _ _ rfl, by simp [Instr.lookup, run_underlying hm, MapKept.run_getObj_map g5, MapKept.run_checkKey hd hkey, MapKept.run_findKey hd f1, hzr, Result.andThen], by simp [Instr.lookup, run_underlying hm, MapKept.run_getObj_map g5, MapKept.run_checkKey hd hkey, MapKept.run_findKey hd f1, hzr, Result.andThen]⟩
    · have hf : Instr.findNow .string (.string s) ents.toList 0 = some (some (j, en.val)) := by simpa using f1
      exact ⟨en.val, .val _ _ (g7 en (List.mem_of_getElem? f2)), by simp [Instr.lookup, run_underlying hm, MapKept.run_getObj_map g5, MapKept.run_checkKey hd hkey, MapKept.run_findKey hd hf, Result.andThen], by simp [Instr.lookup, run_underlying hm, MapKept.run_getObj_map g5, MapKept.run_checkKey hd hkey, MapKept.run_findKey hd hf, Result.andThen]⟩

end
end Go.Proofs.YtgbdbenepnbajaaGreatDoor.AM
