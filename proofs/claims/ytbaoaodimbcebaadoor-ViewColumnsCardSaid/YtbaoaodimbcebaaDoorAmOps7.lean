/- Pointers turned to unsafe.Pointer and back; a string made of a row in place. -/
import Derived.Test.YtbaoaodimbcebaaDoorAmOps6
import Derived.Lib.UnsafeStr
import Derived.Lib.Builder
namespace Go.Proofs.YtbaoaodimbcebaaDoor.AM
open Go Go.RowKit
set_option linter.unusedVariables false
set_option linter.unusedSimpArgs false

section
variable {P : Program} {ρ : Pls} {F : Nat → Prop} {base : Nat} {h : Heap} {w : World} {c : Nat}

theorem liesAt_row {e s count off i n : Nat} (hs : P.cellsOf e = s) (h0 : s ≠ 0) (ho : off = i * s) (hn : i + n ≤ count) : liesAt P P.depth e count off e n = true := by
  have hd : P.depth = (2 * (P.types.size + Made.depth) + 1) + 1 := rfl
  rw [hd]
  simp only [liesAt, Bool.or_eq_true]
  left
  rw [hd]
  have h1 : off / s = i := by rw [ho, Nat.mul_div_cancel _ (by omega)]
  have h2 : off % s = 0 := by rw [ho, Nat.mul_mod_left]
  simp [rowAt, hs, h0, h1, h2, hn, sameLayout]

theorem szT_cells {e s : Nat} (h : szT P e = some s) : P.cellsOf e = s := by
  unfold szT at h
  unfold Program.cellsOf
  rw [h]
  rfl

theorem usT_some {t : TypeId} (h : usT P t = true) : P.underlying t = some .unsafePointer := by
  unfold usT at h
  split at h
  · assumption
  · cases h

theorem shape_of {w : World} {k : Nat} {cs : Array Value} {T : TypeId} {fz : Nat × Nat} (h : w.heap[k]? = some (Obj.cells cs T fz)) : w.shape? k = some (T, cs.size) := by
  unfold World.shape?
  rw [h]

/-- What is known where a pointer leads into a row of its own. -/
theorem ptr_at (R : Rel ρ F base h w.heap) {l i : Nat} {b : Blk} {y : Value} (hx : VR w.heap (FF F h ρ) ρ (.ptr l i 0) y) (hb : h l = some b) (hi : i < b.es.length) (hz : 0 < b.sz) :
    ∃ (k o : Nat) (cs : Array Value) (T : TypeId), y = .pointer (some ⟨k, o + i * b.sz, none⟩) ∧ ρ l = some (k, o, b.sz) ∧ (∀ T0, b.ty = some T0 → T = T0) ∧ b.sz ∣ o ∧ base ≤ k ∧ w.heap[k]? = some (Obj.cells cs T (0, 0)) ∧ (∀ e ∈ b.es, e.length = b.sz) ∧
      (∀ i j x, at2 b.es i j = some x → ∃ v, cs[o + i * b.sz + j]? = some v ∧ v.oneCell' = true ∧ VR w.heap (FF F h ρ) ρ x v) ∧ o + b.es.length * b.sz ≤ cs.size := by
  cases hx with
  | ptr _ _ _ _ k o sz hρ hk =>
    obtain ⟨k2, o2, cs, T, hTT, g1, g2, g3, g4, g5⟩ := R.ownC hb hρ hk
    rw [hρ] at g1
    obtain ⟨rfl, rfl, rfl⟩ : k = k2 ∧ o = o2 ∧ sz = b.sz := by cases g1; exact ⟨rfl, rfl, rfl⟩
    refine ⟨k, o, cs, T, rfl, hρ, hTT.1, hTT.2, g2, g3, g4, g5, ?_⟩
    obtain ⟨m, hm⟩ : ∃ m, b.es.length = m + 1 := ⟨b.es.length - 1, by omega⟩
    have hr := g4 _ (List.getElem_mem (l := b.es) (n := m) (by omega))
    have : at2 b.es m (b.sz - 1) = some (b.es[m]'(by omega))[b.sz - 1] := by
      unfold at2
      rw [List.getElem?_eq_getElem (by omega)]
      simp only [Option.bind_some]
      rw [List.getElem?_eq_getElem (by omega)]
    obtain ⟨v, hv, _⟩ := g5 _ _ _ this
    have := (Array.getElem?_eq_some_iff.1 hv).1
    rw [hm, Nat.add_mul]
    omega

/-- A pointer as unsafe.Pointer, and back. -/
theorem uns_sound {src dst : TypeId} (R : Rel ρ F base h w.heap) {l i f : Nat} {v : AV} {y : Value} (hx : VR w.heap (FF F h ρ) ρ (.ptr l i f) y) (e : convA P src dst h (.ptr l i f) = some v) :
    ∃ z, VR w.heap (FF F h ρ) ρ v z ∧ (convert src dst y).run P w = .ok z w := by
  unfold convA at e
  simp only at e
  split at e
  · rename_i hf
    subst hf
    obtain ⟨b, hb, e⟩ := Option.bind_eq_some_iff.mp e
    split at e
    · rename_i hib
      obtain ⟨k, o, cs, T, rfl, hρ, hT, hd, hbk, g3, g4, g5, hsz⟩ := ptr_at R hx hb hib.1 hib.2
      have hmul : i * b.sz + b.sz ≤ b.es.length * b.sz := by rw [← Nat.succ_mul]; exact Nat.mul_le_mul_right _ hib.1
      split at e
      · rename_i t ht _
        split at e
        · rename_i hc
          cases e
          simp only [Bool.and_eq_true, beq_iff_eq] at hc
          obtain ⟨q1, j, q2⟩ := ptT_some ht
          refine ⟨_, hx, Go.Lib.run_to_unsafe w ⟨k, o + i * b.sz, none⟩ q1 (usT_some hc.1) q2 ?_ (shape_of g3) (by show o + i * b.sz < cs.size; omega)⟩
          have := hc.2
          unfold szT at this
          rw [q2] at this
          simp at this
          omega
        · cases e
      · rename_i u _ hu
        split at e
        · rename_i hc
          cases e
          simp only [Bool.and_eq_true, beq_iff_eq] at hc
          obtain ⟨q1, j, q2⟩ := ptT_some hu
          obtain rfl : T = u := hT _ hc.2
          have hcel := szT_cells hc.1.2
          obtain ⟨q, hq⟩ := hd
          refine ⟨_, hx, Go.Lib.run_from_unsafe w ⟨k, o + i * b.sz, none⟩ (usT_some hc.1.1) q1 q2 (shape_of g3) (liesAt_row (i := q + i) hcel (by omega) (by show o + i * b.sz = _; rw [hq, Nat.add_mul, Nat.mul_comm b.sz q]) ?_)⟩
          rw [hcel, Nat.le_div_iff_mul_le hib.2, Nat.add_mul, Nat.add_mul, Nat.mul_comm q, ← hq]
          omega
        · cases e
      · cases e
    · cases e
  · cases e

theorem freeze_heap (w : World) (k a n : Nat) (hn : n ≠ 0) : (w.freeze ⟨k, a, none⟩ n).heap.size = w.heap.size ∧ (∀ j, j ≠ k → (w.freeze ⟨k, a, none⟩ n).heap[j]? = w.heap[j]?) ∧
    ∀ (cs : Array Value) (T : TypeId) (fz : Nat × Nat), w.heap[k]? = some (Obj.cells cs T fz) → ∃ fz', (w.freeze ⟨k, a, none⟩ n).heap[k]? = some (Obj.cells cs T fz') := by
  unfold World.freeze
  rw [if_neg hn]
  refine ⟨by simp, fun j hj => ?_, fun cs T fz hk => ?_⟩
  · simp only [Array.getElem?_modify]
    rw [if_neg (fun e => hj e.symm)]
  · simp only [Array.getElem?_modify, if_true, hk]
    exact ⟨_, rfl⟩

/-- A row that is given up, and frozen. -/
theorem Rel.frozen (R : Rel ρ F base h w.heap) {l k o a n : Nat} {b : Blk} (hn : n ≠ 0) (hb : h l = some b) (hρ : ρ l = some (k, o, b.sz)) :
    Rel ρ F base (h.put l none) (w.freeze ⟨k, a, none⟩ n).heap ∧ Mv w.heap (FF F h ρ) (w.freeze ⟨k, a, none⟩ n).heap (FF F (h.put l none) ρ) := by
  obtain ⟨f1, f2, f3⟩ := freeze_heap w k a n hn
  obtain ⟨R', m⟩ := R.kill l
  have mv : Mv w.heap (FF F h ρ) (w.freeze ⟨k, a, none⟩ n).heap (FF F (h.put l none) ρ) := by
    refine ⟨fun j hj hF => ⟨(m.st j hj hF).1, f2 j fun e => hF (.inr ⟨l, b, _, hb, hρ, e.symm⟩)⟩, fun j cs T fz hj => ?_, by omega⟩
    by_cases e : j = k
    · subst e
      obtain ⟨fz', h1⟩ := f3 cs T fz hj
      exact ⟨cs, T, fz', h1, Nat.le_refl _⟩
    · exact ⟨cs, T, fz, by rw [f2 j e]; exact hj, Nat.le_refl _⟩
  refine ⟨⟨fun x b2 hx => ?_, R'.inj, fun x p hp => by have := R.bd x p hp; omega⟩, mv⟩
  unfold Heap.put at hx
  split at hx
  · cases hx
  · rename_i e1
    obtain ⟨k2, o2, h1, h2, h3⟩ := R.own x b2 hx
    exact ⟨k2, o2, h1, h2, h3.mono (f2 k2 (R.inj x l b2 b _ _ hx hb e1 h1 hρ)) mv.toC (Sub.refl _)⟩

theorem byteA_some {r : List AV} {b : UInt8} (hb : byteA r = some b) : r = [.val (.int .u8 b.toNat)] := by
  unfold byteA at hb
  split at hb
  · rename_i n
    split at hb
    · rename_i hn
      cases hb
      have : ((UInt8.ofNat n.toNat).toNat : Int) = n := by
        have h256 : n.toNat < 256 := by omega
        rw [UInt8.toNat_ofNat_of_lt' (by exact h256)]
        omega
      rw [this]
    · cases hb
  · cases hb

theorem bytes_of : ∀ {es : List (List AV)} {bs : List UInt8}, es.mapM byteA = some bs → es = bs.map fun b => [.val (.int .u8 b.toNat)]
  | [], bs, e => by simp at e; subst e; rfl
  | r :: es, bs, e => by
    simp only [List.mapM_cons, Option.bind_eq_bind, Option.pure_def] at e
    obtain ⟨b, g1, e⟩ := Option.bind_eq_some_iff.mp e
    obtain ⟨bs', g2, e⟩ := Option.bind_eq_some_iff.mp e
    cases e
    rw [byteA_some g1, bytes_of g2]
    rfl

/-- unsafe.String over a row of bytes. -/
theorem run_unsafeString_at (w : World) (pt it ty e : TypeId) (hp : P.underlying pt = some (.pointer e)) (hc : P.cellsOf e = 1) (g o cells : Nat) (hsh : w.shape? g = some (e, cells)) (l : List UInt8) (h0 : l ≠ []) (hn : o + l.length ≤ cells) (h63 : l.length ≤ 9223372036854775807)
    (hcell : ∀ j x, l[j]? = some x → w.cell? ((⟨g, o, none⟩ : Addr).add j) = some (.int .u8 x.toNat)) :
    (Builtin.unsafeString_ #[pt, it] ty #[.pointer (some ⟨g, o, none⟩), .int .i64 l.length]).run P w = .ok (.string ⟨l.toArray⟩) (w.freeze ⟨g, o, none⟩ l.length) := by
  have hl : l.length ≠ 0 := by simpa using h0
  have hlb := Go.Lib.run_loadBytes (P := P) w l ⟨g, o, none⟩ .empty hcell
  have hlies : liesAt P P.depth e (cells / P.cellsOf e) o e l.length = true := liesAt_row (s := 1) (i := o) hc (by omega) (by simp) (by rw [hc]; simpa using hn)
  have h63' : ¬ (9223372036854775807 : Int) < (l.length : Int) := by omega
  have hmax : IntKind.i64.max = 9223372036854775807 := rfl
  have hneg : ¬ (l.length : Int) < 0 := by omega
  show Sem.run P (do
        let n ← asInt (.int .i64 l.length)
        if n < 0 then runtimePanic (.error _)
        if n > IntKind.i64.max then unsupported (.unsafePointer _)
        if n = 0 then pure (Value.string .empty)
        else if ← variablesAt ⟨g, o, none⟩ (← elemOf pt) n.toNat then do
          let s ← loadBytes ⟨g, o, none⟩ .empty n.toNat
          freeze ⟨g, o, none⟩ n.toNat
          pure (Value.string s)
        else unsupported (.unsafePointer _)) w = _
  simp [asInt, asIntOf, hmax, h63', hneg, hl, variablesAt, hsh, elemOf, run_underlying hp, hlies, hlb]

/-- A STRING OF A ROW, in place: the row is given up. -/
theorem unsStr_sound (R : Rel ρ F base h w.heap) {pt it ty : TypeId} {l i : Nat} {n : Int} {y : Value} {b : Blk} {bs : List UInt8} (hx : VR w.heap (FF F h ρ) ρ (.ptr l i 0) y) (hb : h l = some b)
    (h0 : 0 < n) (hr : n ≤ room) (hle : i + n.toNat ≤ b.es.length) (h1 : b.sz = 1) (ht : b.ty = ptT P pt) (hc : (ptT P pt).bind (szT P) = some 1) (hbs : ((b.es.drop i).take n.toNat).mapM byteA = some bs) :
    ∃ w', (Builtin.unsafeString_ #[pt, it] ty #[y, .int .i64 n]).run P w = .ok (.string ⟨bs.toArray⟩) w' ∧ ∃ ρ', Good ρ F base h w c (.val (.string ⟨bs.toArray⟩)) (h.put l none) c (.string ⟨bs.toArray⟩) w' ρ' := by
  obtain ⟨e, he, hc⟩ := Option.bind_eq_some_iff.mp hc
  rw [he] at ht
  obtain ⟨k, o, cs, T, rfl, hρ, hT, hd, hbk, g3, g4, g5, hsz⟩ := ptr_at R hx hb (by omega) (by omega)
  obtain rfl : T = e := hT _ ht
  have hrows := bytes_of hbs
  have hlen : bs.length = n.toNat := by
    have := congrArg List.length hrows
    simp only [List.length_take, List.length_drop, List.length_map] at this
    omega
  have hroom : room = 140737488355328 := rfl
  have hnz : bs.length ≠ 0 := by omega
  have hrun := run_unsafeString_at (P := P) w pt it ty T (ptT_some he).1 (szT_cells hc) k (o + i * b.sz) cs.size (shape_of g3) bs (by intro h; subst h; exact hnz rfl) (by rw [h1] at hsz ⊢; omega) (by omega)
    (fun j x hj => by
      have hj' : b.es[i + j]? = some [.val (.int .u8 x.toNat)] := by
        have h3 : (((b.es.drop i).take n.toNat))[j]? = some [AV.val (.int .u8 x.toNat)] := by rw [hrows, List.getElem?_map, hj]; rfl
        rw [List.getElem?_take] at h3
        split at h3
        · rw [List.getElem?_drop] at h3; exact h3
        · cases h3
      obtain ⟨v, hv, _, hvr⟩ := g5 (i + j) 0 (.val (.int .u8 x.toNat)) (by unfold at2; rw [hj']; rfl)
      cases hvr
      rw [cell_eq, add_plain, cellH_plain g3]
      rw [← hv]
      congr 1
      rw [h1]
      omega)
  rw [hlen] at hrun
  obtain ⟨r1, m1⟩ := R.frozen (a := o + i * b.sz) (n := n.toNat) (by omega) hb hρ
  have hn2 : ((n.toNat : Nat) : Int) = n := by omega
  rw [hn2] at hrun
  obtain ⟨f1, f2, f3⟩ := freeze_heap w k (o + i * b.sz) n.toNat (by omega)
  refine ⟨_, hrun, ρ, r1, .val _ _ rfl, fun _ _ => rfl, m1, ⟨?_, ?_, ?_, by omega, fun j hj => f2 j (by omega)⟩⟩
  all_goals (unfold World.freeze; rw [if_neg (by omega)])

/-- The address of a row's first element. -/
theorem data_sound (R : Rel ρ F base h w.heap) {ts : Array TypeId} {ty : TypeId} {l sz off n : Nat} {y : Value} (hx : VR w.heap (FF F h ρ) ρ (.sl l sz off n) y) (hn : 0 < n) :
    ∃ z, (Builtin.unsafeSliceData_ ts ty #[y]).run P w = .ok z w ∧ VR w.heap (FF F h ρ) ρ (.ptr l off 0) z := by
  cases hx with
  | sl _ _ _ _ _ k o cap hρ hc hk =>
    exact ⟨_, Go.Lib.run_unsafeSliceData_row w ts ty _ n cap (by omega), .ptr ρ l off 0 k o sz hρ (have1 hk)⟩

end
end Go.Proofs.YtbaoaodimbcebaaDoor.AM
