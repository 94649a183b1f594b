/- When an abstract value tells of a value in memory, and an abstract memory of a world's. -/
import Derived.Test.YtgbdbenepnbajaaGreatDoorAmRun
import Derived.Laws.Sem
namespace Go.Proofs.YtgbdbenepnbajaaGreatDoor.AM
open Go
set_option linter.unusedVariables false

def cellH (H : Array Obj) (a : Addr) : Option Value :=
  match H[a.block]? with
  | some (.cells c _ _) => if a.spot.isSome then none else c[a.off]?
  | _ => none
theorem cell_eq (w : World) (a : Addr) : w.cell? a = cellH w.heap a := rfl

theorem cellH_lt {H : Array Obj} {a : Addr} {v : Value} (h : cellH H a = some v) : a.block < H.size := by
  unfold cellH at h
  rcases Nat.lt_or_ge a.block H.size with hl | hg
  · exact hl
  · rw [Array.getElem?_eq_none hg] at h; simp at h

theorem cellH_of {H H' : Array Obj} {a : Addr} (h : H'[a.block]? = H[a.block]?) : cellH H' a = cellH H a := by unfold cellH; rw [h]

theorem cellH_cells {H : Array Obj} {a : Addr} {v : Value} (h : cellH H a = some v) : ∃ (cs : Array Value) (T : TypeId) (fz : Nat × Nat), H[a.block]? = some (Obj.cells cs T fz) := by
  unfold cellH at h
  split at h
  · rename_i cs T fz e; exact ⟨cs, T, fz, e⟩
  · cases h

theorem add_block (a : Addr) (n : Nat) : (a.add n).block = a.block := by unfold Addr.add; split <;> rfl
theorem add_add (a : Addr) (m n : Nat) : (a.add m).add n = a.add (m + n) := by
  unfold Addr.add
  by_cases hm : m = 0
  · subst hm; simp
  · by_cases hn : n = 0
    · subst hn; simp [hm]
    · simp [hm, hn, Nat.add_assoc]
theorem add_plain (k o n : Nat) : (⟨k, o, none⟩ : Addr).add n = ⟨k, o + n, none⟩ := by unfold Addr.add; split <;> simp_all
theorem cellH_plain {H : Array Obj} {k o : Nat} {cs : Array Value} {T : TypeId} {fz : Nat × Nat} (h : H[k]? = some (.cells cs T fz)) : cellH H ⟨k, o, none⟩ = cs[o]? := by unfold cellH; rw [h]; rfl

abbrev Pl := Nat × Nat × Nat
abbrev Pls := Nat → Option Pl

def at2 (es : List (List AV)) (i j : Nat) : Option AV := (es[i]?).bind (·[j]?)

inductive VR (H : Array Obj) (F : Nat → Prop) : Pls → AV → Value → Prop
  | val (ρ : Pls) (v : Value) (h1 : v.oneCell' = true) : VR H F ρ (.val v) v
  | ro (ρ : Pls) (n : Bool) (es : List (List AV)) (A : Option Addr) (cap sz : Nat) (f : Nat → Nat → Value)
      (hc : es.length ≤ cap) (hn : A = none ↔ n = true) (hz : n = true → es = [] ∧ cap = 0) (hs : ∀ e ∈ es, e.length = sz)
      (hA : ∀ i j x, at2 es i j = some x → ∃ a, A = some a ∧ ¬ F a.block ∧ cellH H (a.add (i * sz + j)) = some (f i j) ∧ (f i j).oneCell' = true)
      (hV : ∀ i j x, at2 es i j = some x → VR H F (fun _ => none) x (f i j)) : VR H F ρ (.ro n es) (.slice A es.length cap)
  | emp (ρ : Pls) (a : Addr) : VR H F ρ .emp (.slice (some a) 0 0)
  | rptr (ρ : Pls) (cs : List AV) (a : Addr) (f : Nat → Value)
      (hA : ∀ (j : Nat) x, cs[j]? = some x → ¬ F a.block ∧ cellH H (a.add j) = some (f j) ∧ (f j).oneCell' = true)
      (hV : ∀ (j : Nat) x, cs[j]? = some x → VR H F (fun _ => none) x (f j)) : VR H F ρ (.rptr cs) (.pointer (some a))
  | sl (ρ : Pls) (l sz off len k o cap : Nat) (hρ : ρ l = some (k, o, sz)) (hc : len ≤ cap)
      (hk : ∃ (cs : Array Value) (T : TypeId) (fz : Nat × Nat), H[k]? = some (Obj.cells cs T fz) ∧ o + (off + cap) * sz ≤ cs.size) : VR H F ρ (.sl l sz off len) (.slice (some ⟨k, o + off * sz, none⟩) len cap)
  | arr (ρ : Pls) (l sz n k o : Nat) (hρ : ρ l = some (k, o, sz))
      (hk : ∃ (cs : Array Value) (T : TypeId) (fz : Nat × Nat), H[k]? = some (Obj.cells cs T fz) ∧ o + n * sz ≤ cs.size) : VR H F ρ (.arr l sz n) (.pointer (some ⟨k, o, none⟩))
  | ptr (ρ : Pls) (l i f k o sz : Nat) (hρ : ρ l = some (k, o, sz))
      (hk : ∃ (cs : Array Value) (T : TypeId) (fz : Nat × Nat), H[k]? = some (Obj.cells cs T fz)) : VR H F ρ (.ptr l i f) (.pointer (some ⟨k, o + i * sz + f, none⟩))
  | yld (ρ : Pls) (l k : Nat) (hρ : ρ l = some (k, 0, 0)) : VR H F ρ (.yld l) (.func (.yield k) #[] #[])
  | fn (ρ : Pls) (f : Nat) (cs : List AV) (vs : Array Value) (g : Nat → Value) (hn : vs.size = cs.length)
      (hA : ∀ (i : Nat) x, cs[i]? = some x → vs[i]? = some (g i)) (hV : ∀ (i : Nat) x, cs[i]? = some x → VR H F ρ x (g i)) : VR H F ρ (.fn f cs) (.func (.func f) #[] vs)
  | fm (ρ : Pls) (f : Nat) (b : AV) (bv : Value) (cs : List AV) (vs : Array Value) (g : Nat → Value) (hn : vs.size = cs.length) (hb : VR H F ρ b bv)
      (hA : ∀ (i : Nat) x, cs[i]? = some x → vs[i]? = some (g i)) (hV : ∀ (i : Nat) x, cs[i]? = some x → VR H F ρ x (g i)) : VR H F ρ (.fm f b cs) (.func (.func f) #[bv] vs)
  | agg (ρ : Pls) (cs : List AV) (vs : Array Value) (g : Nat → Value) (hn : vs.size = cs.length)
      (hA : ∀ (i : Nat) x, cs[i]? = some x → vs[i]? = some (g i)) (hV : ∀ (i : Nat) x, cs[i]? = some x → VR H F ρ x (g i)) : VR H F ρ (.agg cs) (.agg vs)
  | tup (ρ : Pls) (cs : List AV) (vs : Array Value) (g : Nat → Value) (hn : vs.size = cs.length)
      (hA : ∀ (i : Nat) x, cs[i]? = some x → vs[i]? = some (g i)) (hV : ∀ (i : Nat) x, cs[i]? = some x → VR H F ρ x (g i)) : VR H F ρ (.tup cs) (.tuple vs)
  | mp (ρ : Pls) (l k : Nat) (hρ : ρ l = some (k, 0, 0)) : VR H F ρ (.mp l) (.map (some k))
  | ifc (ρ : Pls) (t : TypeId) (v : Value) : VR H F ρ .ifc (.iface t v)
  | bad (ρ : Pls) (v : Value) : VR H F ρ .bad v

/-- From one memory to a later one: what is not the call's own has not turned; no block has shrunk. -/
structure Mv (H : Array Obj) (F : Nat → Prop) (H' : Array Obj) (F' : Nat → Prop) : Prop where
  st : ∀ k, k < H.size → ¬ F k → ¬ F' k ∧ H'[k]? = H[k]?
  sz : ∀ (k : Nat) (cs : Array Value) (T : TypeId) (fz : Nat × Nat), H[k]? = some (Obj.cells cs T fz) → ∃ (cs' : Array Value) (T' : TypeId) (fz' : Nat × Nat), H'[k]? = some (Obj.cells cs' T' fz') ∧ cs.size ≤ cs'.size
  le : H.size ≤ H'.size

/-- The same, of cells alone. -/
structure MvC (H : Array Obj) (F : Nat → Prop) (H' : Array Obj) (F' : Nat → Prop) : Prop where
  st : ∀ (k : Nat) (cs : Array Value) (T : TypeId) (fz : Nat × Nat), H[k]? = some (Obj.cells cs T fz) → ¬ F k → ¬ F' k ∧ H'[k]? = H[k]?
  sz : ∀ (k : Nat) (cs : Array Value) (T : TypeId) (fz : Nat × Nat), H[k]? = some (Obj.cells cs T fz) → ∃ (cs' : Array Value) (T' : TypeId) (fz' : Nat × Nat), H'[k]? = some (Obj.cells cs' T' fz') ∧ cs.size ≤ cs'.size
  le : H.size ≤ H'.size
theorem Mv.toC {H H' : Array Obj} {F F' : Nat → Prop} (m : Mv H F H' F') : MvC H F H' F' :=
  ⟨fun k cs T fz h hF => m.st k (by rcases Nat.lt_or_ge k H.size with hl | hg; exact hl; rw [Array.getElem?_eq_none hg] at h; cases h) hF, m.sz, m.le⟩

theorem Mv.refl (H : Array Obj) (F : Nat → Prop) : Mv H F H F := ⟨fun _ _ h => ⟨h, rfl⟩, fun _ cs T fz h => ⟨cs, T, fz, h, Nat.le_refl _⟩, Nat.le_refl _⟩
theorem Mv.trans {H H1 H2 : Array Obj} {F F1 F2 : Nat → Prop} (a : Mv H F H1 F1) (b : Mv H1 F1 H2 F2) : Mv H F H2 F2 := by
  refine ⟨fun k hk hF => ?_, fun k cs T fz h => ?_, Nat.le_trans a.le b.le⟩
  · obtain ⟨h1, e1⟩ := a.st k hk hF
    obtain ⟨h2, e2⟩ := b.st k (Nat.lt_of_lt_of_le hk a.le) h1
    exact ⟨h2, e2.trans e1⟩
  · obtain ⟨c1, T1, z1, h1, l1⟩ := a.sz k cs T fz h
    obtain ⟨c2, T2, z2, h2, l2⟩ := b.sz k c1 T1 z1 h1
    exact ⟨c2, T2, z2, h2, Nat.le_trans l1 l2⟩
/-- Less is forbidden. -/
theorem Mv.less (H : Array Obj) {F F' : Nat → Prop} (h : ∀ k, F' k → F k) : Mv H F H F' := ⟨fun k _ hF => ⟨fun h' => hF (h k h'), rfl⟩, fun _ cs T fz h => ⟨cs, T, fz, h, Nat.le_refl _⟩, Nat.le_refl _⟩

def Sub (ρ ρ' : Pls) : Prop := ∀ l p, ρ l = some p → ρ' l = some p
theorem Sub.refl (ρ : Pls) : Sub ρ ρ := fun _ _ h => h
theorem Sub.trans {a b c : Pls} (h : Sub a b) (k : Sub b c) : Sub a c := fun l p e => k l p (h l p e)
theorem Sub.none (ρ : Pls) : Sub (fun _ => none) ρ := fun _ _ h => by cases h

theorem VR.monoC {H H' : Array Obj} {F F' : Nat → Prop} {ρ : Pls} {x : AV} {v : Value} (h : VR H F ρ x v) (m : MvC H F H' F') : ∀ {ρ'}, Sub ρ ρ' → VR H' F' ρ' x v := by
  induction h with
  | val ρ v h1 => exact fun _ => .val _ v h1
  | ro ρ n es A cap sz f hc hn hz hs hA hV ih =>
    intro ρ' hρ
    refine .ro ρ' n es A cap sz f hc hn hz hs (fun i j x hx => ?_) (fun i j x hx => ih i j x hx (Sub.refl _))
    obtain ⟨a, ha, hF, hcell, h1c⟩ := hA i j x hx
    obtain ⟨cs0, T0, z0, h0⟩ := cellH_cells hcell
    rw [add_block] at h0
    obtain ⟨h1, h2⟩ := m.st a.block cs0 T0 z0 h0 hF
    exact ⟨a, ha, h1, (cellH_of (H := H) (H' := H') (by rw [add_block]; exact h2)).trans hcell, h1c⟩
  | emp ρ a => exact fun _ => .emp _ a
  | rptr ρ cs a f hA hV ih =>
    intro ρ' hρ
    refine .rptr ρ' cs a f (fun j x hx => ?_) (fun j x hx => ih j x hx (Sub.refl _))
    obtain ⟨hF, hcell, h1c⟩ := hA j x hx
    obtain ⟨cs0, T0, z0, h0⟩ := cellH_cells hcell
    rw [add_block] at h0
    obtain ⟨h1, h2⟩ := m.st a.block cs0 T0 z0 h0 hF
    exact ⟨h1, (cellH_of (H := H) (H' := H') (by rw [add_block]; exact h2)).trans hcell, h1c⟩
  | sl ρ l sz off len k o cap hρ hc hk =>
    intro ρ' hs
    obtain ⟨cs, T, fz, h1, h2⟩ := hk
    obtain ⟨c2, T2, z2, h3, h4⟩ := m.sz k cs T fz h1
    exact .sl ρ' l sz off len k o cap (hs _ _ hρ) hc ⟨c2, T2, z2, h3, Nat.le_trans h2 h4⟩
  | arr ρ l sz n k o hρ hk =>
    intro ρ' hs
    obtain ⟨cs, T, fz, h1, h2⟩ := hk
    obtain ⟨c2, T2, z2, h3, h4⟩ := m.sz k cs T fz h1
    exact .arr ρ' l sz n k o (hs _ _ hρ) ⟨c2, T2, z2, h3, Nat.le_trans h2 h4⟩
  | ptr ρ l i f k o sz hρ hk =>
    intro ρ' hs
    obtain ⟨cs, T, fz, h1⟩ := hk
    obtain ⟨c2, T2, z2, h3, h4⟩ := m.sz k cs T fz h1
    exact .ptr ρ' l i f k o sz (hs _ _ hρ) ⟨c2, T2, z2, h3⟩
  | yld ρ l k hρ => exact fun hs => .yld _ l k (hs _ _ hρ)
  | fn ρ f cs vs g hn hA hV ih => exact fun hs => .fn _ f cs vs g hn hA (fun i x hx => ih i x hx hs)
  | fm ρ f b bv cs vs g hn hb hA hV ihb ih => exact fun hs => .fm _ f b bv cs vs g hn (ihb hs) hA (fun i x hx => ih i x hx hs)
  | agg ρ cs vs g hn hA hV ih => exact fun hs => .agg _ cs vs g hn hA (fun i x hx => ih i x hx hs)
  | tup ρ cs vs g hn hA hV ih => exact fun hs => .tup _ cs vs g hn hA (fun i x hx => ih i x hx hs)
  | mp ρ l k hρ => exact fun hs => .mp _ l k (hs _ _ hρ)
  | ifc ρ t v => exact fun _ => .ifc _ t v
  | bad ρ v => exact fun _ => .bad _ v

theorem VR.mono {H H' : Array Obj} {F F' : Nat → Prop} {ρ : Pls} {x : AV} {v : Value} (h : VR H F ρ x v) (m : Mv H F H' F') {ρ' : Pls} (hs : Sub ρ ρ') : VR H' F' ρ' x v := h.monoC m.toC hs

/-- A value that leads to none of the call's own memory does not hang on the places. -/
theorem lfs_mem {cs : List AV} (h : lf.lfs cs = true) : ∀ {i : Nat} {x : AV}, cs[i]? = some x → lf x = true := by
  induction cs with
  | nil => intro i x hx; simp at hx
  | cons c cs ih =>
    simp only [lf.lfs, Bool.and_eq_true] at h
    intro i x hx
    cases i with
    | zero => simp at hx; rw [← hx]; exact h.1
    | succ i => exact ih h.2 (by simpa using hx)

theorem VR.free {H : Array Obj} {F : Nat → Prop} {ρ : Pls} {x : AV} {v : Value} (h : VR H F ρ x v) : lf x = true → ∀ ρ', VR H F ρ' x v := by
  induction h with
  | val ρ v h1 => exact fun _ _ => .val _ v h1
  | ro ρ n es A cap sz f hc hn hz hs hA hV ih => exact fun _ _ => .ro _ n es A cap sz f hc hn hz hs hA hV
  | emp ρ a => exact fun _ _ => .emp _ a
  | rptr ρ cs a f hA hV ih => exact fun _ _ => .rptr _ cs a f hA hV
  | sl => intro h; cases h
  | arr => intro h; cases h
  | ptr => intro h; cases h
  | yld => intro h; cases h
  | fn => intro h; cases h
  | fm => intro h; cases h
  | agg ρ cs vs g hn hA hV ih => exact fun h ρ' => .agg _ cs vs g hn hA (fun i x hx => ih i x hx (lfs_mem h hx) ρ')
  | tup ρ cs vs g hn hA hV ih => exact fun h ρ' => .tup _ cs vs g hn hA (fun i x hx => ih i x hx (lfs_mem h hx) ρ')
  | mp => intro h; cases h
  | ifc ρ t v => exact fun _ _ => .ifc _ t v
  | bad => intro h; cases h

theorem flats_mem {cs : List AV} (h : flat.flats cs = true) : ∀ {i : Nat} {x : AV}, cs[i]? = some x → flat x = true := by
  induction cs with
  | nil => intro i x hx; simp at hx
  | cons c cs ih =>
    simp only [flat.flats, Bool.and_eq_true] at h
    intro i x hx
    cases i with
    | zero => simp at hx; rw [← hx]; exact h.1
    | succ i => exact ih h.2 (by simpa using hx)

theorem VR.flat {H : Array Obj} {F : Nat → Prop} {ρ : Pls} {x : AV} {v : Value} (h : VR H F ρ x v) : AM.flat x = true → ∀ H' F' ρ', VR H' F' ρ' x v := by
  induction h with
  | val ρ v h1 => exact fun _ _ _ _ => .val _ v h1
  | ro => intro h; cases h
  | emp => intro h; cases h
  | rptr => intro h; cases h
  | sl => intro h; cases h
  | arr => intro h; cases h
  | ptr => intro h; cases h
  | yld => intro h; cases h
  | fn => intro h; cases h
  | fm => intro h; cases h
  | agg ρ cs vs g hn hA hV ih => exact fun h H' F' ρ' => .agg _ cs vs g hn hA (fun i x hx => ih i x hx (flats_mem h hx) H' F' ρ')
  | tup ρ cs vs g hn hA hV ih => exact fun h H' F' ρ' => .tup _ cs vs g hn hA (fun i x hx => ih i x hx (flats_mem h hx) H' F' ρ')
  | mp => intro h; cases h
  | ifc ρ t v => exact fun _ _ _ _ => .ifc _ t v
  | bad => intro h; cases h

section
variable {H H' : Array Obj} {F F' : Nat → Prop} {ρ ρ' : Pls} {cs a b : List AV} {vs u v : List Value}
/-- Lists of values. -/
def LR (H : Array Obj) (F : Nat → Prop) (ρ : Pls) (cs : List AV) (vs : List Value) : Prop :=
  vs.length = cs.length ∧ ∀ (i : Nat) x, cs[i]? = some x → ∃ v, vs[i]? = some v ∧ VR H F ρ x v

theorem LR.mono (h : LR H F ρ cs vs) (m : Mv H F H' F') (hs : Sub ρ ρ') : LR H' F' ρ' cs vs :=
  ⟨h.1, fun i x hx => let ⟨v, hv, r⟩ := h.2 i x hx; ⟨v, hv, r.mono m hs⟩⟩
theorem LR.monoC (h : LR H F ρ cs vs) (m : MvC H F H' F') (hs : Sub ρ ρ') : LR H' F' ρ' cs vs :=
  ⟨h.1, fun i x hx => let ⟨v, hv, r⟩ := h.2 i x hx; ⟨v, hv, r.monoC m hs⟩⟩
theorem LR.nil : LR H F ρ [] [] := ⟨rfl, fun i x h => by simp at h⟩
theorem LR.cons {c : AV} {v : Value} {vs : List Value} (h : VR H F ρ c v) (r : LR H F ρ cs vs) : LR H F ρ (c :: cs) (v :: vs) := by
  refine ⟨by simp [r.1], fun i x hx => ?_⟩
  cases i with
  | zero => simp at hx; subst hx; exact ⟨v, rfl, h⟩
  | succ i => simpa using r.2 i x (by simpa using hx)
theorem LR.uncons {c : AV} (h : LR H F ρ (c :: cs) vs) : ∃ v r, vs = v :: r ∧ VR H F ρ c v ∧ LR H F ρ cs r := by
  cases vs with
  | nil => have := h.1; simp at this
  | cons v r =>
    obtain ⟨u, hu, hv⟩ := h.2 0 c rfl
    simp at hu
    subst hu
    exact ⟨v, r, rfl, hv, by have := h.1; simpa using this, fun i x hx => by simpa using h.2 (i + 1) x (by simpa using hx)⟩
theorem LR.append (h : LR H F ρ a u) (k : LR H F ρ b v) : LR H F ρ (a ++ b) (u ++ v) := by
  refine ⟨by simp [h.1, k.1], fun i x hx => ?_⟩
  rcases Nat.lt_or_ge i a.length with hi | hi
  · rw [List.getElem?_append_left hi] at hx
    rw [List.getElem?_append_left (by rw [h.1]; exact hi)]
    exact h.2 i x hx
  · rw [List.getElem?_append_right hi] at hx
    rw [List.getElem?_append_right (by rw [h.1]; exact hi), h.1]
    exact k.2 _ x hx
theorem LR.take (h : LR H F ρ a u) (n : Nat) : LR H F ρ (a.take n) (u.take n) := by
  refine ⟨by simp [h.1], fun i x hx => ?_⟩
  rw [List.getElem?_take] at hx ⊢
  split at hx
  · rename_i hi; rw [if_pos hi]; exact h.2 i x hx
  · cases hx
theorem LR.drop (h : LR H F ρ a u) (n : Nat) : LR H F ρ (a.drop n) (u.drop n) := by
  refine ⟨by simp [h.1], fun i x hx => ?_⟩
  rw [List.getElem?_drop] at hx ⊢
  exact h.2 _ x hx
theorem LR.set (h : LR H F ρ a u) (n : Nat) {x : AV} {v : Value} (hv : VR H F ρ x v) : LR H F ρ (a.set n x) (u.set n v) := by
  refine ⟨by simp [h.1], fun i y hy => ?_⟩
  rw [List.getElem?_set] at hy ⊢
  split at hy
  · rename_i e
    split at hy
    · rename_i hl; rw [if_pos e, if_pos (by rw [h.1]; exact hl)]; cases hy; exact ⟨v, rfl, hv⟩
    · cases hy
  · rename_i e; rw [if_neg e]; exact h.2 i y hy
theorem LR.of_agg {vs : Array Value} (h : VR H F ρ (.agg cs) (.agg vs)) : LR H F ρ cs vs.toList := by
  cases h with
  | agg _ _ _ g hn hA hV => exact ⟨by simpa using hn, fun i x hx => ⟨g i, by simpa using hA i x hx, hV i x hx⟩⟩
theorem LR.fun (h : LR H F ρ cs vs) : ∃ g : Nat → Value, (∀ (i : Nat) x, cs[i]? = some x → vs[i]? = some (g i)) ∧ ∀ (i : Nat) x, cs[i]? = some x → VR H F ρ x (g i) := by
  refine ⟨fun i => vs.getD i .nilFunc, fun i x hx => ?_, fun i x hx => ?_⟩
  · obtain ⟨v, hv, _⟩ := h.2 i x hx
    simp [List.getD, hv]
  · obtain ⟨v, hv, r⟩ := h.2 i x hx
    simpa [List.getD, hv] using r
theorem LR.agg (h : LR H F ρ cs vs) : VR H F ρ (.agg cs) (.agg vs.toArray) := by
  obtain ⟨g, h1, h2⟩ := h.fun
  exact .agg _ cs _ g (by simpa using h.1) (fun i x hx => by simpa using h1 i x hx) h2
theorem LR.tup (h : LR H F ρ cs vs) : VR H F ρ (.tup cs) (.tuple vs.toArray) := by
  obtain ⟨g, h1, h2⟩ := h.fun
  exact .tup _ cs _ g (by simpa using h.1) (fun i x hx => by simpa using h1 i x hx) h2

end

theorem VR.cells {H : Array Obj} {F : Nat → Prop} {ρ : Pls} {x : AV} {v : Value} (h : VR H F ρ x v) (hb : x.isBad = false) : LR H F ρ x.cells v.cells.toList := by
  cases h with
  | agg _ cs vs g hn hA hV => exact LR.of_agg (.agg _ cs vs g hn hA hV)
  | bad => cases hb
  | val _ v h1 =>
    cases v with
    | agg cs => cases h1
    | _ => exact LR.cons (.val _ _ h1) LR.nil
  | ro _ n es A cap sz f hc hn hz hs hA hV => exact LR.cons (.ro _ n es A cap sz f hc hn hz hs hA hV) LR.nil
  | emp _ a => exact LR.cons (.emp _ a) LR.nil
  | rptr _ cs a f hA hV => exact LR.cons (.rptr _ cs a f hA hV) LR.nil
  | sl _ l sz off len k o cap hρ hc hk => exact LR.cons (.sl _ l sz off len k o cap hρ hc hk) LR.nil
  | arr _ l sz n k o hρ hk => exact LR.cons (.arr _ l sz n k o hρ hk) LR.nil
  | ptr _ l i f k o sz hρ hk => exact LR.cons (.ptr _ l i f k o sz hρ hk) LR.nil
  | yld _ l k hρ => exact LR.cons (.yld _ l k hρ) LR.nil
  | fn _ f cs vs g hn hA hV => exact LR.cons (.fn _ f cs vs g hn hA hV) LR.nil
  | fm _ f b bv cs vs g hn hbv hA hV => exact LR.cons (.fm _ f b bv cs vs g hn hbv hA hV) LR.nil
  | tup _ cs vs g hn hA hV => exact LR.cons (.tup _ cs vs g hn hA hV) LR.nil
  | mp _ l k hρ => exact LR.cons (.mp _ l k hρ) LR.nil
  | ifc _ t v => exact LR.cons (.ifc _ t v) LR.nil

theorem VR.one {H : Array Obj} {F : Nat → Prop} {ρ : Pls} {x : AV} {v : Value} (h : VR H F ρ x v) (hb : okc x = true) : v.oneCell' = true := by
  cases h with
  | val _ _ h1 => exact h1
  | bad => cases hb
  | agg => cases hb
  | tup => cases hb
  | _ => rfl

theorem have1 {H : Array Obj} {k : Nat} {p : Array Value → Prop} (hk : ∃ (cs : Array Value) (T : TypeId) (fz : Nat × Nat), H[k]? = some (Obj.cells cs T fz) ∧ p cs) : ∃ (cs : Array Value) (T : TypeId) (fz : Nat × Nat), H[k]? = some (Obj.cells cs T fz) :=
  let ⟨cs, T, fz, h, _⟩ := hk; ⟨cs, T, fz, h⟩

theorem lit_sound {H : Array Obj} {F : Nat → Prop} {ρ : Pls} (v : Value) : VR H F ρ (lit v) v := by
  unfold lit
  split
  · exact .ro ρ true [] none 0 0 (fun _ _ => .nilFunc) (Nat.le_refl _) (by simp) (fun _ => ⟨rfl, rfl⟩) (fun e h => by cases h) (fun i j x h => by simp [at2] at h) (fun i j x h => by simp [at2] at h)
  all_goals first | exact .val _ _ rfl | exact .bad _ _

end Go.Proofs.YtgbdbenepnbajaaGreatDoor.AM
