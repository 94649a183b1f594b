/- The memory's events: a new row, a row that is written, a row that is given up. -/
import Derived.Test.YtgbdbenepnbajaaGreatDoorAmGl
import Derived.Deep.AppendSrc
import Derived.Laws.CopyRow
import Derived.Laws.MakeOwn
import Derived.Deep.DeepAppendWide
namespace Go.Proofs.YtgbdbenepnbajaaGreatDoor.AM
open Go
set_option linter.unusedVariables false

/-- What may not be taken for unturned: what the callers own, and what the call owns. -/
def FF (F : Nat → Prop) (h : Heap) (ρ : Pls) : Nat → Prop := fun k => F k ∨ ∃ l b p, h l = some b ∧ ρ l = some p ∧ p.1 = k

def stOf : Nat → LoopState
  | 0 => .ready
  | 1 => .busy
  | _ => .done
def jmp : Ex → Option Code
  | .normal => none
  | .exit i => some (.exit i)
  | .ret => some .ret
  | .pan .. => some .ret

/-- What lies in a block of the call's own. -/
inductive OwnB (H : Array Obj) (F : Nat → Prop) (ρ : Pls) (k o : Nat) (b : Blk) : Prop
  | cells (cs : Array Value) (T : TypeId) (hk : H[k]? = some (Obj.cells cs T (0, 0))) (hT : ∀ T0, b.ty = some T0 → T = T0) (hd : b.sz ∣ o) (hs : ∀ e ∈ b.es, e.length = b.sz)
      (hv : ∀ i j x, at2 b.es i j = some x → ∃ v, cs[o + i * b.sz + j]? = some v ∧ v.oneCell' = true ∧ VR H F ρ x v)
  | loop (st : Nat) (j : Ex) (m : Nat) (t : Nat → AV) (ps : List Nat) (a' b' : Code) (r : Loop) (ho : o = 0) (hb : b = ⟨0, [[.lp st j m t ps a' b']], none⟩) (hk : H[k]? = some (.loop r))
      (hst : r.state = stOf st) (hj : r.pending = jmp j) (hps : r.params = ps.toArray) (ha : r.assign = a') (hbd : r.body = b') (hm : m ≤ r.tmps.size) (ht : ∀ i, VR H F ρ (t i) (r.tmps.getD i undef))
  | map (es : List (List AV)) (ents : Array MapEntry) (cl : Nat) (ho : o = 0) (hb : b = mpBlk es) (hk : H[k]? = some (.map ents cl)) (hr : es = ents.toList.map fun e => [.val e.key, .val e.val]) (hv : ∀ e ∈ ents.toList, e.val.oneCell' = true)

theorem OwnB.lt {H : Array Obj} {F : Nat → Prop} {ρ : Pls} {k o : Nat} {b : Blk} (h : OwnB H F ρ k o b) : k < H.size := by
  cases h with
  | cells cs T hk => exact (Array.getElem?_eq_some_iff.1 hk).1
  | loop _ _ _ _ _ _ _ r _ _ hk => exact (Array.getElem?_eq_some_iff.1 hk).1
  | map _ _ _ _ _ hk => exact (Array.getElem?_eq_some_iff.1 hk).1

theorem OwnB.mono {H H' : Array Obj} {F F' : Nat → Prop} {ρ ρ' : Pls} {k o : Nat} {b : Blk} (h : OwnB H F ρ k o b) (hk' : H'[k]? = H[k]?) (m : MvC H F H' F') (s : Sub ρ ρ') : OwnB H' F' ρ' k o b := by
  cases h with
  | cells cs T hk hT hd hs hv =>
    exact .cells cs T (hk'.trans hk) hT hd hs fun i j x hx => let ⟨v, h1, h2, h3⟩ := hv i j x hx; ⟨v, h1, h2, h3.monoC m s⟩
  | loop st j mm t ps a' b' r ho hb hk hst hj hps ha hbd hm ht =>
    exact .loop st j mm t ps a' b' r ho hb (hk'.trans hk) hst hj hps ha hbd hm fun i => (ht i).monoC m s
  | map es ents cl ho hb hk hr hv => exact .map es ents cl ho hb (hk'.trans hk) hr hv

structure Rel (ρ : Pls) (F : Nat → Prop) (base : Nat) (h : Heap) (H : Array Obj) : Prop where
  own : ∀ l b, h l = some b → ∃ (k o : Nat), ρ l = some (k, o, b.sz) ∧ base ≤ k ∧ OwnB H (FF F h ρ) ρ k o b
  inj : ∀ l l' b b' p p', h l = some b → h l' = some b' → l ≠ l' → ρ l = some p → ρ l' = some p' → p.1 ≠ p'.1
  bd : ∀ l p, ρ l = some p → p.1 < H.size
  gb : glN ≤ base
  gl : glOk H

section
variable {ρ : Pls} {F : Nat → Prop} {base : Nat} {h : Heap} {H : Array Obj}

theorem Rel.empty (F : Nat → Prop) (base : Nat) (bd : ∀ l p, ρ l = some p → p.1 < H.size) (gb : glN ≤ base) (gl : glOk H) : Rel ρ F base Heap.none H := ⟨fun _ _ h => by simp [Heap.none] at h, fun _ _ _ _ _ _ h => by simp [Heap.none] at h, bd, gb, gl⟩

theorem FF_empty (F : Nat → Prop) (ρ : Pls) : FF F Heap.none ρ = F := by
  funext k
  unfold FF Heap.none
  simp

theorem getElem_lt {H : Array Obj} {k : Nat} {o : Obj} (h : H[k]? = some o) : k < H.size := (Array.getElem?_eq_some_iff.1 h).1

/-- A block that holds cells. -/
theorem Rel.ownC (R : Rel ρ F base h H) {l : Nat} {b : Blk} {k1 o1 s1 : Nat} (hl : h l = some b) (hρ : ρ l = some (k1, o1, s1)) (hc : ∃ (cs : Array Value) (T : TypeId) (fz : Nat × Nat), H[k1]? = some (Obj.cells cs T fz)) :
    ∃ (k o : Nat) (cs : Array Value) (T : TypeId), ((∀ T0, b.ty = some T0 → T = T0) ∧ b.sz ∣ o) ∧ ρ l = some (k, o, b.sz) ∧ base ≤ k ∧ H[k]? = some (Obj.cells cs T (0, 0)) ∧ (∀ e ∈ b.es, e.length = b.sz) ∧
    ∀ i j x, at2 b.es i j = some x → ∃ v, cs[o + i * b.sz + j]? = some v ∧ v.oneCell' = true ∧ VR H (FF F h ρ) ρ x v := by
  obtain ⟨k, o, h1, h2, h3⟩ := R.own l b hl
  cases h3 with
  | cells cs T hk hT hd hs hv => exact ⟨k, o, cs, T, ⟨hT, hd⟩, h1, h2, hk, hs, hv⟩
  | loop st j m t ps a' b' r ho hb hk =>
    obtain ⟨cs, T, fz, hc⟩ := hc
    rw [hρ] at h1
    cases h1
    rw [hk] at hc
    cases hc
  | map es ents cl ho hb hk hr hv =>
    obtain ⟨cs, T, fz, hc⟩ := hc
    rw [hρ] at h1
    cases h1
    rw [hk] at hc
    cases hc

theorem Rel.kill (R : Rel ρ F base h H) (l : Nat) : Rel ρ F base (h.put l none) H ∧ Mv H (FF F h ρ) H (FF F (h.put l none) ρ) := by
  have hle : ∀ k, FF F (h.put l none) ρ k → FF F h ρ k := by
    rintro k (hk | ⟨m, b, p, hm, hp, e⟩)
    · exact .inl hk
    · unfold Heap.put at hm
      split at hm
      · cases hm
      · exact .inr ⟨m, b, p, hm, hp, e⟩
  have mv : Mv H (FF F h ρ) H (FF F (h.put l none) ρ) := Mv.less H hle
  have up : ∀ {m : Nat} {b : Blk}, (h.put l none) m = some b → h m = some b := by
    intro m b hm
    unfold Heap.put at hm
    split at hm
    · cases hm
    · exact hm
  refine ⟨⟨fun m b hm => ?_, fun m m' b b' p p' hm hm' => R.inj m m' b b' p p' (up hm) (up hm'), R.bd, R.gb, R.gl⟩, mv⟩
  obtain ⟨k, o, h1, h2, h3⟩ := R.own m b (up hm)
  exact ⟨k, o, h1, h2, h3.mono rfl mv.toC (Sub.refl _)⟩

theorem sub_put {c : Nat} {p : Pl} (hc : ρ c = none) : Sub ρ (fun l => if l = c then some p else ρ l) := by
  intro l q hq
  by_cases e : l = c
  · subst e; rw [hc] at hq; cases hq
  · simp only [if_neg e]; exact hq

theorem mv_push (H : Array Obj) (o : Obj) {F F' : Nat → Prop} (h : ∀ k, k < H.size → F' k → F k) : Mv H F (H.push o) F' := by
  refine ⟨fun k hk hF => ⟨fun h' => hF (h k hk h'), ?_⟩, fun k cs T fz hk => ⟨cs, T, fz, ?_, Nat.le_refl _⟩, by simp⟩
  · rw [Array.getElem?_push, if_neg (by omega)]
  · have := getElem_lt hk
    rw [Array.getElem?_push, if_neg (by omega)]
    exact hk

theorem Rel.lt (R : Rel ρ F base h H) {l : Nat} {b : Blk} (hl : h l = some b) : ∃ p, ρ l = some p ∧ p.1 < H.size ∧ base ≤ p.1 ∧ p.2.2 = b.sz := by
  obtain ⟨k, o, h1, h2, h3⟩ := R.own l b hl
  exact ⟨_, h1, h3.lt, h2, rfl⟩

/-- A NEW BLOCK, under the name c. -/
theorem Rel.newB (R : Rel ρ F base h H) {c : Nat} (hc : ρ c = none) (hb : base ≤ H.size) (b : Blk) (ob : Obj)
    (hown : ∀ (F' : Nat → Prop) (ρ' : Pls), Mv H (FF F h ρ) (H.push ob) F' → Sub ρ ρ' → (H.push ob)[H.size]? = some ob → OwnB (H.push ob) F' ρ' H.size 0 b) :
    Rel (fun l => if l = c then some (H.size, 0, b.sz) else ρ l) F base (h.put c (some b)) (H.push ob) ∧
    Mv H (FF F h ρ) (H.push ob) (FF F (h.put c (some b)) (fun l => if l = c then some (H.size, 0, b.sz) else ρ l)) := by
  have hm : Mv H (FF F h ρ) (H.push ob) (FF F (h.put c (some b)) (fun l => if l = c then some (H.size, 0, b.sz) else ρ l)) := by
    refine mv_push H _ fun k hk hF => ?_
    rcases hF with hF | ⟨l, b', p, hl, hp, e⟩
    · exact .inl hF
    · by_cases e1 : l = c
      · simp only [if_pos e1] at hp
        cases hp
        simp at e
        omega
      · simp only [if_neg e1] at hp
        simp only [Heap.put, if_neg e1] at hl
        exact .inr ⟨l, b', p, hl, hp, e⟩
  refine ⟨⟨fun l b' hl => ?_, fun l l' b1 b2 p p' hl hl' hne hp hp' => ?_, fun l p hp => ?_, R.gb, glOk_stable (fun k hk _ => by rw [Array.getElem?_push, if_neg (by have := R.gb; omega)]) R.gl⟩, hm⟩
  · by_cases e1 : l = c
    · simp only [Heap.put, if_pos e1] at hl
      cases hl
      exact ⟨H.size, 0, by simp only [if_pos e1], hb, hown _ _ hm (sub_put hc) (by simp)⟩
    · simp only [Heap.put, if_neg e1] at hl
      obtain ⟨k, o, h1, h2, h3⟩ := R.own l b' hl
      have := h3.lt
      exact ⟨k, o, by simp only [if_neg e1]; exact h1, h2, h3.mono (by rw [Array.getElem?_push, if_neg (by omega)]) hm.toC (sub_put hc)⟩
  · by_cases e1 : l = c
    · by_cases e2 : l' = c
      · exact absurd (e1.trans e2.symm) hne
      · simp only [Heap.put, if_neg e2] at hl'
        simp only [if_pos e1] at hp
        simp only [if_neg e2] at hp'
        obtain ⟨q, hq, hlt, _⟩ := R.lt hl'
        rw [hp'] at hq
        cases hq
        cases hp
        simp
        omega
    · simp only [Heap.put, if_neg e1] at hl
      simp only [if_neg e1] at hp
      obtain ⟨q, hq, hlt, _⟩ := R.lt hl
      rw [hp] at hq
      cases hq
      by_cases e2 : l' = c
      · simp only [if_pos e2] at hp'
        cases hp'
        simp
        omega
      · simp only [Heap.put, if_neg e2] at hl'
        simp only [if_neg e2] at hp'
        exact R.inj l l' b1 b2 p p' hl hl' hne hp hp'
  · by_cases e1 : l = c
    · simp only [if_pos e1] at hp; cases hp; simp
    · simp only [if_neg e1] at hp; have := R.bd l p hp; simp; omega

/-- A NEW ROW, under the name c. -/
theorem Rel.new (R : Rel ρ F base h H) {c : Nat} (hc : ρ c = none) (hb : base ≤ H.size) (b : Blk) (cs : Array Value) (T : TypeId) (hT : ∀ T0, b.ty = some T0 → T = T0)
    (hs : ∀ e ∈ b.es, e.length = b.sz) (hv : ∀ i j x, at2 b.es i j = some x → ∃ v, cs[i * b.sz + j]? = some v ∧ v.oneCell' = true ∧ VR H (FF F h ρ) ρ x v) :
    Rel (fun l => if l = c then some (H.size, 0, b.sz) else ρ l) F base (h.put c (some b)) (H.push (Obj.cells cs T (0, 0))) ∧
    Mv H (FF F h ρ) (H.push (Obj.cells cs T (0, 0))) (FF F (h.put c (some b)) (fun l => if l = c then some (H.size, 0, b.sz) else ρ l)) :=
  R.newB hc hb b _ fun F' ρ' m s hk => .cells cs T hk hT (Nat.dvd_zero _) hs fun i j x hx => let ⟨v, hv1, h1, hr⟩ := hv i j x hx; ⟨v, by simpa using hv1, h1, hr.mono m s⟩

/-- A BLOCK IS WRITTEN: the name l is given up for the name c (which may be l itself). -/
theorem Rel.writeB (R : Rel ρ F base h H) {l c k o o' : Nat} {b b' : Blk} {H' : Array Obj}
    (hl : h l = some b) (hρ : ρ l = some (k, o, b.sz)) (hlt : k < H.size) (hne : ∀ j, j ≠ k → H'[j]? = H[j]?)
    (hsz : ∀ (cs : Array Value) (T : TypeId) (fz : Nat × Nat), H[k]? = some (Obj.cells cs T fz) → ∃ (cs' : Array Value) (T' : TypeId) (fz' : Nat × Nat), H'[k]? = some (Obj.cells cs' T' fz') ∧ cs.size ≤ cs'.size)
    (hle : H'.size = H.size) (hc : (c = l ∧ o' = o ∧ b'.sz = b.sz) ∨ ρ c = none)
    (hown : ∀ (F' : Nat → Prop) (ρ' : Pls), Mv H (FF F h ρ) H' F' → Sub ρ ρ' → OwnB H' F' ρ' k o' b') :
    Rel (fun m => if m = c then some (k, o', b'.sz) else ρ m) F base ((h.put l none).put c (some b')) H' ∧
    Mv H (FF F h ρ) H' (FF F ((h.put l none).put c (some b')) (fun m => if m = c then some (k, o', b'.sz) else ρ m)) ∧ Sub ρ (fun m => if m = c then some (k, o', b'.sz) else ρ m) := by
  have hsub : Sub ρ (fun m => if m = c then some (k, o', b'.sz) else ρ m) := by
    rcases hc with ⟨rfl, rfl, e⟩ | hc
    · intro m q hq
      by_cases e1 : m = c
      · subst e1; rw [hρ] at hq; simp only [if_true]; rw [← hq, e]
      · simp only [if_neg e1]; exact hq
    · exact sub_put hc
  have hbase : base ≤ k := by
    obtain ⟨k2, o2, h1, h2, _⟩ := R.own l b hl
    rw [hρ] at h1; cases h1; exact h2
  have hm : Mv H (FF F h ρ) H' (FF F ((h.put l none).put c (some b')) (fun m => if m = c then some (k, o', b'.sz) else ρ m)) := by
    refine ⟨fun j hj hF => ?_, fun j cs2 T2 fz2 hj => ?_, by omega⟩
    · have hjk : j ≠ k := fun e => hF (.inr ⟨l, b, _, hl, hρ, e.symm⟩)
      refine ⟨?_, hne j hjk⟩
      rintro (hF' | ⟨m, b2, p, hm, hp, e⟩)
      · exact hF (.inl hF')
      · by_cases e1 : m = c
        · simp only [if_pos e1] at hp; cases hp; exact hjk e.symm
        · simp only [if_neg e1] at hp
          simp only [Heap.put, if_neg e1] at hm
          split at hm
          · cases hm
          · exact hF (.inr ⟨m, b2, p, hm, hp, e⟩)
    · by_cases e : j = k
      · subst e
        exact hsz cs2 T2 fz2 hj
      · exact ⟨cs2, T2, fz2, by rw [hne j e]; exact hj, Nat.le_refl _⟩
  refine ⟨⟨fun m b2 hm2 => ?_, fun m m' b1 b2 p p' h1 h2 hne' hp hp' => ?_, fun m p hp => ?_, R.gb, glOk_stable (fun j hj _ => hne j (by have := R.gb; omega)) R.gl⟩, hm, hsub⟩
  · by_cases e1 : m = c
    · simp only [Heap.put, if_pos e1] at hm2
      cases hm2
      exact ⟨k, o', by simp only [if_pos e1], hbase, hown _ _ hm hsub⟩
    · simp only [Heap.put, if_neg e1] at hm2
      split at hm2
      · cases hm2
      · rename_i e2
        obtain ⟨k2, o2, h1, h2, h3⟩ := R.own m b2 hm2
        have hk2 : k2 ≠ k := R.inj m l b2 b _ _ hm2 hl e2 h1 hρ
        exact ⟨k2, o2, by simp only [if_neg e1]; exact h1, h2, h3.mono (hne k2 hk2) hm.toC hsub⟩
  · have up : ∀ {m : Nat} {b2 : Blk}, m ≠ c → ((h.put l none).put c (some b')) m = some b2 → m ≠ l ∧ h m = some b2 := by
      intro m b2 e1 hm2
      simp only [Heap.put, if_neg e1] at hm2
      split at hm2
      · cases hm2
      · exact ⟨by assumption, hm2⟩
    by_cases e1 : m = c
    · by_cases e2 : m' = c
      · exact absurd (e1.trans e2.symm) hne'
      · obtain ⟨a1, a2⟩ := up e2 h2
        simp only [if_pos e1] at hp
        simp only [if_neg e2] at hp'
        cases hp
        exact R.inj l m' b b2 (k, o, b.sz) p' hl a2 (fun e => a1 e.symm) hρ hp'
    · obtain ⟨a1, a2⟩ := up e1 h1
      simp only [if_neg e1] at hp
      by_cases e2 : m' = c
      · simp only [if_pos e2] at hp'
        cases hp'
        exact R.inj m l b1 b p (k, o, b.sz) a2 hl a1 hp hρ
      · obtain ⟨a3, a4⟩ := up e2 h2
        simp only [if_neg e2] at hp'
        exact R.inj m m' b1 b2 p p' a2 a4 hne' hp hp'
  · by_cases e1 : m = c
    · simp only [if_pos e1] at hp; cases hp; simp; omega
    · simp only [if_neg e1] at hp; have := R.bd m p hp; omega

/-- A ROW IS WRITTEN: the name l is given up for the name c (which may be l itself). -/
theorem Rel.write (R : Rel ρ F base h H) {l c k o o' : Nat} {b b' : Blk} {cs cs' : Array Value} {T : TypeId} {H' : Array Obj}
    (hl : h l = some b) (hρ : ρ l = some (k, o, b.sz)) (hH : H[k]? = some (Obj.cells cs T (0, 0))) (hH' : H'[k]? = some (Obj.cells cs' T (0, 0))) (hne : ∀ j, j ≠ k → H'[j]? = H[j]?)
    (hsz : cs.size ≤ cs'.size) (hle : H'.size = H.size) (hc : (c = l ∧ o' = o ∧ b'.sz = b.sz) ∨ ρ c = none) (hT : ∀ T0, b'.ty = some T0 → T = T0) (hd : b'.sz ∣ o')
    (hs : ∀ e ∈ b'.es, e.length = b'.sz) (hv : ∀ i j x, at2 b'.es i j = some x → ∃ v, cs'[o' + i * b'.sz + j]? = some v ∧ v.oneCell' = true ∧ VR H (FF F h ρ) ρ x v) :
    Rel (fun m => if m = c then some (k, o', b'.sz) else ρ m) F base ((h.put l none).put c (some b')) H' ∧
    Mv H (FF F h ρ) H' (FF F ((h.put l none).put c (some b')) (fun m => if m = c then some (k, o', b'.sz) else ρ m)) ∧ Sub ρ (fun m => if m = c then some (k, o', b'.sz) else ρ m) :=
  R.writeB hl hρ (getElem_lt hH) hne (fun cs2 T2 fz2 h2 => by rw [hH] at h2; cases h2; exact ⟨cs', T, _, hH', hsz⟩) hle hc
    fun F' ρ' m s => .cells cs' T hH' hT hd hs fun i j x hx => let ⟨v, hv1, h1, hr⟩ := hv i j x hx; ⟨v, hv1, h1, hr.mono m s⟩

/-- A block that nothing leads to, and that holds no cells, turns. -/
theorem Rel.touch (R : Rel ρ F base h H) {H' : Array Obj} {r : Nat} (hr : ¬ FF F h ρ r) (hne : ∀ j, j ≠ r → H'[j]? = H[j]?) (hle : H'.size = H.size) (hc : ∀ (cs : Array Value) (T : TypeId) (fz : Nat × Nat), H[r]? ≠ some (Obj.cells cs T fz)) :
    Rel ρ F base h H' ∧ MvC H (FF F h ρ) H' (FF F h ρ) := by
  have mv : MvC H (FF F h ρ) H' (FF F h ρ) := by
    refine ⟨fun k cs T fz hk hF => ⟨hF, hne k fun e => hc cs T fz (e ▸ hk)⟩, fun k cs T fz hk => ⟨cs, T, fz, ?_, Nat.le_refl _⟩, by omega⟩
    rw [hne k fun e => hc cs T fz (e ▸ hk)]; exact hk
  refine ⟨⟨fun l b hl => ?_, R.inj, fun l p hp => by have := R.bd l p hp; omega, R.gb, glOk_stable (fun j _ ⟨cs, T, fz, hj⟩ => hne j fun e => hc cs T fz (e ▸ hj)) R.gl⟩, mv⟩
  obtain ⟨k, o, h1, h2, h3⟩ := R.own l b hl
  exact ⟨k, o, h1, h2, h3.mono (hne k fun e => hr (.inr ⟨l, b, _, hl, h1, e⟩)) mv (Sub.refl _)⟩

theorem Rel.keep (R : Rel ρ F base h H) {H' : Array Obj} (hk : ∀ k, k < H.size → H'[k]? = H[k]?) (hle : H.size ≤ H'.size) : Rel ρ F base h H' ∧ Mv H (FF F h ρ) H' (FF F h ρ) := by
  have mv : Mv H (FF F h ρ) H' (FF F h ρ) := ⟨fun k h1 h2 => ⟨h2, hk k h1⟩, fun k cs T fz h1 => ⟨cs, T, fz, by rw [hk k (getElem_lt h1)]; exact h1, Nat.le_refl _⟩, hle⟩
  refine ⟨⟨fun l b hl => ?_, R.inj, fun l p hp => Nat.lt_of_lt_of_le (R.bd l p hp) hle, R.gb, glOk_stable (fun j _ ⟨cs, T, fz, hj⟩ => hk j (getElem_lt hj)) R.gl⟩, mv⟩
  obtain ⟨k, o, h1, h2, h3⟩ := R.own l b hl
  exact ⟨k, o, h1, h2, h3.mono (hk k h3.lt) mv.toC (Sub.refl _)⟩

end
end Go.Proofs.YtgbdbenepnbajaaGreatDoor.AM
