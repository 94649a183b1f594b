/- The memory's events: a new row, a row that is written, a row that is given up. -/
import Derived.Test.YtdckleaemkcapaaAmRel
import Derived.Deep.AppendSrc
import Derived.Laws.CopyRow
import Derived.Laws.MakeOwn
import Derived.Deep.DeepAppendWide
namespace Go.Proofs.Ytdckleaemkcapaa.AM
open Go
set_option linter.unusedVariables false

/-- What may not be taken for unturned: what the callers own, and what the call owns. -/
def FF (F : Nat → Prop) (h : Heap) (ρ : Pls) : Nat → Prop := fun k => F k ∨ ∃ l b p, h l = some b ∧ ρ l = some p ∧ p.1 = k

structure Rel (ρ : Pls) (F : Nat → Prop) (base : Nat) (h : Heap) (H : Array Obj) : Prop where
  own : ∀ l b, h l = some b → ∃ (k o : Nat) (cs : Array Value) (T : TypeId), ρ l = some (k, o, b.sz) ∧ base ≤ k ∧ H[k]? = some (Obj.cells cs T (0, 0)) ∧ (∀ e ∈ b.es, e.length = b.sz) ∧
    ∀ i j x, at2 b.es i j = some x → ∃ v, cs[o + i * b.sz + j]? = some v ∧ v.oneCell' = true ∧ VR H (FF F h ρ) ρ x v
  inj : ∀ l l' b b' p p', h l = some b → h l' = some b' → l ≠ l' → ρ l = some p → ρ l' = some p' → p.1 ≠ p'.1
  bd : ∀ l p, ρ l = some p → p.1 < H.size

section
variable {ρ : Pls} {F : Nat → Prop} {base : Nat} {h : Heap} {H : Array Obj}

theorem Rel.empty (F : Nat → Prop) (base : Nat) (bd : ∀ l p, ρ l = some p → p.1 < H.size) : Rel ρ F base Heap.none H := ⟨fun _ _ h => by simp [Heap.none] at h, fun _ _ _ _ _ _ h => by simp [Heap.none] at h, bd⟩

theorem FF_empty (F : Nat → Prop) (ρ : Pls) : FF F Heap.none ρ = F := by
  funext k
  unfold FF Heap.none
  simp

theorem getElem_lt {H : Array Obj} {k : Nat} {o : Obj} (h : H[k]? = some o) : k < H.size := (Array.getElem?_eq_some_iff.1 h).1

theorem Rel.kill (R : Rel ρ F base h H) (l : Nat) : Rel ρ F base (h.put l none) H ∧ Mv H (FF F h ρ) H (FF F (h.put l none) ρ) := by
  have hle : ∀ k, FF F (h.put l none) ρ k → FF F h ρ k := by
    rintro k (hk | ⟨m, b, p, hm, hp, e⟩)
    · exact .inl hk
    · unfold Heap.put at hm
      split at hm
      · cases hm
      · exact .inr ⟨m, b, p, hm, hp, e⟩
  have mv : Mv H (FF F h ρ) H (FF F (h.put l none) ρ) := Mv.less H hle
  have up : ∀ {m : Nat} {b : Blk}, (h.put l none) m = some b → h m = some b := by
    intro m b hm
    unfold Heap.put at hm
    split at hm
    · cases hm
    · exact hm
  refine ⟨⟨fun m b hm => ?_, fun m m' b b' p p' hm hm' => R.inj m m' b b' p p' (up hm) (up hm'), R.bd⟩, mv⟩
  obtain ⟨k, o, cs, T, h1, h2, h3, h4, h5⟩ := R.own m b (up hm)
  refine ⟨k, o, cs, T, h1, h2, h3, h4, fun i j x hx => ?_⟩
  obtain ⟨v, hv, h1, hr⟩ := h5 i j x hx
  exact ⟨v, hv, h1, hr.mono mv (Sub.refl _)⟩

theorem sub_put {c : Nat} {p : Pl} (hc : ρ c = none) : Sub ρ (fun l => if l = c then some p else ρ l) := by
  intro l q hq
  by_cases e : l = c
  · subst e; rw [hc] at hq; cases hq
  · simp only [if_neg e]; exact hq

theorem mv_push (H : Array Obj) (o : Obj) {F F' : Nat → Prop} (h : ∀ k, k < H.size → F' k → F k) : Mv H F (H.push o) F' := by
  refine ⟨fun k hk hF => ⟨fun h' => hF (h k hk h'), ?_⟩, fun k cs T fz hk => ⟨cs, T, fz, ?_, Nat.le_refl _⟩, by simp⟩
  · rw [Array.getElem?_push, if_neg (by omega)]
  · have := getElem_lt hk
    rw [Array.getElem?_push, if_neg (by omega)]
    exact hk

theorem Rel.lt (R : Rel ρ F base h H) {l : Nat} {b : Blk} (hl : h l = some b) : ∃ p, ρ l = some p ∧ p.1 < H.size ∧ base ≤ p.1 ∧ p.2.2 = b.sz := by
  obtain ⟨k, o, cs, T, h1, h2, h3, _⟩ := R.own l b hl
  exact ⟨_, h1, getElem_lt h3, h2, rfl⟩

/-- A NEW ROW, under the name c. -/
theorem Rel.new (R : Rel ρ F base h H) {c : Nat} (hc : ρ c = none) (hb : base ≤ H.size) (b : Blk) (cs : Array Value) (T : TypeId)
    (hs : ∀ e ∈ b.es, e.length = b.sz) (hv : ∀ i j x, at2 b.es i j = some x → ∃ v, cs[i * b.sz + j]? = some v ∧ v.oneCell' = true ∧ VR H (FF F h ρ) ρ x v) :
    Rel (fun l => if l = c then some (H.size, 0, b.sz) else ρ l) F base (h.put c (some b)) (H.push (Obj.cells cs T (0, 0))) ∧
    Mv H (FF F h ρ) (H.push (Obj.cells cs T (0, 0))) (FF F (h.put c (some b)) (fun l => if l = c then some (H.size, 0, b.sz) else ρ l)) := by
  have hm : Mv H (FF F h ρ) (H.push (Obj.cells cs T (0, 0))) (FF F (h.put c (some b)) (fun l => if l = c then some (H.size, 0, b.sz) else ρ l)) := by
    refine mv_push H _ fun k hk hF => ?_
    rcases hF with hF | ⟨l, b', p, hl, hp, e⟩
    · exact .inl hF
    · by_cases e1 : l = c
      · simp only [if_pos e1] at hp
        cases hp
        simp at e
        omega
      · simp only [if_neg e1] at hp
        simp only [Heap.put, if_neg e1] at hl
        exact .inr ⟨l, b', p, hl, hp, e⟩
  refine ⟨⟨fun l b' hl => ?_, fun l l' b1 b2 p p' hl hl' hne hp hp' => ?_, fun l p hp => ?_⟩, hm⟩
  · by_cases e1 : l = c
    · simp only [Heap.put, if_pos e1] at hl
      cases hl
      refine ⟨H.size, 0, cs, T, by simp only [if_pos e1], hb, by simp, hs, fun i j x hx => ?_⟩
      obtain ⟨v, hv1, h1, hr⟩ := hv i j x hx
      exact ⟨v, by simpa using hv1, h1, hr.mono hm (sub_put hc)⟩
    · simp only [Heap.put, if_neg e1] at hl
      obtain ⟨k, o, cs', T', h1, h2, h3, h4, h5⟩ := R.own l b' hl
      have := getElem_lt h3
      refine ⟨k, o, cs', T', by simp only [if_neg e1]; exact h1, h2, by rw [Array.getElem?_push, if_neg (by omega)]; exact h3, h4, fun i j x hx => ?_⟩
      obtain ⟨v, hv1, h1, hr⟩ := h5 i j x hx
      exact ⟨v, hv1, h1, hr.mono hm (sub_put hc)⟩
  · by_cases e1 : l = c
    · by_cases e2 : l' = c
      · exact absurd (e1.trans e2.symm) hne
      · simp only [Heap.put, if_neg e2] at hl'
        simp only [if_pos e1] at hp
        simp only [if_neg e2] at hp'
        obtain ⟨q, hq, hlt, _⟩ := R.lt hl'
        rw [hp'] at hq
        cases hq
        cases hp
        simp
        omega
    · simp only [Heap.put, if_neg e1] at hl
      simp only [if_neg e1] at hp
      obtain ⟨q, hq, hlt, _⟩ := R.lt hl
      rw [hp] at hq
      cases hq
      by_cases e2 : l' = c
      · simp only [if_pos e2] at hp'
        cases hp'
        simp
        omega
      · simp only [Heap.put, if_neg e2] at hl'
        simp only [if_neg e2] at hp'
        exact R.inj l l' b1 b2 p p' hl hl' hne hp hp'
  · by_cases e1 : l = c
    · simp only [if_pos e1] at hp; cases hp; simp
    · simp only [if_neg e1] at hp; have := R.bd l p hp; simp; omega

/-- A ROW IS WRITTEN: the name l is given up for the name c (which may be l itself). -/
theorem Rel.write (R : Rel ρ F base h H) {l c k o o' : Nat} {b b' : Blk} {cs cs' : Array Value} {T : TypeId} {H' : Array Obj}
    (hl : h l = some b) (hρ : ρ l = some (k, o, b.sz)) (hH : H[k]? = some (Obj.cells cs T (0, 0))) (hH' : H'[k]? = some (Obj.cells cs' T (0, 0))) (hne : ∀ j, j ≠ k → H'[j]? = H[j]?)
    (hsz : cs.size ≤ cs'.size) (hle : H'.size = H.size) (hc : (c = l ∧ o' = o ∧ b'.sz = b.sz) ∨ ρ c = none)
    (hs : ∀ e ∈ b'.es, e.length = b'.sz) (hv : ∀ i j x, at2 b'.es i j = some x → ∃ v, cs'[o' + i * b'.sz + j]? = some v ∧ v.oneCell' = true ∧ VR H (FF F h ρ) ρ x v) :
    Rel (fun m => if m = c then some (k, o', b'.sz) else ρ m) F base ((h.put l none).put c (some b')) H' ∧
    Mv H (FF F h ρ) H' (FF F ((h.put l none).put c (some b')) (fun m => if m = c then some (k, o', b'.sz) else ρ m)) ∧ Sub ρ (fun m => if m = c then some (k, o', b'.sz) else ρ m) := by
  have hsub : Sub ρ (fun m => if m = c then some (k, o', b'.sz) else ρ m) := by
    rcases hc with ⟨rfl, rfl, e⟩ | hc
    · intro m q hq
      by_cases e1 : m = c
      · subst e1; rw [hρ] at hq; simp only [if_true]; rw [← hq, e]
      · simp only [if_neg e1]; exact hq
    · exact sub_put hc
  have hlt := getElem_lt hH
  have hbase : base ≤ k := by
    obtain ⟨k2, o2, cs2, T2, h1, h2, _⟩ := R.own l b hl
    rw [hρ] at h1; cases h1; exact h2
  have hm : Mv H (FF F h ρ) H' (FF F ((h.put l none).put c (some b')) (fun m => if m = c then some (k, o', b'.sz) else ρ m)) := by
    refine ⟨fun j hj hF => ?_, fun j cs2 T2 fz2 hj => ?_, by omega⟩
    · have hjk : j ≠ k := fun e => hF (.inr ⟨l, b, _, hl, hρ, e.symm⟩)
      refine ⟨?_, hne j hjk⟩
      rintro (hF' | ⟨m, b2, p, hm, hp, e⟩)
      · exact hF (.inl hF')
      · by_cases e1 : m = c
        · simp only [if_pos e1] at hp; cases hp; exact hjk e.symm
        · simp only [if_neg e1] at hp
          simp only [Heap.put, if_neg e1] at hm
          split at hm
          · cases hm
          · exact hF (.inr ⟨m, b2, p, hm, hp, e⟩)
    · by_cases e : j = k
      · subst e
        rw [hH] at hj; cases hj
        exact ⟨cs', T, _, hH', hsz⟩
      · exact ⟨cs2, T2, fz2, by rw [hne j e]; exact hj, Nat.le_refl _⟩
  refine ⟨⟨fun m b2 hm2 => ?_, fun m m' b1 b2 p p' h1 h2 hne' hp hp' => ?_, fun m p hp => ?_⟩, hm, hsub⟩
  · by_cases e1 : m = c
    · simp only [Heap.put, if_pos e1] at hm2
      cases hm2
      refine ⟨k, o', cs', T, by simp only [if_pos e1], hbase, hH', hs, fun i j x hx => ?_⟩
      obtain ⟨v, hv1, h1, hr⟩ := hv i j x hx
      exact ⟨v, hv1, h1, hr.mono hm hsub⟩
    · simp only [Heap.put, if_neg e1] at hm2
      split at hm2
      · cases hm2
      · rename_i e2
        obtain ⟨k2, o2, cs2, T2, h1, h2, h3, h4, h5⟩ := R.own m b2 hm2
        have hk2 : k2 ≠ k := R.inj m l b2 b _ _ hm2 hl e2 h1 hρ
        refine ⟨k2, o2, cs2, T2, by simp only [if_neg e1]; exact h1, h2, by rw [hne k2 hk2]; exact h3, h4, fun i j x hx => ?_⟩
        obtain ⟨v, hv1, h1, hr⟩ := h5 i j x hx
        exact ⟨v, hv1, h1, hr.mono hm hsub⟩
  · have up : ∀ {m : Nat} {b2 : Blk}, m ≠ c → ((h.put l none).put c (some b')) m = some b2 → m ≠ l ∧ h m = some b2 := by
      intro m b2 e1 hm2
      simp only [Heap.put, if_neg e1] at hm2
      split at hm2
      · cases hm2
      · exact ⟨by assumption, hm2⟩
    by_cases e1 : m = c
    · by_cases e2 : m' = c
      · exact absurd (e1.trans e2.symm) hne'
      · obtain ⟨a1, a2⟩ := up e2 h2
        simp only [if_pos e1] at hp
        simp only [if_neg e2] at hp'
        cases hp
        exact R.inj l m' b b2 (k, o, b.sz) p' hl a2 (fun e => a1 e.symm) hρ hp'
    · obtain ⟨a1, a2⟩ := up e1 h1
      simp only [if_neg e1] at hp
      by_cases e2 : m' = c
      · simp only [if_pos e2] at hp'
        cases hp'
        exact R.inj m l b1 b p (k, o, b.sz) a2 hl a1 hp hρ
      · obtain ⟨a3, a4⟩ := up e2 h2
        simp only [if_neg e2] at hp'
        exact R.inj m m' b1 b2 p p' a2 a4 hne' hp hp'
  · by_cases e1 : m = c
    · simp only [if_pos e1] at hp; cases hp; simp; omega
    · simp only [if_neg e1] at hp; have := R.bd m p hp; omega

theorem Rel.keep (R : Rel ρ F base h H) {H' : Array Obj} (hk : ∀ k, k < H.size → H'[k]? = H[k]?) (hle : H.size ≤ H'.size) : Rel ρ F base h H' ∧ Mv H (FF F h ρ) H' (FF F h ρ) := by
  have mv : Mv H (FF F h ρ) H' (FF F h ρ) := ⟨fun k h1 h2 => ⟨h2, hk k h1⟩, fun k cs T fz h1 => ⟨cs, T, fz, by rw [hk k (getElem_lt h1)]; exact h1, Nat.le_refl _⟩, hle⟩
  refine ⟨⟨fun l b hl => ?_, R.inj, fun l p hp => Nat.lt_of_lt_of_le (R.bd l p hp) hle⟩, mv⟩
  obtain ⟨k, o, cs, T, h1, h2, h3, h4, h5⟩ := R.own l b hl
  refine ⟨k, o, cs, T, h1, h2, by rw [hk k (getElem_lt h3)]; exact h3, h4, fun i j x hx => ?_⟩
  obtain ⟨v, hv, h6, h7⟩ := h5 i j x hx
  exact ⟨v, hv, h6, h7.mono mv (Sub.refl _)⟩

end
end Go.Proofs.Ytdckleaemkcapaa.AM
