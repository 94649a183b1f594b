/- Rows of the call's own that grow at their end. -/
import Derived.Test.YtgbdbenepnbajaaGreatDoorS2
set_option maxHeartbeats 0
set_option maxRecDepth 8000
set_option linter.unusedSimpArgs false
set_option linter.unusedVariables false
set_option linter.unusedSectionVars false
namespace Go.Proofs.YtgbdbenepnbajaaGreatDoor.AM
open Go Go.Proofs
attribute [local simp] fieldAddrA ld setCells stA skipV appendA hd makeA bnd kindA freshA killOk loadsAt edgesOn Region.binds newT empT lay_get allocA buildA buildRow lenA els indexAddrA isNil opA evA lit_int lit_bool lit_nil lit_nilf yldA binI unA pickA boolV intV fieldA mk eqs
abbrev ints (l : List Nat) : List (List AV) := l.map fun n => [I (n : Nat)]
abbrev byts (bs : Str) : List (List AV) := bs.map fun b => [U b]
/-- The name that a row has. -/
def nm : AV → Option Nat
  | .sl l .. => some l
  | _ => none
@[simp] theorem nm_sl (l sz off n : Nat) : nm (.sl l sz off n) = some l := rfl
@[simp] theorem nm_ro (b : Bool) (es : List (List AV)) : nm (.ro b es) = none := rfl
/-- A row of the call's own, or none. -/
def OutG (z e : Nat) (h : Heap) (c : Nat) (v : AV) (es : List (List AV)) : Prop := (v = .ro true [] ∧ es = []) ∨ ∃ n, v = .sl n z 0 es.length ∧ es ≠ [] ∧ n < c ∧ h n = some ⟨z, es, some e⟩
theorem OutG.nil (z e : Nat) (h : Heap) (c : Nat) : OutG z e h c (.ro true []) [] := .inl ⟨rfl, rfl⟩
theorem OutG.lt {z e : Nat} {h : Heap} {c : Nat} {v : AV} {es : List (List AV)} (O : OutG z e h c v es) {m : Nat} (hm : nm v = some m) : m < c := by
  rcases O with ⟨rfl, _⟩ | ⟨n, rfl, _, h1, _⟩
  · cases hm
  · cases hm; exact h1
theorem OutG.nopan {z e : Nat} {h : Heap} {c : Nat} {v : AV} {es : List (List AV)} (O : OutG z e h c v es) : v.isPan = false ∧ okc v = true ∧ v.cells = [v] := by
  rcases O with ⟨rfl, _⟩ | ⟨n, rfl, _, h1, _⟩ <;> exact ⟨rfl, rfl, rfl⟩
/-- Elsewhere the memory turns. -/
theorem OutG.frame {z e : Nat} {h h' : Heap} {c c' : Nat} {v : AV} {es : List (List AV)} (O : OutG z e h c v es) (hc : c ≤ c') (hh : ∀ m, nm v = some m → m < c → h' m = h m) : OutG z e h' c' v es := by
  rcases O with ⟨rfl, rfl⟩ | ⟨n, rfl, h0, h1, h2⟩
  · exact .inl ⟨rfl, rfl⟩
  · exact .inr ⟨n, rfl, h0, by omega, by rw [hh n rfl h1, h2]⟩
/-- What an append has done to the rest. -/
structure Grown (h : Heap) (c : Nat) (v : AV) (h' : Heap) (c' : Nat) (v' : AV) : Prop where
  le : c ≤ c'
  get : ∀ m, m < c → nm v ≠ some m → h' m = h m
  new : ∀ m, nm v' = some m → nm v = some m ∨ c ≤ m
/-- AN APPEND onto a row of its own. -/
theorem outG_app {t e sz by_ : Nat} {z : List AV} {h : Heap} {c : Nat} {v x : AV} {es xs : List (List AV)} (O : OutG sz e h c v es) (h1 : slT Tryz.prog t = some e) (h2 : szT Tryz.prog e = some sz) (h3 : byT Tryz.prog e = some by_) (h4 : zeT Tryz.prog e = some z) (hz : z.length = sz)
    (hx : srcA h x = some xs) (hd : AM.hd xs sz = true) (hl : (es.length + xs.length) * by_ ≤ 140737488355328) (hl2 : es.length + xs.length ≤ 140737488355328) :
    ∃ v' h' c', appendA Tryz.prog t h c v x = some (v', h', c') ∧ OutG sz e h' c' v' (es ++ xs) ∧ Grown h c v h' c' v' := by
  unfold appendA
  simp only [h1, h2, h3, h4, hx, Option.bind_some, hz, hd, and_self, if_true]
  cases xs with
  | nil =>
    rcases O with ⟨rfl, rfl⟩ | ⟨n, rfl, g0, g1, g2⟩
    · exact ⟨_, _, _, rfl, .inl ⟨rfl, rfl⟩, ⟨Nat.le_refl _, fun _ _ _ => rfl, fun m hm => .inl hm⟩⟩
    · exact ⟨_, _, _, rfl, .inr ⟨n, by simp, by simpa using g0, g1, by simpa using g2⟩, ⟨Nat.le_refl _, fun _ _ _ => rfl, fun m hm => .inl hm⟩⟩
  | cons r xs =>
    simp only [List.isEmpty_cons, Bool.false_eq_true, if_false]
    rcases O with ⟨rfl, rfl⟩ | ⟨n, rfl, g0, g1, g2⟩
    · simp only [List.length_nil, Nat.zero_add] at hl hl2
      have hc : (r :: xs).length * by_ ≤ room ∧ (r :: xs).length ≤ room := ⟨hl, hl2⟩
      simp only [hc, and_self, if_true]
      exact ⟨_, _, _, rfl, .inr ⟨c, by simp, by simp, by omega, by simp⟩, ⟨by omega, fun m hm _ => by simp; omega, fun m hm => by simp at hm; omega⟩⟩
    · have he : els h (.sl n sz 0 es.length) = some es := by simp [g2, List.take_of_length_le]
      have hc : (es.length + (r :: xs).length) * by_ ≤ room ∧ es.length + (r :: xs).length ≤ room := ⟨hl, hl2⟩
      simp only [he, Option.bind_some, hc, and_self, if_true]
      refine ⟨_, _, _, rfl, .inr ⟨c, by simp, by simp, by omega, ?_⟩, ⟨by omega, fun m hm hne => ?_, fun m hm => by simp at hm; omega⟩⟩
      · simp [g2, tyK]
      · have a1 : m ≠ c := by omega
        have a2 : m ≠ n := fun e => hne (by rw [e]; rfl)
        simp [a1, a2]
/-- .. of what was made just ahead of it. -/
theorem outG_one {t e sz by_ : Nat} {z : List AV} {h : Heap} {c : Nat} {v : AV} {es : List (List AV)} (O : OutG sz e h c v es) (r : List AV) (T : Option Nat) (hr : r.length = sz) (h1 : slT Tryz.prog t = some e) (h2 : szT Tryz.prog e = some sz) (h3 : byT Tryz.prog e = some by_) (h4 : zeT Tryz.prog e = some z) (hz : z.length = sz)
    (hl : (es.length + 1) * by_ ≤ 140737488355328) (hl2 : es.length + 1 ≤ 140737488355328) :
    ∃ v' h' c', appendA Tryz.prog t (h.put c (some ⟨sz, [r], T⟩)) (c + 1) v (.sl c sz 0 1) = some (v', h', c') ∧ OutG sz e h' c' v' (es ++ [r]) ∧ Grown h c v h' c' v' := by
  have O1 : OutG sz e (h.put c (some ⟨sz, [r], T⟩)) (c + 1) v es := O.frame (by omega) (fun m _ hm => by simp; omega)
  have hx : srcA (h.put c (some ⟨sz, [r], T⟩)) (.sl c sz 0 1) = some [r] := by simp
  obtain ⟨v', h', c', a1, a2, a3⟩ := outG_app O1 h1 h2 h3 h4 hz hx (by simp [hr]) hl hl2
  refine ⟨v', h', c', a1, a2, ⟨by have := a3.le; omega, fun m hm hne => ?_, fun m hm => ?_⟩⟩
  · rw [a3.get m (by omega) hne]
    simp
    omega
  · rcases a3.new m hm with h | h
    · exact .inl h
    · exact .inr (by omega)
/-- Two rows have different names. -/
def Dj (u v : AV) : Prop := ∀ m, nm u = some m → nm v ≠ some m
theorem Dj.symm {u v : AV} (h : Dj u v) : Dj v u := fun m h1 h2 => h m h2 h1
theorem Dj.none (b : Bool) (es : List (List AV)) (v : AV) : Dj (.ro b es) v := fun m h => by cases h
theorem Grown.other {z e : Nat} {h : Heap} {c : Nat} {v u : AV} {h' : Heap} {c' : Nat} {v' : AV} {es : List (List AV)} (g : Grown h c v h' c' v') (O : OutG z e h c u es) (d : Dj u v) : OutG z e h' c' u es ∧ Dj u v' := by
  refine ⟨O.frame g.le fun m hm hc => g.get m hc (d m hm), fun m hm h1 => ?_⟩
  rcases g.new m h1 with h2 | h2
  · exact d m hm h2
  · have := O.lt hm
    omega
theorem hd_ints (z : List Nat) : AM.hd (ints z) 1 = true := by cases z <;> rfl
theorem hd_byts (z : Str) : AM.hd (byts z) 1 = true := by cases z <;> rfl
theorem hd_strs (z : List Str) : AM.hd (strs z) 1 = true := by cases z <;> rfl
theorem len_ints (z : List Nat) : (ints z).length = z.length := by simp
theorem len_byts (z : Str) : (byts z).length = z.length := by simp
/-- An element of a row of its own is read. -/
theorem outG_get {z e : Nat} {h : Heap} {c : Nat} {v : AV} {es : List (List AV)} (O : OutG z e h c v es) {k : Nat} {r : List AV} (hr : es[k]? = some r) : ∃ n, v = .sl n z 0 es.length ∧ n < c ∧ h n = some ⟨z, es, some e⟩ := by
  rcases O with ⟨rfl, rfl⟩ | ⟨n, rfl, h0, h1, h2⟩
  · simp at hr
  · exact ⟨n, rfl, h1, h2⟩
theorem max_nat (a b : Nat) : (if (b : Int) > (a : Int) then (b : Int) else (a : Int)) = ((max a b : Nat) : Int) := by
  split <;> omega
theorem min_nat (a b : Nat) : (if (b : Int) < (a : Int) then (b : Int) else (a : Int)) = ((min a b : Nat) : Int) := by
  split <;> omega
theorem bytesM (bs : Str) : (byts bs).mapM byteA = some bs := by
  induction bs with
  | nil => rfl
  | cons b bs ih =>
    have e : byteA [U b] = some b := by
      have h : (0 : Int) ≤ (b.toNat : Int) ∧ ((b.toNat : Nat) : Int) < 256 := ⟨by omega, by have := b.toNat_lt; omega⟩
      show (if (0 : Int) ≤ (b.toNat : Int) ∧ ((b.toNat : Nat) : Int) < 256 then some (UInt8.ofNat ((b.toNat : Int).toNat)) else none) = some b
      rw [if_pos h]
      simp
    simp only [byts, List.map_cons, List.mapM_cons] at ih ⊢
    rw [e, ih]
    rfl
end Go.Proofs.YtgbdbenepnbajaaGreatDoor.AM
