/- Texts of the proof: part T24. -/
import Derived.Test.YtbaoaodimbcebaaDoorT23
set_option maxHeartbeats 0
set_option maxRecDepth 8000
set_option linter.unusedSimpArgs false
set_option linter.unusedVariables false
set_option linter.unusedSectionVars false
namespace Go.Proofs.YtbaoaodimbcebaaDoor.AM
open Go Go.Proofs
attribute [local simp] fieldAddrA ld setCells stA skipV appendA hd makeA bnd kindA freshA killOk loadsAt newT empT lay_get allocA buildA buildRow lenA els indexAddrA isNil opA evA lit_int lit_bool lit_nil lit_nilf yldA binI unA pickA boolV intV fieldA mk eqs
def txts (rs : List Row) : List (List Str) := rs.map (·.2)
theorem mem_txts {rs : List Row} {row : List Str} (h : row ∈ txts rs) : ∃ r ∈ rs, r.2 = row := List.mem_map.1 h
@[simp] theorem txts_nil : txts [] = [] := rfl
@[simp] theorem wid_nil : wid [] = [] := rfl
theorem outG_set {e : Nat} {h : Heap} {c n len : Nat} {es : List (List AV)} (hl : es.length = len) (h0 : es ≠ []) (h1 : n < c) (k : Nat) (r : List AV) : OutG e (h.put n (some ⟨1, es.set k r, some e⟩)) c (.sl n 1 0 len) (es.set k r) :=
  .inr ⟨n, by rw [List.length_set, hl], by intro e; exact h0 (by simpa using e), h1, by simp⟩
theorem wid_step (rs : List Row) (j : Nat) {r : Row} (h : rs[j]? = some r) : wid (txts (rs.take (j + 1))) = widR (wid (txts (rs.take j))) (lens r.2) := by
  have h2 : (txts rs)[j]? = some r.2 := by simp [txts, h]
  have := fold_step (fun wd row => widR wd (lens row)) [] (txts rs) j h2
  unfold wid txts
  rw [List.map_take, List.map_take]
  exact this
theorem ints_get (wd : List Nat) (k : Nat) {x : Nat} (h : wd[k]? = some x) : (ints wd)[k]? = some [I (x : Nat)] := by simp [h]
def mxI (a b : Int) : Int := if b > a then b else a
def mnI (a b : Int) : Int := if b < a then b else a
@[simp] theorem max_b (ts : List TypeId) (h : Heap) (c : Nat) (a b : Int) : builtinA Tryd.prog .max ts h c [I a, I b] = some (I (mxI a b), h, c) := rfl
@[simp] theorem min_b (ts : List TypeId) (h : Heap) (c : Nat) (a b : Int) : builtinA Tryd.prog .min ts h c [I a, I b] = some (I (mnI a b), h, c) := rfl
theorem mxI_nat (a b : Nat) : mxI a b = ((max a b : Nat) : Int) := max_nat a b
theorem mnI_nat (a b : Nat) : mnI a b = ((min a b : Nat) : Int) := min_nat a b
/-- The step of a column's width, on the machine's row. -/
theorem wid_ints (wd ls : List Nat) (k x : Nat) (h : ls[k]? = some x) : ints (widR wd (ls.take (k + 1))) =
    if k = (widR wd (ls.take k)).length then (ints (widR wd (ls.take k)) ++ [[I (0 : Nat)]]).set k [I ((max 0 x : Nat) : Int)] else (ints (widR wd (ls.take k))).set k [I ((max ((widR wd (ls.take k)).getD k 0) x : Nat) : Int)] := by
  rw [widR_step wd ls k x h]
  split
  · rename_i hk
    generalize widR wd (ls.take k) = cur at hk
    subst hk
    simp
  · simp [List.map_set]
theorem widR_ge (wd ls : List Nat) (k : Nat) (h : k < ls.length) : k ≤ (widR wd (ls.take k)).length := by
  rw [widR_len, List.length_take]
  omega
def WidR (wd : List Nat) (o : Option (AV × Heap × Nat)) : Prop := ∃ h c v, o = some (v, h, c) ∧ OutG 3 h c v (ints wd)
def WInv (z : Bool) (rs : List Row) (j : Nat) (s : St) : Prop := s.t 8 = .ro z (rowsE rs) ∧ s.t 9 = I rs.length ∧ s.t 10 = I j ∧ OutG 3 s.h s.c (s.t 3) (ints (wid (txts (rs.take j))))
def WIx (z : Bool) (rs : List Row) (j : Nat) (r : Row) (es : List (List AV)) (k : Nat) (s : St) : Prop := s.t 8 = .ro z (rowsE rs) ∧ s.t 9 = I rs.length ∧ s.t 10 = I j ∧ s.t 14 = .ro r.1 (strs r.2) ∧ s.t 15 = I r.2.length ∧ s.t 16 = I k ∧ OutG 3 s.h s.c (s.t 3) es
def WIn (z : Bool) (rs : List Row) (j : Nat) (r : Row) (wd : List Nat) (k : Nat) (s : St) : Prop := WIx z rs j r (ints (widR wd ((lens r.2).take k))) k s
theorem widths_ev (z : Bool) (rs : List Row) (hb : Bd rs) : WidR (wid (txts rs)) (run Tryd.prog (mdT tblT) 26 [.ro z (rowsE rs)] Heap.none 0) := by
  rw [run_eq (show mdT tblT 26 = some .pure from rfl) rfl, Tryd.func26]
  simp -implicitDefEqProofs [Tryd.f26, Option.bind_assoc, -decide_eq_true_eq, -decide_eq_false_iff_not, -List.any_eq_true, -List.any_eq_false, -bne_iff_ne, -beq_iff_eq, -beq_eq_false_iff_ne, -bne_eq_false_iff_eq]
  refine count_to (R := WidR (wid (txts rs))) rs.length (WInv z rs) _ ?_ ?_ ?_
  · exact ⟨by simp, by simp, by simp, by simpa using OutG.nil 3 _ _⟩
  · rintro j ⟨t, h, c⟩ ⟨h8, h9, h10, O⟩ hj
    simp only at h8 h9 h10 O
    have k0 : decide (j < rs.length) = true := by simp [hj]
    obtain ⟨r, hr⟩ : ∃ r, rs[j]? = some r := ⟨rs[j], by simp [hj]⟩
    have hrb := hb.2 r (List.mem_of_getElem? hr)
    have hwl : (wid (txts (rs.take j))).length ≤ 1200 := wid_len fun row hrow => by
      obtain ⟨r', h1, rfl⟩ := List.mem_map.1 hrow
      exact (hb.2 r' (List.mem_of_mem_take h1)).1
    have hws := wid_step rs j hr
    simp -implicitDefEqProofs [h8, h9, h10, k0, hr, Option.bind_assoc, -decide_eq_true_eq, -decide_eq_false_iff_not, -List.any_eq_true, -List.any_eq_false, -bne_iff_ne, -beq_iff_eq, -beq_eq_false_iff_ne, -bne_eq_false_iff_eq]
    have hkj : IntKind.i64.wrap ((j : Int) + 1) = ((j + 1 : Nat) : Int) := wrap_succ (by have := hb.1; omega)
    refine count_to (R := GoesOn (WInv z rs (j + 1))) r.2.length (WIn z rs j r (wid (txts (rs.take j)))) _ ?_ ?_ ?_
    · exact ⟨by simp [h8], by simp [h9], by simp [h10], by simp, by simp, by simp, by simpa [widR_nil] using O⟩
    · clear hws
      generalize wid (txts (rs.take j)) = wd at O hwl ⊢
      rintro k ⟨t2, h2, c2⟩ ⟨a8, a9, a10, a14, a15, a16, O2⟩ hk
      simp only at a8 a9 a10 a14 a15 a16 O2
      have k1 : decide (k < r.2.length) = true := by simp [hk]
      obtain ⟨y, hy⟩ : ∃ y, r.2[k]? = some y := ⟨r.2[k], by simp [hk]⟩
      have hly : (lens r.2)[k]? = some y.length := by simp [hy]
      have hkk : IntKind.i64.wrap ((k : Int) + 1) = ((k + 1 : Nat) : Int) := wrap_succ (by have := hrb.1; omega)
      have hge := widR_ge wd (lens r.2) k (by simpa using hk)
      have hlen2 : (widR wd ((lens r.2).take k)).length ≤ 1200 := by
        rw [widR_len, List.length_take]
        have h1 := hrb.1
        have h2 : (lens r.2).length = r.2.length := by simp
        omega
      have hst := wid_ints wd (lens r.2) k y.length hly
      unfold WIn
      rw [hst]
      generalize widR wd ((lens r.2).take k) = cur at O2 hge hlen2 ⊢
      have hol : OutG 3 h2 c2 (t2 3) (ints cur) → ∀ h c, builtinA Tryd.prog .len [39] h c [t2 3] = some (I cur.length, h, c) := by
        rintro (⟨e1, e2⟩ | ⟨n, e1, _⟩) h c
        · have : cur = [] := by simpa using e2
          subst this
          rw [e1]
          simp
        · rw [e1]; simp
      have hlen := hol O2
      by_cases g : k = cur.length
      · rw [if_pos g]
        have k2 : ((k : Int) == (cur.length : Int)) = true := by rw [beq_iff_eq]; omega
        obtain ⟨v', h', c', e, O3, G⟩ := outG_one (t := 39) (by_ := 8) (z := [I 0]) O2 (I 0) (some 3) (by simp) (by simp) (by simp) (by simp) rfl (by simp; omega) (by simp; omega)
        obtain ⟨n, rfl, hn, hhn⟩ := outG_get O3 (k := cur.length) (r := [I 0]) (by simp)
        simp only [List.length_append, List.length_map, List.length_singleton] at e O3
        have kl : (k : Int) < ((cur.length : Int) + 1) := by omega
        have hgk : (ints cur ++ [[I 0]])[k]? = some [I 0] := by rw [g]; simp
        rw [show max 0 y.length = y.length by omega]
        have hm : mxI 0 (y.length : Int) = (y.length : Int) := by unfold mxI; split <;> omega
        simp -implicitDefEqProofs [a8, a9, a10, a14, a15, a16, k1, hy, hlen, k2, -appendA, e, kl, hhn, hgk, hm, hkk, -decide_eq_true_eq, -decide_eq_false_iff_not, -List.any_eq_true, -List.any_eq_false, -bne_iff_ne, -beq_iff_eq, -beq_eq_false_iff_ne, -bne_eq_false_iff_eq]
        exact ⟨by simp [a8], by simp [a9], by simp [a10], by simp [a14], by simp [a15], by simp, by simpa using outG_set (by simp) (by simp) hn k [I (y.length : Nat)]⟩
      · rw [if_neg g]
        have k2 : ((k : Int) == (cur.length : Int)) = false := by rw [beq_eq_false_iff_ne]; omega
        have hkc : k < cur.length := by omega
        obtain ⟨x, hx⟩ : ∃ x, cur[k]? = some x := ⟨cur[k], by simp [hkc]⟩
        obtain ⟨n, e3, hn, hhn⟩ := outG_get O2 (ints_get cur k hx)
        have kl : (k : Int) < (cur.length : Int) := by omega
        have hgk := ints_get cur k hx
        have hm := mxI_nat x y.length
        have hgd : cur.getD k 0 = x := by rw [List.getD_eq_getElem?_getD, hx]; rfl
        rw [hgd]
        generalize max x y.length = m at hm ⊢
        rw [e3] at hlen
        simp -implicitDefEqProofs [a8, a9, a10, a14, a15, a16, k1, hy, e3, hlen, k2, kl, hhn, hgk, hm, hkk, -decide_eq_true_eq, -decide_eq_false_iff_not, -List.any_eq_true, -List.any_eq_false, -bne_iff_ne, -beq_iff_eq, -beq_eq_false_iff_ne, -bne_eq_false_iff_eq]
        exact ⟨by simp [a8], by simp [a9], by simp [a10], by simp [a14], by simp [a15], by simp, by simpa [e3] using outG_set (by simp) (by intro e; simp at e; subst e; simp at hkc) hn k [I (m : Nat)]⟩
    · rintro ⟨t2, h2, c2⟩ ⟨a8, a9, a10, a14, a15, a16, O2⟩
      simp only at a8 a9 a10 a14 a15 a16 O2
      rw [show (lens r.2).take r.2.length = lens r.2 from List.take_of_length_le (by simp), ← hws] at O2
      simp -implicitDefEqProofs [a8, a9, a10, a14, a15, a16, hkj, -decide_eq_true_eq, -decide_eq_false_iff_not, -List.any_eq_true, -List.any_eq_false, -bne_iff_ne, -beq_iff_eq, -beq_eq_false_iff_ne, -bne_eq_false_iff_eq]
      exact ⟨by simp [a8], by simp [a9], by simp, by simpa using O2⟩
  · rintro ⟨t, h, c⟩ ⟨h8, h9, h10, O⟩
    simp only at h8 h9 h10 O
    rw [List.take_length] at O
    simp -implicitDefEqProofs [h8, h9, h10, -decide_eq_true_eq, -decide_eq_false_iff_not, -List.any_eq_true, -List.any_eq_false, -bne_iff_ne, -beq_iff_eq, -beq_eq_false_iff_ne, -bne_eq_false_iff_eq]
    exact ⟨_, _, _, rfl, O⟩
end Go.Proofs.YtbaoaodimbcebaaDoor.AM
