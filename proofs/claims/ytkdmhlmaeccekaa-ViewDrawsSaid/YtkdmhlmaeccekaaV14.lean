/- Texts of the proof: part V14. -/
import Derived.Test.YtkdmhlmaeccekaaV13
set_option maxHeartbeats 0
set_option linter.unusedSimpArgs false
namespace Go.Proofs.Ytkdmhlmaeccekaa.AM
open Go Go.Proofs
attribute [local simp] AV.cells okc AV.isBad fieldAddrA ld setCells stA skipV appendA hd makeA bnd sliceA kindA freshA lay_get allocA buildA buildRow builtinA lenA els indexAddrA isNil opA evA lit yldA binA binI unA pickA boolV intV fieldA mk flat lf lf.lfs frz
abbrev rowI (n : Nat) (f : Nat → Int) : List (List AV) := (List.range n).map fun m => [I (f m)]
abbrev rowB (n : Nat) (f : Nat → Bool) : List (List AV) := (List.range n).map fun m => [B (f m)]
theorem row_congr {α : Type} {n : Nat} {f g : Nat → α} (h : ∀ m, m < n → f m = g m) : (List.range n).map f = (List.range n).map g :=
  List.map_congr_left fun m hm => h m (by simpa using hm)
theorem row_set {α : Type} (n : Nat) (f : Nat → α) (j : Nat) (x : α) : ((List.range n).map f).set j x = (List.range n).map fun m => if m = j then x else f m := by
  apply List.ext_getElem (by simp)
  intro i h1 h2
  rw [List.getElem_set]
  simp only [List.getElem_map, List.getElem_range]
  by_cases e : j = i
  · rw [if_pos e, if_pos e.symm]
  · rw [if_neg e, if_neg (Ne.symm e)]
theorem mapM_same {α : Type} (f : α → Option α) : ∀ (l : List α), (∀ x ∈ l, f x = some x) → l.mapM f = some l
  | [], _ => rfl
  | x :: r, h => by
    rw [List.mapM_cons, h x List.mem_cons_self, mapM_same f r fun y hy => h y (List.mem_cons_of_mem _ hy)]
    rfl
theorem frz_sl {h : Heap} {l n : Nat} {es : List (List AV)} (hl : h l = some ⟨1, es⟩) (hn : es.length = n) (hv : ∀ e ∈ es, ∃ v, e = [.val v]) : frz h depth (.sl l 1 0 n) = some (.ro false es) := by
  show ((els h (.sl l 1 0 n)).bind fun es => (es.mapM fun (e : List AV) => e.mapM (frz h 11)).map (AV.ro false)) = _
  have e1 : els h (.sl l 1 0 n) = some es := by
    simp only [els, hl, Option.bind_some]
    rw [if_pos (by omega)]
    simp [← hn]
  rw [e1, Option.bind_some, mapM_same]
  · rfl
  · intro e he
    obtain ⟨v, rfl⟩ := hv e he
    rfl
theorem next_c (h : Heap) (c a b n : Nat) (w : Nat → Int) (t : Nat → Bool) (ha : h a = some ⟨1, rowI n w⟩) (hb : h b = some ⟨1, rowB n t⟩) (hn : n ≤ 4000) :
    callA (mdT tblV) (run Try.prog (mdT tblV)) 28 [.sl a 1 0 n, .sl b 1 0 n] h c = some (nextT ((List.range n).map w) ((List.range n).map t), h, c) := by
  obtain ⟨h', c', e⟩ := next_ev false false ((List.range n).map w) ((List.range n).map t) (by simp) (by simpa using hn)
  have fa := frz_sl (n := n) ha (by simp) (by intro e he; obtain ⟨m, _, rfl⟩ := List.mem_map.mp he; exact ⟨_, rfl⟩)
  have fb := frz_sl (n := n) hb (by simp) (by intro e he; obtain ⟨m, _, rfl⟩ := List.mem_map.mp he; exact ⟨_, rfl⟩)
  refine call_of rfl (vs := [roi false ((List.range n).map w), rob false ((List.range n).map t)]) ?_ e ?_ ?_
  · simp only [List.mapM_cons, List.mapM_nil, fa, fb]
    simp [Function.comp_def]
  · unfold nextT; split <;> rfl
  · unfold nextT; split <;> rfl
def fstI (bs : List Bx) (i j : Nat) : Bool := match bs[i]?, bs[j]? with
  | some a, some b => fstP a b
  | _, _ => false
theorem fstI_of {bs : List Bx} {i j : Nat} (hi : i < bs.length) (hj : j < bs.length) : fstI bs i j = fstP bs[i] bs[j] := by
  unfold fstI
  rw [List.getElem?_eq_getElem hi, List.getElem?_eq_getElem hj]
/-- The memory of the program's order of boxes. -/
structure SS (z : Bool) (bs : List Bx) (h : Heap) (w : Nat → Int) (tk : Nat → Bool) (outv : AV) : Prop where
  h0 : h 0 = some ⟨1, [[ros z bs]]⟩
  h1 : h 1 = some ⟨1, [[.fn 25 [.ptr 0 0 0]]]⟩
  h2 : h 2 = some ⟨1, rowI bs.length w⟩
  h3 : h 3 = some ⟨1, [[.sl 2 1 0 bs.length]]⟩
  h4 : h 4 = some ⟨1, [[outv]]⟩
  h5 : h 5 = some ⟨1, rowB bs.length tk⟩
  h6 : h 6 = some ⟨1, [[.sl 5 1 0 bs.length]]⟩
def OutOk (h : Heap) (c : Nat) (o : List Nat) (outv : AV) : Prop :=
  (o = [] ∧ outv = .ro true []) ∨ ∃ l, 7 ≤ l ∧ l < c ∧ outv = .sl l 1 0 o.length ∧ h l = some ⟨1, o.map fun (i : Nat) => [I (i : Int)]⟩
theorem room_ok {n : Nat} (h : n ≤ 4000) : n * 8 ≤ room ∧ n ≤ room := by
  unfold room; omega
theorem SS.put_hi {z : Bool} {bs : List Bx} {h : Heap} {w : Nat → Int} {tk : Nat → Bool} {outv : AV} (s : SS z bs h w tk outv) {l : Nat} (hl : 7 ≤ l) (b : Option Blk) : SS z bs (h.put l b) w tk outv := by
  obtain ⟨h0, h1, h2, h3, h4, h5, h6⟩ := s
  constructor <;> rw [put_get, if_neg (by omega)] <;> assumption
theorem SS.put2 {z : Bool} {bs : List Bx} {h : Heap} {w w' : Nat → Int} {tk : Nat → Bool} {outv : AV} (s : SS z bs h w tk outv) {X : List (List AV)} (e : X = rowI bs.length w') : SS z bs (h.put 2 (some ⟨1, X⟩)) w' tk outv := by
  obtain ⟨h0, h1, h2, h3, h4, h5, h6⟩ := s
  subst e
  constructor <;> rw [put_get] <;> first | rfl | (rw [if_neg (by omega)]; assumption)
theorem SS.put4 {z : Bool} {bs : List Bx} {h : Heap} {w : Nat → Int} {tk : Nat → Bool} {outv outv' : AV} (s : SS z bs h w tk outv) : SS z bs (h.put 4 (some ⟨1, [[outv']]⟩)) w tk outv' := by
  obtain ⟨h0, h1, h2, h3, h4, h5, h6⟩ := s
  constructor <;> rw [put_get] <;> first | rfl | (rw [if_neg (by omega)]; assumption)
theorem SS.put5 {z : Bool} {bs : List Bx} {h : Heap} {w : Nat → Int} {tk tk' : Nat → Bool} {outv : AV} (s : SS z bs h w tk outv) {X : List (List AV)} (e : X = rowB bs.length tk') : SS z bs (h.put 5 (some ⟨1, X⟩)) w tk' outv := by
  obtain ⟨h0, h1, h2, h3, h4, h5, h6⟩ := s
  subst e
  constructor <;> rw [put_get] <;> first | rfl | (rw [if_neg (by omega)]; assumption)
theorem OutOk.put_lo {h : Heap} {c : Nat} {o : List Nat} {outv : AV} (s : OutOk h c o outv) {l : Nat} (hl : l < 7) (b : Option Blk) : OutOk (h.put l b) c o outv := by
  rcases s with s | ⟨k, h1, h2, h3, h4⟩
  · exact .inl s
  · exact .inr ⟨k, h1, h2, h3, by rw [put_get, if_neg (by omega)]; exact h4⟩
def tkOf (o : List Nat) (m : Nat) : Bool := o.contains m
def wj (bs : List Bx) (i : Nat) (w : Nat → Int) (j m : Nat) : Int := if m < j ∧ fstI bs i m = true then w m - 1 else w m
theorem wj_zero (bs : List Bx) (i : Nat) (w : Nat → Int) (n : Nat) : rowI n w = rowI n (wj bs i w 0) :=
  row_congr fun m _ => by rw [wj, if_neg (by omega)]
theorem wj_at (bs : List Bx) (i : Nat) (w : Nat → Int) (j : Nat) : wj bs i w j j = w j := by rw [wj, if_neg (by omega)]
theorem wj_t {bs : List Bx} {i : Nat} {w : Nat → Int} {j : Nat} (n : Nat) (h : fstI bs i j = true) : (rowI n (wj bs i w j)).set j [I (w j - 1)] = rowI n (wj bs i w (j + 1)) := by
  rw [rowI, row_set]
  refine row_congr fun m _ => ?_
  by_cases e : m = j
  · subst e; rw [if_pos rfl, wj, if_pos ⟨by omega, h⟩]
  · rw [if_neg e]
    unfold wj
    by_cases k : m < j
    · by_cases f : fstI bs i m = true
      · rw [if_pos ⟨k, f⟩, if_pos ⟨by omega, f⟩]
      · rw [if_neg (fun q => f q.2), if_neg (fun q => f q.2)]
    · rw [if_neg (fun q => k q.1), if_neg (fun q => by omega)]
theorem wj_f {bs : List Bx} {i : Nat} {w : Nat → Int} {j : Nat} (n : Nat) (h : fstI bs i j = false) : rowI n (wj bs i w j) = rowI n (wj bs i w (j + 1)) := by
  refine row_congr fun m _ => ?_
  unfold wj
  by_cases e : m = j
  · subst e; rw [if_neg (by omega), if_neg (by rw [h]; simp)]
  · by_cases f : fstI bs i m = true
    · by_cases k : m < j
      · rw [if_pos ⟨k, f⟩, if_pos ⟨by omega, f⟩]
      · rw [if_neg (fun q => k q.1), if_neg (fun q => by omega)]
    · rw [if_neg (fun q => f q.2), if_neg (fun q => f q.2)]
theorem wj_all (bs : List Bx) (i : Nat) (w : Nat → Int) : rowI bs.length (wj bs i w bs.length) = rowI bs.length (fun m => if fstI bs i m then w m - 1 else w m) := by
  refine row_congr fun m hm => ?_
  unfold wj
  by_cases f : fstI bs i m = true
  · rw [if_pos ⟨hm, f⟩]; simp [f]
  · rw [if_neg (fun q => f q.2)]; simp [f]
theorem SS.cong {z : Bool} {bs : List Bx} {h : Heap} {w w' : Nat → Int} {tk : Nat → Bool} {outv : AV} (s : SS z bs h w tk outv) (e : rowI bs.length w = rowI bs.length w') : SS z bs h w' tk outv := by
  obtain ⟨h0, h1, h2, h3, h4, h5, h6⟩ := s
  exact ⟨h0, h1, by rw [h2, e], h3, h4, h5, h6⟩
theorem tk_set (n : Nat) (o o2 : List Nat) (i : Nat) (h : o2 = o ++ [i]) : (rowB n (tkOf o)).set i [B true] = rowB n (tkOf o2) := by
  subst h
  rw [rowB, row_set]
  refine row_congr fun m _ => ?_
  by_cases e : m = i
  · subst e; rw [if_pos rfl]; simp [tkOf]
  · rw [if_neg e]; simp [tkOf, e]
theorem take_ev (z : Bool) (bs : List Bx) (hn : bs.length ≤ 4000) (h : Heap) (c : Nat) (w : Nat → Int) (o : List Nat) (outv : AV) (ss : SS z bs h w (tkOf o) outv) (oo : OutOk h c o outv) (hc : 7 ≤ c) (i : Nat) (hw : ∀ m, 0 ≤ w m ∧ w m ≤ 4000) (hi : i < bs.length) (ho : o.length < bs.length) :
    ∀ R : Option (AV × Heap × Nat) → Prop, (∀ h' c' outv', SS z bs h' (fun m => if fstI bs i m then w m - 1 else w m) (tkOf (o ++ [i])) outv' → OutOk h' c' (o ++ [i]) outv' → 7 ≤ c' → R (some (.tup [], h', c'))) →
      R (run Try.prog (mdT tblV) 27 [I i, .ptr 6 0 0, .ptr 4 0 0, .ptr 0 0 0, .ptr 1 0 0, .ptr 3 0 0] h c) := by
  intro R hR
  obtain ⟨o2, ho2⟩ : ∃ o2, o2 = o ++ [i] := ⟨_, rfl⟩
  rw [← ho2] at hR
  rw [run_eq, show mdT tblV 27 = some .heap from rfl, Option.bind_some, Try.func27]
  have ss0 := ss
  obtain ⟨h0, h1, h2, h3, h4, h5, h6⟩ := ss
  have r1 := room_ok (n := o.length + 1) (by omega)
  have r2 := room_ok (n := 1) (by omega)
  have n0 : ¬ c = 0 := by omega
  have m0 : ¬ 0 = c := by omega
  have n1 : ¬ c = 1 := by omega
  have m1 : ¬ 1 = c := by omega
  have n2 : ¬ c = 2 := by omega
  have m2 : ¬ 2 = c := by omega
  have n3 : ¬ c = 3 := by omega
  have m3 : ¬ 3 = c := by omega
  have n4 : ¬ c = 4 := by omega
  have m4 : ¬ 4 = c := by omega
  have n5 : ¬ c = 5 := by omega
  have m5 : ¬ 5 = c := by omega
  have n6 : ¬ c = 6 := by omega
  have m6 : ¬ 6 = c := by omega
  rcases oo with ⟨rfl, rfl⟩ | ⟨l, hl1, hl2, rfl, hl⟩
  · simp -implicitDefEqProofs [Try.f27, Option.bind_assoc, h0, h1, h2, h3, h4, h5, h6, hi, r1, r2, n0, m0, n1, m1, n2, m2, n3, m3, n4, m4, n5, m5, n6, m6]
    refine loop_to (fun k s => ∃ j : Nat, k = bs.length - j ∧ j ≤ bs.length ∧ s.t 0 = I i ∧ s.t 3 = .ptr 0 0 0 ∧ s.t 4 = .ptr 1 0 0 ∧ s.t 5 = .ptr 3 0 0 ∧ s.t 16 = I bs.length ∧ s.t 17 = I j ∧
        SS z bs s.h (wj bs i w j) (tkOf o2) (.sl (c + 1) 1 0 1) ∧ OutOk s.h s.c o2 (.sl (c + 1) 1 0 1) ∧ 7 ≤ s.c)
      (fun e s => e = .exit 0 ∧ SS z bs s.h (wj bs i w bs.length) (tkOf o2) (.sl (c + 1) 1 0 1) ∧ OutOk s.h s.c o2 (.sl (c + 1) 1 0 1) ∧ 7 ≤ s.c) ?_ ?_ bs.length _ ⟨0, ?_⟩
    · rintro k ⟨t, h, c⟩ ⟨j, hk, hj, t0, t3, t4, t5, t16, t17, ss, oo, hc⟩
      simp only at t0 t3 t4 t5 t16 t17 ss oo hc
      by_cases g1 : j < bs.length
      · have ss1 := ss
        obtain ⟨h0, h1, h2, h3, h4, h5, h6⟩ := ss
        have hf := first_c h c z bs 0 h0 i j hi g1
        rw [← fstI_of hi g1] at hf
        cases g2 : fstI bs i j
        · simp -implicitDefEqProofs [t0, t3, t4, t5, t16, t17, h0, h1, h2, h3, hf, g1, g2, to_normal, to_exit, to_ret]
          exact ⟨bs.length - (j + 1), by omega, j + 1, by omega, by omega, wrap_succ (by omega), ss1.cong (wj_f bs.length g2), oo, hc⟩
        · have e1 := wj_at bs i w j
          have e2 : IntKind.i64.wrap (w j - 1) = w j - 1 := by have := hw j; exact wrap_id (by omega) (by omega)
          simp -implicitDefEqProofs [t0, t3, t4, t5, t16, t17, h0, h1, h2, h3, hf, g1, g2, e1, e2, to_normal, to_exit, to_ret]
          exact ⟨bs.length - (j + 1), by omega, j + 1, by omega, by omega, wrap_succ (by omega), ss1.put2 (wj_t bs.length g2), oo.put_lo (by omega) _, hc⟩
      · have hj' : j = bs.length := by omega
        subst hj'
        simp -implicitDefEqProofs [t0, t3, t4, t5, t16, t17, to_normal, to_exit, to_ret]
        exact ⟨ss, oo, hc⟩
    · rintro e ⟨t, h, c⟩ ⟨rfl, ss, oo, hc⟩
      simp -implicitDefEqProofs
      exact hR _ _ _ (ss.cong (wj_all bs i w)) oo hc
    · refine ⟨by omega, by omega, by simp, by simp, by simp, by simp, by simp, by simp, ?_, ?_, ?_⟩
      · exact ((((ss0.put5 (tk_set bs.length [] o2 i ho2)).put_hi hc _).put_hi (l := c + 1) (by omega) _).put4).cong (wj_zero bs i w bs.length)
      · exact .inr ⟨c + 1, by omega, by simp, by simp [ho2], by simp [put_get, n3, ho2, List.take_of_length_le]⟩
      · show 7 ≤ c + 1 + 1
        omega
  · have l1 : ¬ c = l := by omega
    have l2 : ¬ l = c := by omega
    have l3 : ¬ l = 0 := by omega
    have k3 : ¬ 0 = l := by omega
    have l4 : ¬ l = 1 := by omega
    have k4 : ¬ 1 = l := by omega
    have l5 : ¬ l = 2 := by omega
    have k5 : ¬ 2 = l := by omega
    have l6 : ¬ l = 3 := by omega
    have k6 : ¬ 3 = l := by omega
    have l7 : ¬ l = 4 := by omega
    have k7 : ¬ 4 = l := by omega
    have l8 : ¬ l = 5 := by omega
    have k8 : ¬ 5 = l := by omega
    have l9 : ¬ l = 6 := by omega
    have k9 : ¬ 6 = l := by omega
    simp -implicitDefEqProofs [Try.f27, Option.bind_assoc, h0, h1, h2, h3, h4, h5, h6, hi, r1, r2, hl, l1, l2, n0, m0, n1, m1, n2, m2, n3, m3, n4, m4, n5, m5, n6, m6, l3, k3, l4, k4, l5, k5, l6, k6, l7, k7, l8, k8, l9, k9]
    refine loop_to (fun k s => ∃ j : Nat, k = bs.length - j ∧ j ≤ bs.length ∧ s.t 0 = I i ∧ s.t 3 = .ptr 0 0 0 ∧ s.t 4 = .ptr 1 0 0 ∧ s.t 5 = .ptr 3 0 0 ∧ s.t 16 = I bs.length ∧ s.t 17 = I j ∧
        SS z bs s.h (wj bs i w j) (tkOf o2) (.sl (c + 1) 1 0 (o.length + 1)) ∧ OutOk s.h s.c o2 (.sl (c + 1) 1 0 (o.length + 1)) ∧ 7 ≤ s.c)
      (fun e s => e = .exit 0 ∧ SS z bs s.h (wj bs i w bs.length) (tkOf o2) (.sl (c + 1) 1 0 (o.length + 1)) ∧ OutOk s.h s.c o2 (.sl (c + 1) 1 0 (o.length + 1)) ∧ 7 ≤ s.c) ?_ ?_ bs.length _ ⟨0, ?_⟩
    · rintro k ⟨t, h, c⟩ ⟨j, hk, hj, t0, t3, t4, t5, t16, t17, ss, oo, hc⟩
      simp only at t0 t3 t4 t5 t16 t17 ss oo hc
      by_cases g1 : j < bs.length
      · have ss1 := ss
        obtain ⟨h0, h1, h2, h3, h4, h5, h6⟩ := ss
        have hf := first_c h c z bs 0 h0 i j hi g1
        rw [← fstI_of hi g1] at hf
        cases g2 : fstI bs i j
        · simp -implicitDefEqProofs [t0, t3, t4, t5, t16, t17, h0, h1, h2, h3, hf, g1, g2, to_normal, to_exit, to_ret]
          exact ⟨bs.length - (j + 1), by omega, j + 1, by omega, by omega, wrap_succ (by omega), ss1.cong (wj_f bs.length g2), oo, hc⟩
        · have e1 := wj_at bs i w j
          have e2 : IntKind.i64.wrap (w j - 1) = w j - 1 := by have := hw j; exact wrap_id (by omega) (by omega)
          simp -implicitDefEqProofs [t0, t3, t4, t5, t16, t17, h0, h1, h2, h3, hf, g1, g2, e1, e2, to_normal, to_exit, to_ret]
          exact ⟨bs.length - (j + 1), by omega, j + 1, by omega, by omega, wrap_succ (by omega), ss1.put2 (wj_t bs.length g2), oo.put_lo (by omega) _, hc⟩
      · have hj' : j = bs.length := by omega
        subst hj'
        simp -implicitDefEqProofs [t0, t3, t4, t5, t16, t17, to_normal, to_exit, to_ret]
        exact ⟨ss, oo, hc⟩
    · rintro e ⟨t, h, c⟩ ⟨rfl, ss, oo, hc⟩
      simp -implicitDefEqProofs
      exact hR _ _ _ (ss.cong (wj_all bs i w)) oo hc
    · refine ⟨by omega, by omega, by simp, by simp, by simp, by simp, by simp, by simp, ?_, ?_, ?_⟩
      · exact (((((ss0.put5 (tk_set bs.length o o2 i ho2)).put_hi hc _).put_hi hl1 _).put_hi (l := c + 1) (by omega) _).put4).cong (wj_zero bs i w bs.length)
      · exact .inr ⟨c + 1, by omega, by simp, by simp [ho2], by simp [put_get, n3, ho2, List.take_of_length_le]⟩
      · show 7 ≤ c + 1 + 1
        omega
end Go.Proofs.Ytkdmhlmaeccekaa.AM
