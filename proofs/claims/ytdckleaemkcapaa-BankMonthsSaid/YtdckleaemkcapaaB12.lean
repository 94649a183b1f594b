/- Texts of the proof: part B12. -/
import Derived.Test.YtdckleaemkcapaaB11
set_option maxHeartbeats 0
set_option linter.unusedSimpArgs false
set_option linter.unusedVariables false
set_option linter.unusedSectionVars false
namespace Go.Proofs.Ytdckleaemkcapaa.AM
open Go Go.Proofs
attribute [local simp] AV.cells okc AV.isBad fieldAddrA ld setCells stA skipV appendA hd makeA bnd sliceA kindA freshA killOk loadsAt newT empT lay_get allocA buildA buildRow builtinA lenA els indexAddrA isNil opA evA lit yldA binA binI unA pickA boolV intV fieldA mk flat lf lf.lfs frz
def tot1 (co : Int) (s : List Int × Int) (e : Ent) : List Int × Int := bif e.co == co then (s.1.set e.kd.toNat (IntKind.i64.wrap ((s.1[e.kd.toNat]?).getD 0 + e.am)), IntKind.i64.wrap (s.2 + e.am)) else s
def totP (co : Int) (l : List Ent) : List Int × Int := l.foldl (tot1 co) (List.replicate 10 0, 0)
theorem totP_len (co : Int) (l : List Ent) : (totP co l).1.length = 10 := by
  unfold totP
  have : ∀ (l : List Ent) (s : List Int × Int), s.1.length = 10 → (l.foldl (tot1 co) s).1.length = 10 := by
    intro l
    induction l with
    | nil => intro s h; exact h
    | cons e l ih =>
      intro s h
      rw [List.foldl_cons]
      refine ih _ ?_
      unfold tot1
      cases e.co == co
      · exact h
      · simpa using h
  exact this l _ (by simp)
theorem totP_take (co : Int) {l : List Ent} {j : Nat} (h : j < l.length) : totP co (l.take (j + 1)) = tot1 co (totP co (l.take j)) l[j] := by
  unfold totP
  rw [List.take_add_one, List.getElem?_eq_getElem h, List.foldl_append]
  rfl
def totR (b : Bnk) (co : Int) : AV := bif valP b == 0 then bif outP co 0 11 then .tup [.ro true [], I 0, E 1] else .tup [.ro false (ints (totP co b.book).1), I (totP co b.book).2, E 0] else .tup [.ro true [], I 0, E (valP b)]
theorem ints_frz (h : Heap) (k : Nat) (l : List Int) : (ints l).mapM (fun e => e.mapM (frz h (k + 1))) = some (ints l) := by
  induction l with
  | nil => rfl
  | cons x l ih =>
    show (([I x] : List AV) :: ints l).mapM _ = _
    rw [List.mapM_cons, ih]
    rfl
theorem frz_ints {h : Heap} {l sz : Nat} {T : List Int} (n k : Nat) (hn : T.length = n) (hl : h l = some ⟨sz, ints T⟩) : frz h (k + 2) (.sl l sz 0 n) = some (.ro false (ints T)) := by
  show ((els h (.sl l sz 0 n)).bind fun es => (es.mapM fun (e : List AV) => e.mapM (frz h (k + 1))).map (AV.ro false)) = _
  have : els h (.sl l sz 0 n) = some (ints T) := by
    simp only [els, hl, Option.bind_some]
    rw [if_pos (by simp [hn]), List.drop_zero, List.take_of_length_le (by simp [hn])]
  rw [this, Option.bind_some, ints_frz]
  rfl
theorem frz_tot {h : Heap} {T : List Int} {S : Int} (hn : T.length = 10) (hl : h 1 = some ⟨1, ints T⟩) : frz h depth (.tup [.sl 1 1 0 10, I S, E 0]) = some (.tup [.ro false (ints T), I S, E 0]) := by
  show (List.mapM (frz h 11) [.sl 1 1 0 10, I S, E 0]).map AV.tup = _
  rw [List.mapM_cons, frz_ints 10 9 hn hl]
  rfl
theorem rtot_x (b : Bnk) (w : b.Wfb) (co : Int) : Ans (totR b co) (run Try.prog (mdT tblB) 32 [.agg (bc b), I co] Heap.none 0) := by
  have hk := rval_c b w
  generalize hr : totR b co = r
  unfold totR at hr
  rw [run_eq, show mdT tblB 32 = some .pure from rfl, Option.bind_some, Try.func32]
  by_cases g0 : valP b = 0
  case neg =>
    have g1 : (valP b == 0) = false := by simpa using g0
    have g2 : (valP b != 0) = true := by simp [bne, g1]
    rw [g1] at hr
    simp only [cond_false] at hr
    subst hr
    simp -implicitDefEqProofs [Try.f32, hk, g2, depth]
  have vb := valid_of g0
  rw [g0] at hk hr
  simp only [BEq.rfl, cond_true] at hr
  cases g3 : outP co 0 11
  case true =>
    rw [g3] at hr
    simp only [cond_true] at hr
    subst hr
    simp -implicitDefEqProofs [Try.f32, hk, g3, depth]
  rw [g3] at hr
  simp only [cond_false] at hr
  subst hr
  have hbl := vb.book
  simp -implicitDefEqProofs [Try.f32, hk, g3, room, Option.bind_assoc]
  refine count_to (R := Ans (.tup [.ro false (ints (totP co b.book).1), I (totP co b.book).2, E 0])) b.book.length (fun j s => s.h 0 = some ⟨5, [bc b]⟩ ∧ s.h 1 = some ⟨1, ints (totP co (b.book.take j)).1⟩ ∧ 1 < s.c ∧ s.t 1 = I co ∧ s.t 2 = .ptr 0 0 0 ∧ s.t 8 = .sl 1 1 0 10 ∧ s.t 9 = I (totP co (b.book.take j)).2 ∧ s.t 10 = I j) _ ?_ ?_ ?_
  · first | (simp [totP, List.replicate]; done) | (simp [totP, List.replicate]; rfl)
  · rintro j ⟨t, h, c⟩ ⟨h0, h1, hc, t1, t2, t8, t9, tj⟩ hj
    simp only at h0 h1 hc t1 t2 t8 t9 tj
    have e1 := vb.ents _ (List.getElem_mem hj)
    have hl := totP_len co (b.book.take j)
    rw [totP_take co hj]
    revert h1 t9 hl
    generalize totP co (b.book.take j) = T
    obtain ⟨T, S⟩ := T
    intro h1 t9 hl
    simp only at h1 t9 hl
    have k1 : decide ((j : Int) < (b.book.length : Int)) = true := decide_eq_true (by omega)
    have k2 : b.book[j].kd.toNat < T.length := by omega
    have k3 : 0 ≤ b.book[j].kd := e1.2.1.1
    have k4 : b.book[j].kd < 10 := by omega
    have k5 : b.book[j].kd.toNat < 10 := by omega
    have k6 : IntKind.i64.wrap ((j : Int) + 1) = ((j + 1 : Nat) : Int) := wrap_succ (by omega)
    have n1 : ¬ (0 = c) := by omega
    have n2 : ¬ (c = 0) := by omega
    have n3 : ¬ (1 = c) := by omega
    have n4 : ¬ (c = 1) := by omega
    unfold tot1
    cases g4 : (b.book[j].co == co)
    · simp -implicitDefEqProofs [h0, h1, hl, t1, t2, t8, t9, tj, hj, k1, k2, k3, k4, k5, k6, n1, n2, n3, n4, g4, Ent.cells]
      first | done | omega
    · simp -implicitDefEqProofs [h0, h1, hl, t1, t2, t8, t9, tj, hj, k1, k2, k3, k4, k5, k6, n1, n2, n3, n4, g4, Ent.cells, List.map_set]
      first | done | omega
  · rintro ⟨t, h, c⟩ ⟨h0, h1, hc, t1, t2, t8, t9, tj⟩
    simp only at h0 h1 hc t1 t2 t8 t9 tj
    rw [List.take_length] at h1 t9
    have hl := totP_len co b.book
    simp -implicitDefEqProofs [-frz, h0, h1, hl, t1, t2, t8, t9, tj]
    exact frz_tot hl h1
theorem rtot_c (b : Bnk) (w : b.Wfb) (co : Int) (h : Heap) (c : Nat) : callA (mdT tblB) (run Try.prog (mdT tblB)) 32 [.agg (bc b), I co] h c = some (totR b co, h, c) := call_ans rfl rfl (rtot_x b w co) rfl
theorem btot_x (b : Bnk) (w : b.Wfb) (co : Int) : Ans (totR b co) (run Try.prog (mdT tblB) 33 [.agg (bc b), I co] Heap.none 0) := by
  have hk := bval_c b w
  generalize hr : totR b co = r
  unfold totR at hr
  rw [run_eq, show mdT tblB 33 = some .pure from rfl, Option.bind_some, Try.func33]
  by_cases g0 : valP b = 0
  case neg =>
    have g1 : (valP b == 0) = false := by simpa using g0
    have g2 : (valP b != 0) = true := by simp [bne, g1]
    rw [g1] at hr
    simp only [cond_false] at hr
    subst hr
    simp -implicitDefEqProofs [Try.f33, hk, g2, depth]
  have vb := valid_of g0
  rw [g0] at hk hr
  simp only [BEq.rfl, cond_true] at hr
  cases g3 : outP co 0 11
  case true =>
    rw [g3] at hr
    simp only [cond_true] at hr
    subst hr
    simp -implicitDefEqProofs [Try.f33, hk, g3, depth]
  rw [g3] at hr
  simp only [cond_false] at hr
  subst hr
  have hbl := vb.book
  simp -implicitDefEqProofs [Try.f33, hk, g3, room, Option.bind_assoc]
  refine count_to (R := Ans (.tup [.ro false (ints (totP co b.book).1), I (totP co b.book).2, E 0])) b.book.length (fun j s => s.h 0 = some ⟨5, [bc b]⟩ ∧ s.h 1 = some ⟨1, ints (totP co (b.book.take j)).1⟩ ∧ 1 < s.c ∧ s.t 1 = I co ∧ s.t 2 = .ptr 0 0 0 ∧ s.t 8 = .arr 1 1 10 ∧ s.t 9 = I (totP co (b.book.take j)).2 ∧ s.t 21 = .ro b.nb (b.book.map Ent.cells) ∧ s.t 22 = I b.book.length ∧ s.t 23 = I j) _ ?_ ?_ ?_
  · first | (simp [totP, List.replicate]; done) | (simp [totP, List.replicate]; rfl)
  · rintro j ⟨t, h, c⟩ ⟨h0, h1, hc, t1, t2, t8, t9, ta, tb, tj⟩ hj
    simp only at h0 h1 hc t1 t2 t8 t9 ta tb tj
    have e1 := vb.ents _ (List.getElem_mem hj)
    have hl := totP_len co (b.book.take j)
    rw [totP_take co hj]
    revert h1 t9 hl
    generalize totP co (b.book.take j) = T
    obtain ⟨T, S⟩ := T
    intro h1 t9 hl
    simp only at h1 t9 hl
    have k1 : decide ((j : Int) < (b.book.length : Int)) = true := decide_eq_true (by omega)
    have k2 : b.book[j].kd.toNat < T.length := by omega
    have k3 : 0 ≤ b.book[j].kd := e1.2.1.1
    have k4 : b.book[j].kd < 10 := by omega
    have k5 : b.book[j].kd.toNat < 10 := by omega
    have k6 : IntKind.i64.wrap ((j : Int) + 1) = ((j + 1 : Nat) : Int) := wrap_succ (by omega)
    have n1 : ¬ (0 = c) := by omega
    have n2 : ¬ (c = 0) := by omega
    have n3 : ¬ (1 = c) := by omega
    have n4 : ¬ (c = 1) := by omega
    unfold tot1
    cases g4 : (b.book[j].co == co)
    · simp -implicitDefEqProofs [h0, h1, hl, t1, t2, t8, t9, ta, tb, tj, hj, k1, k2, k3, k4, k5, k6, n1, n2, n3, n4, g4, Ent.cells]
      first | done | omega
    · simp -implicitDefEqProofs [h0, h1, hl, t1, t2, t8, t9, ta, tb, tj, hj, k1, k2, k3, k4, k5, k6, n1, n2, n3, n4, g4, Ent.cells, List.map_set]
      first | done | omega
  · rintro ⟨t, h, c⟩ ⟨h0, h1, hc, t1, t2, t8, t9, ta, tb, tj⟩
    simp only at h0 h1 hc t1 t2 t8 t9 ta tb tj
    rw [List.take_length] at h1 t9
    have hl := totP_len co b.book
    simp -implicitDefEqProofs [-frz, h0, h1, hl, t1, t2, t8, t9, ta, tb, tj]
    exact frz_tot hl h1
theorem btot_c (b : Bnk) (w : b.Wfb) (co : Int) (h : Heap) (c : Nat) : callA (mdT tblB) (run Try.prog (mdT tblB)) 33 [.agg (bc b), I co] h c = some (totR b co, h, c) := call_ans rfl rfl (btot_x b w co) rfl
end Go.Proofs.Ytdckleaemkcapaa.AM
