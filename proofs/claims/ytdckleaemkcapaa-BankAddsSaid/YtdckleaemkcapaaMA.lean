/- Parts of the proof: B2, B3, B4, B5, B6, B7, B8, B9. -/
import Derived.Test.YtdckleaemkcapaaB1
import Derived.Test.YtdckleaemkcapaaAmScan
set_option maxHeartbeats 0
set_option linter.unusedSimpArgs false
set_option linter.unusedVariables false
set_option linter.unusedSectionVars false
namespace Go.Proofs.Ytdckleaemkcapaa.AM
open Go Go.Proofs
set_option linter.unusedVariables false
/-- A call of a function that is called by value, and that answers with scalars. -/
theorem call_of {f : Nat} {args vs : List AV} {r : AV} {h h' : Heap} {c c' : Nat} (hm : mdT tblB f = some .pure) (ha : args.mapM (frz h depth) = some vs)
    (e : run Try.prog (mdT tblB) f vs Heap.none 0 = some (r, h', c')) (fr : frz h' depth r = some r) (fl : flat r = true) :
    callA (mdT tblB) (run Try.prog (mdT tblB)) f args h c = some (r, h, c) := by
  rw [call_pure _ _ _ _ _ _ hm, ha, Option.bind_some, e, Option.bind_some]
  rw [fr, Option.bind_some, fl]
  rw [show (lf.lfs args || true || okO h' depth r) = true by simp]
  rfl
abbrev I (n : Int) : AV := .val (.int .i64 n)
abbrev B (b : Bool) : AV := .val (.bool b)
abbrev E (n : Int) : AV := .val (.int .i64 n)
abbrev ints (l : List Int) : List (List AV) := l.map fun n => [I n]
structure Acc where
  opn : Bool
  cash : Int
  loan : Int
  np : Bool
  parts : List Int
  nl : Bool
  last : List Int
structure Ent where
  co : Int
  kd : Int
  am : Int
  deriving DecidableEq
structure Bnk where
  na : Bool
  accs : List Acc
  rate : Int
  infl : Int
  idx : Int
  nb : Bool
  book : List Ent
def Acc.cells (a : Acc) : List AV := [B a.opn, I a.cash, I a.loan, .ro a.np (ints a.parts), .ro a.nl (ints a.last)]
def Ent.cells (e : Ent) : List AV := [I e.co, I e.kd, I e.am]
def Bnk.av (b : Bnk) : AV := .agg [.ro b.na (b.accs.map Acc.cells), I b.rate, I b.infl, I b.idx, .ro b.nb (b.book.map Ent.cells)]
def Acc.av (a : Acc) : AV := .agg a.cells
def Wf (n : Int) : Prop := -9223372036854775808 ≤ n ∧ n ≤ 9223372036854775807
structure Acc.Wfa (a : Acc) : Prop where
  lp : a.parts.length ≤ 9223372036854775807
  ll : a.last.length ≤ 9223372036854775807
  fp : a.np = true → a.parts = []
  fl : a.nl = true → a.last = []
structure Bnk.Wfb (b : Bnk) : Prop where
  accs : ∀ a ∈ b.accs, a.Wfa
  la : b.accs.length ≤ 9223372036854775807
  lb : b.book.length ≤ 9223372036854775807
  fa : b.na = true → b.accs = []
  fb : b.nb = true → b.book = []
theorem ty3 {n : Nat} {avs : List AV} (h : TyOk Try.prog (n + 1) 3 avs) : ∃ i, avs = [I i] ∧ Wf i := by
  unfold TyOk at h
  rw [Try.underlying3] at h
  exact h
theorem ty4 {n : Nat} {avs : List AV} (h : TyOk Try.prog (n + 1) 4 avs) : ∃ i, avs = [B i] := by
  unfold TyOk at h
  rw [Try.underlying4] at h
  exact h
theorem arg3 {n : Nat} {x : AV} (h : TyArg Try.prog (n + 1) 3 x) : ∃ i, x = I i ∧ Wf i := by
  unfold TyArg at h
  rw [Try.underlying3] at h
  obtain ⟨i, h1, h2⟩ := ty3 h
  cases h1
  exact ⟨i, rfl, h2⟩
theorem rows_of {α : Type} {Q : List AV → Prop} {cells : α → List AV} {W : α → Prop} (hq : ∀ r, Q r → ∃ a, r = cells a ∧ W a) : ∀ es : List (List AV), (∀ r ∈ es, Q r) → ∃ l : List α, es = l.map cells ∧ ∀ a ∈ l, W a
  | [], _ => ⟨[], rfl, fun _ h => by cases h⟩
  | e :: es, h => by
    obtain ⟨l, hl, hw⟩ := rows_of hq es fun r hr => h r (List.mem_cons_of_mem _ hr)
    obtain ⟨a, ha, w⟩ := hq e (h e List.mem_cons_self)
    refine ⟨a :: l, by rw [ha, hl]; rfl, ?_⟩
    intro b hb
    rcases List.mem_cons.1 hb with rfl | hb
    · exact w
    · exact hw b hb
theorem ty40 {n : Nat} {avs : List AV} (h : TyOk Try.prog (n + 2) 40 avs) : ∃ (z : Bool) (l : List Int), avs = [.ro z (ints l)] ∧ l.length ≤ 9223372036854775807 ∧ (z = true → l = []) := by
  unfold TyOk at h
  rw [Try.underlying40] at h
  obtain ⟨z, es, h1, h2, h3, h4⟩ := h
  obtain ⟨l, rfl, hw⟩ := rows_of (cells := fun n : Int => [I n]) (W := Wf) (fun r (hr : _ ∧ _) => ty3 hr.2) es h4
  exact ⟨z, l, h1, by unfold maxLen at h3; simpa using h3, fun hz => by simpa using h2 hz⟩
theorem arg40 {n : Nat} {x : AV} (h : TyArg Try.prog (n + 2) 40 x) : ∃ (z : Bool) (l : List Int), x = .ro z (ints l) ∧ l.length ≤ 9223372036854775807 ∧ (z = true → l = []) := by
  unfold TyArg at h
  rw [Try.underlying40] at h
  obtain ⟨z, l, h1, h2⟩ := ty40 h
  cases h1
  exact ⟨z, l, rfl, h2⟩
theorem cells3 : Try.prog.cellsOf 3 = 1 := by kernel_rfl
theorem cells4 : Try.prog.cellsOf 4 = 1 := by kernel_rfl
theorem cells40 : Try.prog.cellsOf 40 = 1 := by kernel_rfl
theorem cells22 : Try.prog.cellsOf 22 = 1 := by kernel_rfl
theorem cells23 : Try.prog.cellsOf 23 = 1 := by kernel_rfl
theorem cells50 : Try.prog.cellsOf 50 = 5 := by kernel_rfl
theorem cells60 : Try.prog.cellsOf 60 = 3 := by kernel_rfl
theorem cells25 : Try.prog.cellsOf 25 = 5 := by kernel_rfl
theorem ty60 {n : Nat} {avs : List AV} (h : TyOk Try.prog (n + 2) 60 avs) : ∃ e : Ent, avs = e.cells := by
  unfold TyOk at h
  rw [Try.underlying60, cells60] at h
  simp only at h
  obtain ⟨h0, h⟩ := h
  match avs, h0 with
  | [x0, x1, x2], _ =>
  simp [cells3] at h
  obtain ⟨g0, g1, g2⟩ := h
  obtain ⟨i0, e0, w0⟩ := ty3 g0
  obtain ⟨i1, e1, w1⟩ := ty3 g1
  obtain ⟨i2, e2, w2⟩ := ty3 g2
  cases e0; cases e1; cases e2
  exact ⟨⟨i0, i1, i2⟩, rfl⟩
theorem ty50 {n : Nat} {avs : List AV} (h : TyOk Try.prog (n + 3) 50 avs) : ∃ a : Acc, avs = a.cells ∧ a.Wfa := by
  unfold TyOk at h
  rw [Try.underlying50, cells50] at h
  simp only at h
  obtain ⟨h0, h⟩ := h
  match avs, h0 with
  | [x0, x1, x2, x3, x4], _ =>
  simp [cells3, cells4, cells40] at h
  obtain ⟨g0, g1, g2, g3, g4⟩ := h
  obtain ⟨i0, e0⟩ := ty4 g0
  obtain ⟨i1, e1, w1⟩ := ty3 g1
  obtain ⟨i2, e2, w2⟩ := ty3 g2
  obtain ⟨z3, l3, e3, v3, f3⟩ := ty40 g3
  obtain ⟨z4, l4, e4, v4, f4⟩ := ty40 g4
  cases e0; cases e1; cases e2; cases e3; cases e4
  exact ⟨⟨i0, i1, i2, z3, l3, z4, l4⟩, rfl, ⟨v3, v4, f3, f4⟩⟩
theorem arg25 {n : Nat} {x : AV} (h : TyArg Try.prog (n + 5) 25 x) : ∃ b : Bnk, x = b.av ∧ b.Wfb := by
  unfold TyArg at h
  rw [Try.underlying25] at h
  obtain ⟨avs, rfl, h⟩ := h
  unfold TyOk at h
  rw [Try.underlying25, cells25] at h
  simp only at h
  obtain ⟨h0, h⟩ := h
  match avs, h0 with
  | [x0, x1, x2, x3, x4], _ =>
  simp [cells3, cells22, cells23] at h
  obtain ⟨g0, g1, g2, g3, g4⟩ := h
  obtain ⟨i1, e1, w1⟩ := ty3 g1
  obtain ⟨i2, e2, w2⟩ := ty3 g2
  obtain ⟨i3, e3, w3⟩ := ty3 g3
  unfold TyOk at g0
  rw [Try.underlying22] at g0
  obtain ⟨z0, es0, a1, a2, a3, a4⟩ := g0
  obtain ⟨la, rfl, hwa⟩ := rows_of (cells := Acc.cells) (W := Acc.Wfa) (fun r (hr : _ ∧ _) => ty50 hr.2) es0 a4
  unfold TyOk at g4
  rw [Try.underlying23] at g4
  obtain ⟨z4, es4, b1, b2, b3, b4⟩ := g4
  obtain ⟨lb, rfl, hwb⟩ := rows_of (cells := Ent.cells) (W := fun _ => True) (fun r (hr : _ ∧ _) => (ty60 hr.2).imp fun _ h => ⟨h, trivial⟩) es4 b4
  cases a1; cases e1; cases e2; cases e3; cases b1
  exact ⟨⟨z0, la, i1, i2, i3, z4, lb⟩, rfl, ⟨hwa, by unfold maxLen at a3; simpa using a3, by unfold maxLen at b3; simpa using b3, fun hz => by simpa using a2 hz, fun hz => by simpa using b2 hz⟩⟩
end Go.Proofs.Ytdckleaemkcapaa.AM
namespace Go.Proofs.Ytdckleaemkcapaa.AM
open Go Go.Proofs
attribute [local simp] AV.cells okc AV.isBad fieldAddrA ld setCells stA skipV appendA hd makeA bnd sliceA kindA freshA killOk loadsAt newT empT lay_get allocA buildA buildRow builtinA lenA els indexAddrA isNil opA evA lit yldA binA binI unA pickA boolV intV fieldA mk flat lf lf.lfs frz
def outP (n lo hi : Int) : Bool := decide (n < lo) || decide (hi < n)
theorem outP_false {n lo hi : Int} : outP n lo hi = false ↔ lo ≤ n ∧ n ≤ hi := by
  unfold outP
  simp only [Bool.or_eq_false_iff, decide_eq_false_iff_not]
  omega
theorem outP_true {n lo hi : Int} : outP n lo hi = true ↔ n < lo ∨ hi < n := by
  unfold outP
  simp only [Bool.or_eq_true, decide_eq_true_eq]
abbrev MM : Int := 1000000000000
theorem out_ev (n lo hi : Int) : ∃ h c, run Try.prog (mdT tblB) 59 [I n, I lo, I hi] Heap.none 0 = some (B (outP n lo hi), h, c) := by
  rw [run_eq, show mdT tblB 59 = some .pure from rfl, Option.bind_some, Try.func59, outP]
  cases h : decide (n < lo) <;> simp -implicitDefEqProofs [Try.f59, h]
@[simp] theorem out_c (n lo hi : Int) (h : Heap) (c : Nat) : callA (mdT tblB) (run Try.prog (mdT tblB)) 59 [I n, I lo, I hi] h c = some (B (outP n lo hi), h, c) := by
  obtain ⟨h', c', e⟩ := out_ev n lo hi
  exact call_of rfl rfl e rfl rfl
theorem within_ev (n hi : Int) : ∃ h c, run Try.prog (mdT tblB) 61 [I n, I hi] Heap.none 0 = some (B (!outP n 0 hi), h, c) := by
  rw [run_eq, show mdT tblB 61 = some .pure from rfl, Option.bind_some, Try.func61]
  by_cases g : 0 ≤ n
  · by_cases k : n ≤ hi
    · have e : outP n 0 hi = false := outP_false.2 ⟨g, k⟩
      simp -implicitDefEqProofs [Try.f61, g, k, e]
    · have e : outP n 0 hi = true := outP_true.2 (by omega)
      simp -implicitDefEqProofs [Try.f61, g, k, e]
  · have e : outP n 0 hi = true := outP_true.2 (by omega)
    simp -implicitDefEqProofs [Try.f61, g, e]
@[simp] theorem within_c (n hi : Int) (h : Heap) (c : Nat) : callA (mdT tblB) (run Try.prog (mdT tblB)) 61 [I n, I hi] h c = some (B (!outP n 0 hi), h, c) := by
  obtain ⟨h', c', e⟩ := within_ev n hi
  exact call_of rfl rfl e rfl rfl
theorem amount_ev (n : Int) : ∃ h c, run Try.prog (mdT tblB) 63 [I n] Heap.none 0 = some (B (!outP n (-1000000000000) 1000000000000), h, c) := by
  rw [run_eq, show mdT tblB 63 = some .pure from rfl, Option.bind_some, Try.func63]
  by_cases g : -1000000000000 ≤ n
  · by_cases k : n ≤ 1000000000000
    · have e : outP n (-1000000000000) 1000000000000 = false := outP_false.2 ⟨g, k⟩
      simp -implicitDefEqProofs [Try.f63, g, k, e]
    · have e : outP n (-1000000000000) 1000000000000 = true := outP_true.2 (by omega)
      simp -implicitDefEqProofs [Try.f63, g, k, e]
  · have e : outP n (-1000000000000) 1000000000000 = true := outP_true.2 (by omega)
    simp -implicitDefEqProofs [Try.f63, g, e]
@[simp] theorem amount_c (n : Int) (h : Heap) (c : Nat) : callA (mdT tblB) (run Try.prog (mdT tblB)) 63 [I n] h c = some (B (!outP n (-1000000000000) 1000000000000), h, c) := by
  obtain ⟨h', c', e⟩ := amount_ev n
  exact call_of rfl rfl e rfl rfl
@[simp] theorem sound1_c (n : Int) (h : Heap) (c : Nat) : callA (mdT tblB) (run Try.prog (mdT tblB)) 87 [I n] h c = some (B (outP n (-1000000000000) 1000000000000), h, c) := by
  obtain ⟨h', c', e⟩ : ∃ h c, run Try.prog (mdT tblB) 87 [I n] Heap.none 0 = some (B (outP n (-1000000000000) 1000000000000), h, c) := by
    rw [run_eq, show mdT tblB 87 = some .pure from rfl, Option.bind_some, Try.func87]
    simp -implicitDefEqProofs [Try.f87]
  exact call_of rfl rfl e rfl rfl
/-- slices.IndexFunc: its answer is at least 0 where one of the list has it. -/
theorem indexf_c (z : Bool) (l : List Int) (hl : l.length ≤ 9223372036854775807) (f : Nat) (caps : List AV) (p : Int → Bool) (h : Heap) (c : Nat)
    (H : ∀ n, callA (mdT tblB) (run Try.prog (mdT tblB)) f (I n :: caps) h c = some (B (p n), h, c)) :
    ∃ i, callA (mdT tblB) (run Try.prog (mdT tblB)) 92 [.ro z (ints l), .fn f caps] h c = some (I i, h, c) ∧ decide (0 ≤ i) = l.any p := by
  have hm : l.length ≤ 9223372036854775807 := hl
  rw [call_heap rfl, run_eq, show mdT tblB 92 = some .heap from rfl, Option.bind_some, Try.func92]
  simp -implicitDefEqProofs [Try.f92, Option.bind_assoc]
  refine scan_list (R := fun o => ∃ i, o = some (I i, h, c) ∧ decide (0 ≤ i) = l.any p) l p (fun j s => s.h = h ∧ s.c = c ∧ s.t 0 = .ro z (ints l) ∧ s.t 1 = .fn f caps ∧ s.t 7 = I l.length ∧ s.t 8 = I j) _ ?_ ?_ ?_ ?_
  · simp
  · rintro j ⟨t, h', c'⟩ ⟨rfl, rfl, t0, t1, t7, t8⟩ hj hp
    simp only at t0 t1 t7 t8
    simp -implicitDefEqProofs [t0, t1, t7, t8, hj, H, hp]
    exact wrap_succ (by omega)
  · rintro j ⟨t, h', c'⟩ ⟨rfl, rfl, t0, t1, t7, t8⟩ hj hp ha
    simp only at t0 t1 t7 t8
    simp -implicitDefEqProofs only [ha, decide_eq_true_eq]
    simp -implicitDefEqProofs [t0, t1, t7, t8, hj, H, hp]
  · rintro ⟨t, h', c'⟩ ⟨rfl, rfl, t0, t1, t7, t8⟩ ha
    simp only at t0 t1 t7 t8
    rw [ha]
    simp -implicitDefEqProofs [t0, t1, t7, t8, H]
theorem containsf_c (z : Bool) (l : List Int) (hl : l.length ≤ 9223372036854775807) (f : Nat) (caps : List AV) (p : Int → Bool) (h : Heap) (c : Nat)
    (H : ∀ n, callA (mdT tblB) (run Try.prog (mdT tblB)) f (I n :: caps) h c = some (B (p n), h, c)) :
    callA (mdT tblB) (run Try.prog (mdT tblB)) 81 [.ro z (ints l), .fn f caps] h c = some (B (l.any p), h, c) := by
  obtain ⟨i, h1, h2⟩ := indexf_c z l hl f caps p h c H
  rw [call_heap rfl, run_eq, show mdT tblB 81 = some .heap from rfl, Option.bind_some, Try.func81]
  simp -implicitDefEqProofs [Try.f81, h1, h2, -decide_eq_true_eq, -decide_eq_false_iff_not]
end Go.Proofs.Ytdckleaemkcapaa.AM
namespace Go.Proofs.Ytdckleaemkcapaa.AM
open Go Go.Proofs
attribute [local simp] AV.cells okc AV.isBad fieldAddrA ld setCells stA skipV appendA hd makeA bnd sliceA kindA freshA killOk loadsAt newT empT lay_get allocA buildA buildRow builtinA lenA els indexAddrA isNil opA evA lit yldA binA binI unA pickA boolV intV fieldA mk flat lf lf.lfs frz
def partP (a : Acc) (p : Int) : Bool := outP p (-1) 11 || (!a.opn && p != -1)
def lastP (n : Int) : Bool := outP n (-1000000000000) 1000000000000
def badP (a : Acc) : Bool := ((a.parts.length : Int) != 4) || outP a.cash (-1000000000000) 1000000000000 || outP a.loan 0 1000000000000 || a.parts.any (partP a) || a.last.any lastP || (!a.opn && (a.cash != 0 || a.loan != 0 || (a.last.length : Int) != 0))
theorem bad_ev (a : Acc) (w : a.Wfa) : ∃ h c, run Try.prog (mdT tblB) 60 [a.av] Heap.none 0 = some (B (badP a), h, c) := by
  have hm : a.last.length ≤ 9223372036854775807 := w.ll
  rw [run_eq, show mdT tblB 60 = some .pure from rfl, Option.bind_some, Try.func60]
  generalize hv : badP a = v
  unfold badP at hv
  unfold Acc.av Acc.cells
  cases g0 : ((a.parts.length : Int) != 4)
  case true =>
    rw [g0] at hv; simp only [Bool.true_or] at hv
    simp -implicitDefEqProofs [Try.f60, g0, ← hv]
  cases g1 : outP a.cash (-1000000000000) 1000000000000
  case true =>
    rw [g0, g1] at hv; simp only [Bool.true_or, Bool.false_or] at hv
    simp -implicitDefEqProofs [Try.f60, g0, g1, ← hv]
  cases g2 : outP a.loan 0 1000000000000
  case true =>
    rw [g0, g1, g2] at hv; simp only [Bool.true_or, Bool.false_or] at hv
    simp -implicitDefEqProofs [Try.f60, g0, g1, g2, ← hv]
  rw [g0, g1, g2] at hv; simp only [Bool.false_or] at hv
  have h4 : a.parts.length = 4 := by simp at g0; omega
  simp -implicitDefEqProofs [Try.f60, g0, g1, g2, Option.bind_assoc]
  refine scan_list (R := fun o => ∃ h c, o = some (B v, h, c)) a.parts (partP a) (fun j s => s.h 0 = some ⟨5, [[B a.opn, I a.cash, I a.loan, .ro a.np (ints a.parts), .ro a.nl (ints a.last)]]⟩ ∧ s.t 1 = .ptr 0 0 0 ∧ s.t 3 = I j) _ ?_ ?_ ?_ ?_
  · simp
  · rintro j ⟨t, h, c⟩ ⟨h0, t1, t3⟩ hj hp
    simp only at h0 t1 t3
    have k1 : decide ((j : Int) < 4) = true := by simp; omega
    unfold partP at hp
    cases p0 : outP a.parts[j] (-1) 11
    case true => rw [p0] at hp; simp at hp
    rw [p0] at hp; simp only [Bool.false_or] at hp
    cases p1 : a.opn
    · rw [p1] at hp; simp only [Bool.not_false, Bool.true_and] at hp
      simp -implicitDefEqProofs [h0, t1, t3, hj, k1, p0, p1, hp, -decide_eq_true_eq]
      exact wrap_succ (by omega)
    · simp -implicitDefEqProofs [h0, t1, t3, hj, k1, p0, p1, -decide_eq_true_eq]
      exact wrap_succ (by omega)
  · rintro j ⟨t, h, c⟩ ⟨h0, t1, t3⟩ hj hp ha
    simp only at h0 t1 t3
    rw [ha] at hv; simp only [Bool.true_or] at hv
    have k1 : decide ((j : Int) < 4) = true := by simp; omega
    unfold partP at hp
    cases p0 : outP a.parts[j] (-1) 11
    · rw [p0] at hp; simp only [Bool.false_or, Bool.and_eq_true, Bool.not_eq_true'] at hp
      simp -implicitDefEqProofs [h0, t1, t3, hj, k1, p0, hp, ← hv, -decide_eq_true_eq]
    · simp -implicitDefEqProofs [h0, t1, t3, hj, k1, p0, ← hv, -decide_eq_true_eq]
  · rintro ⟨t, h, c⟩ ⟨h0, t1, t3⟩ ha
    simp only at h0 t1 t3
    rw [ha] at hv; simp only [Bool.false_or] at hv
    rw [h4] at t3
    simp -implicitDefEqProofs [h0, t1, t3, Option.bind_assoc]
    refine scan_list (R := fun o => ∃ h c, o = some (B v, h, c)) a.last lastP (fun j s => s.h 0 = some ⟨5, [[B a.opn, I a.cash, I a.loan, .ro a.np (ints a.parts), .ro a.nl (ints a.last)]]⟩ ∧ s.t 1 = .ptr 0 0 0 ∧ s.t 4 = I j) _ ?_ ?_ ?_ ?_
    · simp [h0, t1]
    · rintro j ⟨t, h, c⟩ ⟨h0, t1, t3⟩ hj hp
      simp only at h0 t1 t3
      unfold lastP at hp
      simp -implicitDefEqProofs [h0, t1, t3, hj, hp]
      exact wrap_succ (by omega)
    · rintro j ⟨t, h, c⟩ ⟨h0, t1, t3⟩ hj hp ha
      simp only at h0 t1 t3
      rw [ha] at hv; simp only [Bool.true_or] at hv
      unfold lastP at hp
      simp -implicitDefEqProofs [h0, t1, t3, hj, hp, ← hv]
    · rintro ⟨t, h, c⟩ ⟨h0, t1, t3⟩ ha
      simp only at h0 t1 t3
      rw [ha] at hv; simp only [Bool.false_or] at hv
      cases p0 : a.opn
      case true =>
        rw [p0] at hv
        simp only [Bool.not_true, Bool.false_and] at hv
        simp -implicitDefEqProofs [h0, t1, t3, p0, ← hv]
      cases p1 : (a.cash != 0)
      case true =>
        rw [p0, p1] at hv
        simp only [Bool.not_false, Bool.true_and, Bool.true_or] at hv
        simp -implicitDefEqProofs [h0, t1, t3, p0, p1, ← hv]
      cases p2 : (a.loan != 0)
      case true =>
        rw [p0, p1, p2] at hv
        simp only [Bool.not_false, Bool.true_and, Bool.true_or, Bool.false_or] at hv
        simp -implicitDefEqProofs [h0, t1, t3, p0, p1, p2, ← hv]
      rw [p0, p1, p2] at hv
      simp only [Bool.not_false, Bool.true_and, Bool.false_or] at hv
      rw [← hv]
      simp -implicitDefEqProofs [h0, t1, t3, p0, p1, p2]
@[simp] theorem bad_c (a : Acc) (w : a.Wfa) (h : Heap) (c : Nat) : callA (mdT tblB) (run Try.prog (mdT tblB)) 60 [a.av] h c = some (B (badP a), h, c) := by
  obtain ⟨h', c', e⟩ := bad_ev a w
  exact call_of rfl rfl e rfl rfl
theorem sound_ev (a : Acc) (w : a.Wfa) : ∃ h c, run Try.prog (mdT tblB) 62 [a.av] Heap.none 0 = some (B (!badP a), h, c) := by
  have hm : a.parts.length ≤ 9223372036854775807 := w.lp
  have hc := fun (h : Heap) (c : Nat) => containsf_c a.nl a.last w.ll 87 [] lastP h c (fun n => sound1_c n h c)
  rw [run_eq, show mdT tblB 62 = some .pure from rfl, Option.bind_some, Try.func62]
  generalize hv : badP a = v
  unfold badP at hv
  unfold Acc.av Acc.cells
  cases g1 : outP a.cash (-1000000000000) 1000000000000
  case true =>
    rw [g1] at hv; simp only [Bool.true_or, Bool.or_true] at hv
    simp -implicitDefEqProofs [Try.f62, g1, ← hv]
  cases g2 : outP a.loan 0 1000000000000
  case true =>
    rw [g1, g2] at hv; simp only [Bool.true_or, Bool.or_true] at hv
    simp -implicitDefEqProofs [Try.f62, g1, g2, ← hv]
  cases g0 : ((a.parts.length : Int) != 4)
  case true =>
    rw [g0] at hv; simp only [Bool.true_or] at hv
    simp -implicitDefEqProofs [Try.f62, g0, g1, g2, ← hv]
  cases g3 : a.last.any lastP
  case true =>
    rw [g3] at hv; simp only [Bool.true_or, Bool.or_true] at hv
    simp -implicitDefEqProofs [Try.f62, g0, g1, g2, g3, hc, ← hv]
  rw [g0, g1, g2, g3] at hv; simp only [Bool.false_or, Bool.or_false] at hv
  simp -implicitDefEqProofs [Try.f62, g0, g1, g2, g3, hc, Option.bind_assoc]
  refine scan_list (R := fun o => ∃ h c, o = some (B (!v), h, c)) a.parts (partP a) (fun j s => s.h 0 = some ⟨5, [[B a.opn, I a.cash, I a.loan, .ro a.np (ints a.parts), .ro a.nl (ints a.last)]]⟩ ∧ s.t 1 = .ptr 0 0 0 ∧ s.t 27 = .ro a.np (ints a.parts) ∧ s.t 28 = I a.parts.length ∧ s.t 29 = I j) _ ?_ ?_ ?_ ?_
  · simp
  · rintro j ⟨t, h, c⟩ ⟨h0, t1, t27, t28, t3⟩ hj hp
    simp only at h0 t1 t27 t28 t3
    unfold partP outP at hp
    simp only [Bool.or_eq_false_iff] at hp
    obtain ⟨⟨p0, p1⟩, p2⟩ := hp
    have p1' : decide (12 ≤ a.parts[j]) = false := by simp at p1 ⊢; omega
    cases p3 : a.opn
    · rw [p3] at p2; simp only [Bool.not_false, Bool.true_and] at p2
      simp -implicitDefEqProofs [h0, t1, t27, t28, t3, hj, p0, p1', p2, p3, -decide_eq_true_eq, -decide_eq_false_iff_not]
      exact wrap_succ (by omega)
    · simp -implicitDefEqProofs [h0, t1, t27, t28, t3, hj, p0, p1', p3, -decide_eq_true_eq, -decide_eq_false_iff_not]
      exact wrap_succ (by omega)
  · rintro j ⟨t, h, c⟩ ⟨h0, t1, t27, t28, t3⟩ hj hp ha
    simp only at h0 t1 t27 t28 t3
    rw [ha] at hv; simp only [Bool.true_or] at hv
    unfold partP outP at hp
    cases p0 : decide (a.parts[j] < -1)
    case true => simp -implicitDefEqProofs [h0, t1, t27, t28, t3, hj, p0, ← hv, -decide_eq_true_eq, -decide_eq_false_iff_not]
    cases p1 : decide (12 ≤ a.parts[j])
    case true => simp -implicitDefEqProofs [h0, t1, t27, t28, t3, hj, p0, p1, ← hv, -decide_eq_true_eq, -decide_eq_false_iff_not]
    have p1' : decide (11 < a.parts[j]) = false := by simp at p1 ⊢; omega
    rw [p0, p1'] at hp
    simp only [Bool.false_or, Bool.or_false, Bool.and_eq_true, Bool.not_eq_true'] at hp
    simp -implicitDefEqProofs [h0, t1, t27, t28, t3, hj, p0, p1, hp, ← hv, -decide_eq_true_eq, -decide_eq_false_iff_not]
  · rintro ⟨t, h, c⟩ ⟨h0, t1, t27, t28, t3⟩ ha
    simp only at h0 t1 t27 t28 t3
    rw [ha] at hv; simp only [Bool.false_or] at hv
    cases p0 : a.opn
    case true =>
      rw [p0] at hv
      simp only [Bool.not_true, Bool.false_and] at hv
      simp -implicitDefEqProofs [h0, t1, t27, t28, t3, p0, ← hv]
    cases p1 : (a.cash == 0)
    case false =>
      have p1' : (a.cash != 0) = true := by unfold bne; rw [p1]; rfl
      rw [p0, p1'] at hv
      simp only [Bool.not_false, Bool.true_and, Bool.true_or] at hv
      simp -implicitDefEqProofs [h0, t1, t27, t28, t3, p0, p1, ← hv]
    have p1' : (a.cash != 0) = false := by unfold bne; rw [p1]; rfl
    cases p2 : (a.loan == 0)
    case false =>
      have p2' : (a.loan != 0) = true := by unfold bne; rw [p2]; rfl
      rw [p0, p1', p2'] at hv
      simp only [Bool.not_false, Bool.true_and, Bool.true_or, Bool.false_or] at hv
      simp -implicitDefEqProofs [h0, t1, t27, t28, t3, p0, p1, p2, ← hv]
    have p2' : (a.loan != 0) = false := by unfold bne; rw [p2]; rfl
    rw [p0, p1', p2'] at hv
    simp only [Bool.not_false, Bool.true_and, Bool.false_or] at hv
    rw [← hv]
    simp -implicitDefEqProofs [h0, t1, t27, t28, t3, p0, p1, p2, bne]
@[simp] theorem sound_c (a : Acc) (w : a.Wfa) (h : Heap) (c : Nat) : callA (mdT tblB) (run Try.prog (mdT tblB)) 62 [a.av] h c = some (B (!badP a), h, c) := by
  obtain ⟨h', c', e⟩ := sound_ev a w
  exact call_of rfl rfl e rfl rfl
end Go.Proofs.Ytdckleaemkcapaa.AM
namespace Go.Proofs.Ytdckleaemkcapaa.AM
open Go Go.Proofs
attribute [local simp] AV.cells okc AV.isBad fieldAddrA ld setCells stA skipV appendA hd makeA bnd sliceA kindA freshA killOk loadsAt newT empT lay_get allocA buildA buildRow builtinA lenA els indexAddrA isNil opA evA lit yldA binA binI unA pickA boolV intV fieldA mk flat lf lf.lfs frz
abbrev ac (a : Acc) : List AV := [B a.opn, I a.cash, I a.loan, .ro a.np (ints a.parts), .ro a.nl (ints a.last)]
abbrev ec (e : Ent) : List AV := [I e.co, I e.kd, I e.am]
abbrev bc (b : Bnk) : List AV := [.ro b.na (b.accs.map Acc.cells), I b.rate, I b.infl, I b.idx, .ro b.nb (b.book.map Ent.cells)]
theorem bad_x (a : Acc) (w : a.Wfa) (h : Heap) (c : Nat) : callA (mdT tblB) (run Try.prog (mdT tblB)) 60 [.agg (ac a)] h c = some (B (badP a), h, c) := bad_c a w h c
theorem sound_x (a : Acc) (w : a.Wfa) (h : Heap) (c : Nat) : callA (mdT tblB) (run Try.prog (mdT tblB)) 62 [.agg (ac a)] h c = some (B (!badP a), h, c) := sound_c a w h c
def farA (a : Acc) : Bool := decide (300 < (a.parts.length : Int)) || decide (300 < (a.last.length : Int))
def farP (b : Bnk) : Bool := decide (30000 < (b.book.length : Int)) || decide (300 < (b.accs.length : Int)) || b.accs.any farA
theorem far_ev (b : Bnk) (w : b.Wfb) : ∃ h c, run Try.prog (mdT tblB) 19 [b.av] Heap.none 0 = some (B (farP b), h, c) := by
  have hm : b.accs.length ≤ 9223372036854775807 := w.la
  rw [run_eq, show mdT tblB 19 = some .pure from rfl, Option.bind_some, Try.func19]
  generalize hv : farP b = v
  unfold farP at hv
  unfold Bnk.av
  cases g0 : decide (30000 < (b.book.length : Int))
  case true =>
    rw [g0] at hv; simp only [Bool.true_or] at hv
    simp -implicitDefEqProofs [Try.f19, g0, ← hv, -decide_eq_true_eq, -decide_eq_false_iff_not]
  cases g1 : decide (300 < (b.accs.length : Int))
  case true =>
    rw [g0, g1] at hv; simp only [Bool.true_or, Bool.false_or] at hv
    simp -implicitDefEqProofs [Try.f19, g0, g1, ← hv, -decide_eq_true_eq, -decide_eq_false_iff_not]
  rw [g0, g1] at hv; simp only [Bool.false_or] at hv
  simp -implicitDefEqProofs [Try.f19, g0, g1, Option.bind_assoc, -decide_eq_true_eq, -decide_eq_false_iff_not]
  refine scan_list (R := fun o => ∃ h c, o = some (B v, h, c)) b.accs farA (fun j s => s.h 0 = some ⟨5, [bc b]⟩ ∧ s.t 1 = .ptr 0 0 0 ∧ s.t 3 = I j) _ ?_ ?_ ?_ ?_
  · simp
  · rintro j ⟨t, h, c⟩ ⟨h0, t1, t3⟩ hj hp
    simp only at h0 t1 t3
    unfold farA at hp
    simp only [Bool.or_eq_false_iff] at hp
    obtain ⟨p0, p1⟩ := hp
    have k1 : decide ((j : Int) < (b.accs.length : Int)) = true := decide_eq_true (by omega)
    simp -implicitDefEqProofs [h0, t1, t3, hj, p0, p1, k1, Acc.cells, -decide_eq_true_eq, -decide_eq_false_iff_not]
    exact wrap_succ (by omega)
  · rintro j ⟨t, h, c⟩ ⟨h0, t1, t3⟩ hj hp ha
    simp only at h0 t1 t3
    rw [ha] at hv
    have k1 : decide ((j : Int) < (b.accs.length : Int)) = true := decide_eq_true (by omega)
    unfold farA at hp
    cases p0 : decide (300 < (b.accs[j].parts.length : Int))
    · rw [p0] at hp; simp only [Bool.false_or] at hp
      simp -implicitDefEqProofs [h0, t1, t3, hj, p0, hp, k1, ← hv, Acc.cells, -decide_eq_true_eq, -decide_eq_false_iff_not]
    · simp -implicitDefEqProofs [h0, t1, t3, hj, p0, k1, ← hv, Acc.cells, -decide_eq_true_eq, -decide_eq_false_iff_not]
  · rintro ⟨t, h, c⟩ ⟨h0, t1, t3⟩ ha
    simp only at h0 t1 t3
    rw [ha] at hv
    have k1 : decide ((b.accs.length : Int) < (b.accs.length : Int)) = false := decide_eq_false (by omega)
    simp -implicitDefEqProofs [h0, t1, t3, k1, ← hv, -decide_eq_true_eq, -decide_eq_false_iff_not]
theorem far_c (b : Bnk) (w : b.Wfb) (h : Heap) (c : Nat) : callA (mdT tblB) (run Try.prog (mdT tblB)) 19 [.agg (bc b)] h c = some (B (farP b), h, c) := by
  obtain ⟨h', c', e⟩ := far_ev b w
  exact call_of rfl rfl e rfl rfl
def longA (a : Acc) : Bool := decide (24 < (a.last.length : Int))
def entP (e : Ent) : Bool := outP e.co 0 11 || outP e.kd 0 9 || (e.am == 0) || outP e.am (-1000000000000) 1000000000000
def headP (b : Bnk) : Bool := ((b.accs.length : Int) != 12) || outP b.rate 0 100 || outP b.infl 0 100 || outP b.idx 65536 262144
def valP (b : Bnk) : Int := bif decide (20000 < (b.book.length : Int)) then 4 else bif b.accs.any longA then 4 else bif headP b then 1 else bif b.accs.any badP then 1 else bif b.book.any entP then 1 else 0
theorem rval_ev (b : Bnk) (w : b.Wfb) : ∃ h c, run Try.prog (mdT tblB) 21 [b.av] Heap.none 0 = some (E (valP b), h, c) := by
  rw [run_eq, show mdT tblB 21 = some .pure from rfl, Option.bind_some, Try.func21]
  have hm : b.accs.length ≤ 9223372036854775807 := w.la
  have hm2 : b.book.length ≤ 9223372036854775807 := w.lb
  generalize hv : valP b = v
  unfold valP at hv
  unfold Bnk.av
  cases g0 : decide (20000 < (b.book.length : Int))
  case true =>
    rw [g0] at hv; simp only [cond_true] at hv
    simp -implicitDefEqProofs [Try.f21, g0, ← hv, -decide_eq_true_eq, -decide_eq_false_iff_not]
  rw [g0] at hv; simp only [cond_false] at hv
  simp -implicitDefEqProofs [Try.f21, g0, Option.bind_assoc, -decide_eq_true_eq, -decide_eq_false_iff_not]
  refine scan_list (R := fun o => ∃ h c, o = some (E v, h, c)) b.accs longA (fun j s => s.h 0 = some ⟨5, [bc b]⟩ ∧ 0 < s.c ∧ s.t 1 = .ptr 0 0 0 ∧ s.t 3 = I j) _ ?_ ?_ ?_ ?_
  · simp
  · rintro j ⟨t, h, c⟩ ⟨h0, hc, t1, t3⟩ hj hp
    simp only at h0 hc t1 t3
    have n1 : ¬ (0 = c) := by omega
    have n2 : ¬ (c = 0) := by omega
    have k1 : decide ((j : Int) < (b.accs.length : Int)) = true := decide_eq_true (by omega)
    unfold longA at hp
    simp -implicitDefEqProofs [n1, n2, h0, t1, t3, hj, k1, hp, Acc.cells, -decide_eq_true_eq, -decide_eq_false_iff_not]
    first | exact ⟨by omega, wrap_succ (by omega)⟩ | exact wrap_succ (by omega)
  · rintro j ⟨t, h, c⟩ ⟨h0, hc, t1, t3⟩ hj hp ha
    simp only at h0 hc t1 t3
    have n1 : ¬ (0 = c) := by omega
    have n2 : ¬ (c = 0) := by omega
    have k1 : decide ((j : Int) < (b.accs.length : Int)) = true := decide_eq_true (by omega)
    rw [ha] at hv; simp only [cond_true] at hv
    unfold longA at hp
    simp -implicitDefEqProofs [n1, n2, h0, t1, t3, hj, k1, hp, ← hv, Acc.cells, -decide_eq_true_eq, -decide_eq_false_iff_not]
  · rintro ⟨t, h, c⟩ ⟨h0, hc, t1, t3⟩ ha
    simp only at h0 hc t1 t3
    have n1 : ¬ (0 = c) := by omega
    have n2 : ¬ (c = 0) := by omega
    have k1 : decide ((b.accs.length : Int) < (b.accs.length : Int)) = false := decide_eq_false (by omega)
    rw [ha] at hv; simp only [cond_false] at hv
    unfold headP at hv
    cases g1 : ((b.accs.length : Int) != 12)
    case true =>
      rw [g1] at hv; simp only [Bool.true_or, Bool.or_true, Bool.false_or, cond_true] at hv
      simp -implicitDefEqProofs [n1, n2, h0, t1, t3, k1, g1, ← hv, -decide_eq_true_eq, -decide_eq_false_iff_not]
    cases g2 : (outP b.rate 0 100)
    case true =>
      rw [g1, g2] at hv; simp only [Bool.true_or, Bool.or_true, Bool.false_or, cond_true] at hv
      simp -implicitDefEqProofs [n1, n2, h0, t1, t3, k1, g1, g2, ← hv, -decide_eq_true_eq, -decide_eq_false_iff_not]
    cases g3 : (outP b.infl 0 100)
    case true =>
      rw [g1, g2, g3] at hv; simp only [Bool.true_or, Bool.or_true, Bool.false_or, cond_true] at hv
      simp -implicitDefEqProofs [n1, n2, h0, t1, t3, k1, g1, g2, g3, ← hv, -decide_eq_true_eq, -decide_eq_false_iff_not]
    cases g4 : outP b.idx 65536 262144
    case true =>
      rw [g1, g2, g3, g4] at hv; simp only [Bool.true_or, Bool.or_true, Bool.false_or, cond_true] at hv
      simp -implicitDefEqProofs [n1, n2, h0, t1, t3, k1, g1, g2, g3, g4, ← hv, -decide_eq_true_eq, -decide_eq_false_iff_not]
    rw [g1, g2, g3, g4] at hv; simp only [Bool.false_or, cond_false] at hv
    simp -implicitDefEqProofs [n1, n2, h0, t1, t3, k1, g1, g2, g3, g4, Option.bind_assoc, -decide_eq_true_eq, -decide_eq_false_iff_not]
    refine scan_list (R := fun o => ∃ h c, o = some (E v, h, c)) b.accs badP (fun j s => s.h 0 = some ⟨5, [bc b]⟩ ∧ 0 < s.c ∧ s.t 1 = .ptr 0 0 0 ∧ s.t 4 = I j) _ ?_ ?_ ?_ ?_
    · simp [h0, hc, t1, t3]
    · rintro j ⟨t, h, c⟩ ⟨h0, hc, t1, t3⟩ hj hp
      simp only at h0 hc t1 t3
      have n1 : ¬ (0 = c) := by omega
      have n2 : ¬ (c = 0) := by omega
      have k1 : decide ((j : Int) < (b.accs.length : Int)) = true := decide_eq_true (by omega)
      have hb := fun h c => bad_x b.accs[j] (w.accs _ (List.getElem_mem hj)) h c
      simp -implicitDefEqProofs [n1, n2, h0, t1, t3, hj, k1, hb, hp, Acc.cells, -decide_eq_true_eq, -decide_eq_false_iff_not]
      first | exact ⟨by omega, wrap_succ (by omega)⟩ | exact wrap_succ (by omega)
    · rintro j ⟨t, h, c⟩ ⟨h0, hc, t1, t3⟩ hj hp ha
      simp only at h0 hc t1 t3
      have n1 : ¬ (0 = c) := by omega
      have n2 : ¬ (c = 0) := by omega
      have k1 : decide ((j : Int) < (b.accs.length : Int)) = true := decide_eq_true (by omega)
      rw [ha] at hv; simp only [cond_true] at hv
      have hb := fun h c => bad_x b.accs[j] (w.accs _ (List.getElem_mem hj)) h c
      simp -implicitDefEqProofs [n1, n2, h0, t1, t3, hj, k1, hb, hp, ← hv, Acc.cells, -decide_eq_true_eq, -decide_eq_false_iff_not]
    · rintro ⟨t, h, c⟩ ⟨h0, hc, t1, t3⟩ ha
      simp only at h0 hc t1 t3
      have n1 : ¬ (0 = c) := by omega
      have n2 : ¬ (c = 0) := by omega
      have k1 : decide ((b.accs.length : Int) < (b.accs.length : Int)) = false := decide_eq_false (by omega)
      rw [ha] at hv; simp only [cond_false] at hv
      simp -implicitDefEqProofs [n1, n2, h0, t1, t3, k1, Option.bind_assoc, -decide_eq_true_eq, -decide_eq_false_iff_not]
      refine scan_list (R := fun o => ∃ h c, o = some (E v, h, c)) b.book entP (fun j s => s.h 0 = some ⟨5, [bc b]⟩ ∧ 0 < s.c ∧ s.t 1 = .ptr 0 0 0 ∧ s.t 5 = I j) _ ?_ ?_ ?_ ?_
      · simp [h0, hc, t1, t3]
      · rintro j ⟨t, h, c⟩ ⟨h0, hc, t1, t3⟩ hj hp
        simp only at h0 hc t1 t3
        have n1 : ¬ (0 = c) := by omega
        have n2 : ¬ (c = 0) := by omega
        have k1 : decide ((j : Int) < (b.book.length : Int)) = true := decide_eq_true (by omega)
        unfold entP at hp
        simp only [Bool.or_eq_false_iff] at hp
        obtain ⟨⟨⟨p0, p1⟩, p2⟩, p3⟩ := hp
        simp -implicitDefEqProofs [n1, n2, h0, t1, t3, hj, k1, p0, p1, p2, p3, Ent.cells, -decide_eq_true_eq, -decide_eq_false_iff_not]
        first | exact ⟨by omega, wrap_succ (by omega)⟩ | exact wrap_succ (by omega)
      · rintro j ⟨t, h, c⟩ ⟨h0, hc, t1, t3⟩ hj hp ha
        simp only at h0 hc t1 t3
        have n1 : ¬ (0 = c) := by omega
        have n2 : ¬ (c = 0) := by omega
        have k1 : decide ((j : Int) < (b.book.length : Int)) = true := decide_eq_true (by omega)
        rw [ha] at hv; simp only [cond_true] at hv
        unfold entP at hp
        cases p0 : (outP b.book[j].co 0 11)
        case true => simp -implicitDefEqProofs [n1, n2, h0, t1, t3, hj, k1, p0, ← hv, Ent.cells, -decide_eq_true_eq, -decide_eq_false_iff_not]
        cases p1 : (outP b.book[j].kd 0 9)
        case true => simp -implicitDefEqProofs [n1, n2, h0, t1, t3, hj, k1, p0, p1, ← hv, Ent.cells, -decide_eq_true_eq, -decide_eq_false_iff_not]
        cases p2 : (b.book[j].am == 0)
        case true => simp -implicitDefEqProofs [n1, n2, h0, t1, t3, hj, k1, p0, p1, p2, ← hv, Ent.cells, -decide_eq_true_eq, -decide_eq_false_iff_not]
        rw [p0, p1, p2] at hp; simp only [Bool.false_or] at hp
        simp -implicitDefEqProofs [n1, n2, h0, t1, t3, hj, k1, p0, p1, p2, hp, ← hv, Ent.cells, -decide_eq_true_eq, -decide_eq_false_iff_not]
      · rintro ⟨t, h, c⟩ ⟨h0, hc, t1, t3⟩ ha
        simp only at h0 hc t1 t3
        have n1 : ¬ (0 = c) := by omega
        have n2 : ¬ (c = 0) := by omega
        have k1 : decide ((b.book.length : Int) < (b.book.length : Int)) = false := decide_eq_false (by omega)
        rw [ha] at hv; simp only [cond_false] at hv
        simp -implicitDefEqProofs [n1, n2, h0, t1, t3, k1, ← hv, -decide_eq_true_eq, -decide_eq_false_iff_not]
theorem rval_c (b : Bnk) (w : b.Wfb) (h : Heap) (c : Nat) : callA (mdT tblB) (run Try.prog (mdT tblB)) 21 [.agg (bc b)] h c = some (E (valP b), h, c) := by
  obtain ⟨h', c', e⟩ := rval_ev b w
  exact call_of rfl rfl e rfl rfl
theorem bval_ev (b : Bnk) (w : b.Wfb) : ∃ h c, run Try.prog (mdT tblB) 22 [b.av] Heap.none 0 = some (E (valP b), h, c) := by
  rw [run_eq, show mdT tblB 22 = some .pure from rfl, Option.bind_some, Try.func22]
  have hm : b.accs.length ≤ 9223372036854775807 := w.la
  have hm2 : b.book.length ≤ 9223372036854775807 := w.lb
  generalize hv : valP b = v
  unfold valP at hv
  unfold Bnk.av
  cases g0 : decide (20000 < (b.book.length : Int))
  case true =>
    rw [g0] at hv; simp only [cond_true] at hv
    simp -implicitDefEqProofs [Try.f22, g0, ← hv, -decide_eq_true_eq, -decide_eq_false_iff_not]
  rw [g0] at hv; simp only [cond_false] at hv
  simp -implicitDefEqProofs [Try.f22, g0, Option.bind_assoc, -decide_eq_true_eq, -decide_eq_false_iff_not]
  refine scan_list (R := fun o => ∃ h c, o = some (E v, h, c)) b.accs longA (fun j s => s.h 0 = some ⟨5, [bc b]⟩ ∧ 0 < s.c ∧ s.t 1 = .ptr 0 0 0 ∧ s.t 14 = .ro b.na (b.accs.map Acc.cells) ∧ s.t 15 = I b.accs.length ∧ s.t 16 = I j) _ ?_ ?_ ?_ ?_
  · simp
  · rintro j ⟨t, h, c⟩ ⟨h0, hc, t1, ta, tb, t3⟩ hj hp
    simp only at h0 hc t1 ta tb t3
    have n1 : ¬ (0 = c) := by omega
    have n2 : ¬ (c = 0) := by omega
    have k1 : decide ((j : Int) < (b.accs.length : Int)) = true := decide_eq_true (by omega)
    unfold longA at hp
    simp -implicitDefEqProofs [n1, n2, h0, t1, ta, tb, t3, hj, k1, hp, Acc.cells, -decide_eq_true_eq, -decide_eq_false_iff_not]
    first | exact ⟨by omega, wrap_succ (by omega)⟩ | exact wrap_succ (by omega)
  · rintro j ⟨t, h, c⟩ ⟨h0, hc, t1, ta, tb, t3⟩ hj hp ha
    simp only at h0 hc t1 ta tb t3
    have n1 : ¬ (0 = c) := by omega
    have n2 : ¬ (c = 0) := by omega
    have k1 : decide ((j : Int) < (b.accs.length : Int)) = true := decide_eq_true (by omega)
    rw [ha] at hv; simp only [cond_true] at hv
    unfold longA at hp
    simp -implicitDefEqProofs [n1, n2, h0, t1, ta, tb, t3, hj, k1, hp, ← hv, Acc.cells, -decide_eq_true_eq, -decide_eq_false_iff_not]
  · rintro ⟨t, h, c⟩ ⟨h0, hc, t1, ta, tb, t3⟩ ha
    simp only at h0 hc t1 ta tb t3
    have n1 : ¬ (0 = c) := by omega
    have n2 : ¬ (c = 0) := by omega
    have k1 : decide ((b.accs.length : Int) < (b.accs.length : Int)) = false := decide_eq_false (by omega)
    rw [ha] at hv; simp only [cond_false] at hv
    unfold headP at hv
    cases g1 : ((b.accs.length : Int) != 12)
    case true =>
      rw [g1] at hv; simp only [Bool.true_or, Bool.or_true, Bool.false_or, cond_true] at hv
      simp -implicitDefEqProofs [n1, n2, h0, t1, ta, tb, t3, k1, g1, ← hv, -decide_eq_true_eq, -decide_eq_false_iff_not]
    cases g2 : (outP b.rate 0 100)
    case true =>
      rw [g1, g2] at hv; simp only [Bool.true_or, Bool.or_true, Bool.false_or, cond_true] at hv
      simp -implicitDefEqProofs [n1, n2, h0, t1, ta, tb, t3, k1, g1, g2, ← hv, -decide_eq_true_eq, -decide_eq_false_iff_not]
    cases g3 : (outP b.infl 0 100)
    case true =>
      rw [g1, g2, g3] at hv; simp only [Bool.true_or, Bool.or_true, Bool.false_or, cond_true] at hv
      simp -implicitDefEqProofs [n1, n2, h0, t1, ta, tb, t3, k1, g1, g2, g3, ← hv, -decide_eq_true_eq, -decide_eq_false_iff_not]
    cases g5 : decide (b.idx < 65536)
    case true =>
      have g4 : outP b.idx 65536 262144 = true := by unfold outP; rw [g5]; rfl
      rw [g1, g2, g3, g4] at hv; simp only [Bool.true_or, Bool.or_true, Bool.false_or, cond_true] at hv
      simp -implicitDefEqProofs [n1, n2, h0, t1, ta, tb, t3, k1, g1, g2, g3, g5, ← hv, -decide_eq_true_eq, -decide_eq_false_iff_not]
    cases g6 : decide (262144 < b.idx)
    case true =>
      have g4 : outP b.idx 65536 262144 = true := by unfold outP; rw [g5, g6]; rfl
      rw [g1, g2, g3, g4] at hv; simp only [Bool.true_or, Bool.or_true, Bool.false_or, cond_true] at hv
      simp -implicitDefEqProofs [n1, n2, h0, t1, ta, tb, t3, k1, g1, g2, g3, g5, g6, ← hv, -decide_eq_true_eq, -decide_eq_false_iff_not]
    have g4 : outP b.idx 65536 262144 = false := by unfold outP; rw [g5, g6]; rfl
    rw [g1, g2, g3, g4] at hv; simp only [Bool.false_or, cond_false] at hv
    simp -implicitDefEqProofs [n1, n2, h0, t1, ta, tb, t3, k1, g1, g2, g3, g5, g6, Option.bind_assoc, -decide_eq_true_eq, -decide_eq_false_iff_not]
    refine scan_list (R := fun o => ∃ h c, o = some (E v, h, c)) b.accs badP (fun j s => s.h 0 = some ⟨5, [bc b]⟩ ∧ 0 < s.c ∧ s.t 1 = .ptr 0 0 0 ∧ s.t 52 = .ro b.na (b.accs.map Acc.cells) ∧ s.t 53 = I b.accs.length ∧ s.t 54 = I j) _ ?_ ?_ ?_ ?_
    · simp [h0, hc, t1, ta, tb, t3]
    · rintro j ⟨t, h, c⟩ ⟨h0, hc, t1, ta, tb, t3⟩ hj hp
      simp only at h0 hc t1 ta tb t3
      have n1 : ¬ (0 = c) := by omega
      have n2 : ¬ (c = 0) := by omega
      have k1 : decide ((j : Int) < (b.accs.length : Int)) = true := decide_eq_true (by omega)
      have hb := fun h c => sound_x b.accs[j] (w.accs _ (List.getElem_mem hj)) h c
      simp -implicitDefEqProofs [n1, n2, h0, t1, ta, tb, t3, hj, k1, hb, hp, Acc.cells, -decide_eq_true_eq, -decide_eq_false_iff_not]
      first | exact ⟨by omega, wrap_succ (by omega)⟩ | exact wrap_succ (by omega)
    · rintro j ⟨t, h, c⟩ ⟨h0, hc, t1, ta, tb, t3⟩ hj hp ha
      simp only at h0 hc t1 ta tb t3
      have n1 : ¬ (0 = c) := by omega
      have n2 : ¬ (c = 0) := by omega
      have k1 : decide ((j : Int) < (b.accs.length : Int)) = true := decide_eq_true (by omega)
      rw [ha] at hv; simp only [cond_true] at hv
      have hb := fun h c => sound_x b.accs[j] (w.accs _ (List.getElem_mem hj)) h c
      simp -implicitDefEqProofs [n1, n2, h0, t1, ta, tb, t3, hj, k1, hb, hp, ← hv, Acc.cells, -decide_eq_true_eq, -decide_eq_false_iff_not]
    · rintro ⟨t, h, c⟩ ⟨h0, hc, t1, ta, tb, t3⟩ ha
      simp only at h0 hc t1 ta tb t3
      have n1 : ¬ (0 = c) := by omega
      have n2 : ¬ (c = 0) := by omega
      have k1 : decide ((b.accs.length : Int) < (b.accs.length : Int)) = false := decide_eq_false (by omega)
      rw [ha] at hv; simp only [cond_false] at hv
      simp -implicitDefEqProofs [n1, n2, h0, t1, ta, tb, t3, k1, Option.bind_assoc, -decide_eq_true_eq, -decide_eq_false_iff_not]
      refine scan_list (R := fun o => ∃ h c, o = some (E v, h, c)) b.book entP (fun j s => s.h 0 = some ⟨5, [bc b]⟩ ∧ 0 < s.c ∧ s.t 1 = .ptr 0 0 0 ∧ s.t 63 = .ro b.nb (b.book.map Ent.cells) ∧ s.t 64 = I b.book.length ∧ s.t 65 = I j) _ ?_ ?_ ?_ ?_
      · simp [h0, hc, t1, ta, tb, t3]
      · rintro j ⟨t, h, c⟩ ⟨h0, hc, t1, ta, tb, t3⟩ hj hp
        simp only at h0 hc t1 ta tb t3
        have n1 : ¬ (0 = c) := by omega
        have n2 : ¬ (c = 0) := by omega
        have k1 : decide ((j : Int) < (b.book.length : Int)) = true := decide_eq_true (by omega)
        unfold entP at hp
        simp only [Bool.or_eq_false_iff] at hp
        obtain ⟨⟨⟨p0, p1⟩, p2⟩, p3⟩ := hp
        simp -implicitDefEqProofs [n1, n2, h0, t1, ta, tb, t3, hj, k1, p0, p1, p2, p3, Ent.cells, -decide_eq_true_eq, -decide_eq_false_iff_not]
        first | exact ⟨by omega, wrap_succ (by omega)⟩ | exact wrap_succ (by omega)
      · rintro j ⟨t, h, c⟩ ⟨h0, hc, t1, ta, tb, t3⟩ hj hp ha
        simp only at h0 hc t1 ta tb t3
        have n1 : ¬ (0 = c) := by omega
        have n2 : ¬ (c = 0) := by omega
        have k1 : decide ((j : Int) < (b.book.length : Int)) = true := decide_eq_true (by omega)
        rw [ha] at hv; simp only [cond_true] at hv
        unfold entP at hp
        cases p0 : (outP b.book[j].co 0 11)
        case true => simp -implicitDefEqProofs [n1, n2, h0, t1, ta, tb, t3, hj, k1, p0, ← hv, Ent.cells, -decide_eq_true_eq, -decide_eq_false_iff_not]
        cases p1 : (outP b.book[j].kd 0 9)
        case true => simp -implicitDefEqProofs [n1, n2, h0, t1, ta, tb, t3, hj, k1, p0, p1, ← hv, Ent.cells, -decide_eq_true_eq, -decide_eq_false_iff_not]
        cases p2 : (b.book[j].am == 0)
        case true => simp -implicitDefEqProofs [n1, n2, h0, t1, ta, tb, t3, hj, k1, p0, p1, p2, ← hv, Ent.cells, -decide_eq_true_eq, -decide_eq_false_iff_not]
        rw [p0, p1, p2] at hp; simp only [Bool.false_or] at hp
        simp -implicitDefEqProofs [n1, n2, h0, t1, ta, tb, t3, hj, k1, p0, p1, p2, hp, ← hv, Ent.cells, -decide_eq_true_eq, -decide_eq_false_iff_not]
      · rintro ⟨t, h, c⟩ ⟨h0, hc, t1, ta, tb, t3⟩ ha
        simp only at h0 hc t1 ta tb t3
        have n1 : ¬ (0 = c) := by omega
        have n2 : ¬ (c = 0) := by omega
        have k1 : decide ((b.book.length : Int) < (b.book.length : Int)) = false := decide_eq_false (by omega)
        rw [ha] at hv; simp only [cond_false] at hv
        simp -implicitDefEqProofs [n1, n2, h0, t1, ta, tb, t3, k1, ← hv, -decide_eq_true_eq, -decide_eq_false_iff_not]
theorem bval_c (b : Bnk) (w : b.Wfb) (h : Heap) (c : Nat) : callA (mdT tblB) (run Try.prog (mdT tblB)) 22 [.agg (bc b)] h c = some (E (valP b), h, c) := by
  obtain ⟨h', c', e⟩ := bval_ev b w
  exact call_of rfl rfl e rfl rfl
end Go.Proofs.Ytdckleaemkcapaa.AM
namespace Go.Proofs.Ytdckleaemkcapaa.AM
open Go Go.Proofs
attribute [local simp] AV.cells okc AV.isBad fieldAddrA ld setCells stA skipV appendA hd makeA bnd sliceA kindA freshA killOk loadsAt newT empT lay_get allocA buildA buildRow builtinA lenA els indexAddrA isNil opA evA lit yldA binA binI unA pickA boolV intV fieldA mk flat lf lf.lfs frz
theorem known_c (h : Heap) (c : Nat) : callA (mdT tblB) (run Try.prog (mdT tblB)) 20 [] h c = some (B true, h, c) := by
  obtain ⟨h', c', e⟩ := known_B
  exact call_of rfl rfl e rfl rfl
theorem law3 (b : Bnk) (w : b.Wfb) : ∃ hp c, run Try.prog (mdT tblB) 3 [b.av] Heap.none 0 = some (B true, hp, c) := by
  have k := known_c
  have f := far_c b w
  have v1 := rval_c b w
  have v2 := bval_c b w
  rw [run_eq, show mdT tblB 3 = some .pure from rfl, Option.bind_some, Try.func3]
  unfold Bnk.av
  cases g0 : farP b
  · simp -implicitDefEqProofs [Try.f3, g0, f, v1, v2, k]
  · simp -implicitDefEqProofs [Try.f3, g0, f, v1, v2, k]
theorem pure3 (x0 : AV) (h0 : TyArg Try.prog 8 25 x0) : ∃ h c, run Try.prog (mdT tblB) 3 [x0] Heap.none 0 = some (B true, h, c) := by
  obtain ⟨b, rfl, w⟩ := arg25 h0
  exact law3 b w
end Go.Proofs.Ytdckleaemkcapaa.AM
namespace Go.Proofs.Ytdckleaemkcapaa.AM
open Go Go.Proofs
attribute [local simp] AV.cells okc AV.isBad fieldAddrA ld setCells stA skipV appendA hd makeA bnd sliceA kindA freshA killOk loadsAt newT empT lay_get allocA buildA buildRow builtinA lenA els indexAddrA isNil opA evA lit yldA binA binI unA pickA boolV intV fieldA mk flat lf lf.lfs frz
def Acc.nrm (a : Acc) : Acc := { a with np := false, nl := false }
def Bnk.nrm (b : Bnk) : Bnk := { b with na := false, nb := false, accs := b.accs.map Acc.nrm }
theorem listi_ev (z1 z2 : Bool) (l : List Int) (hn : l.length ≤ 9223372036854775807) : ∃ h c, run Try.prog (mdT tblB) 34 [.ro z1 (ints l), .ro z2 (ints l)] Heap.none 0 = some (B true, h, c) := by
  rw [run_eq, show mdT tblB 34 = some .pure from rfl, Option.bind_some, Try.func34]
  simp -implicitDefEqProofs [Try.f34, Option.bind_assoc]
  refine count_to (R := fun o => ∃ h c, o = some (B true, h, c)) l.length (fun j s => s.t 0 = .ro z1 (ints l) ∧ s.t 1 = .ro z2 (ints l) ∧ s.t 5 = I j) _ ?_ ?_ ?_
  · simp
  · rintro j ⟨t, h, c⟩ ⟨t0, t1, t5⟩ hj
    simp only at t0 t1 t5
    simp -implicitDefEqProofs [t0, t1, t5, hj]
    exact wrap_succ (by omega)
  · rintro ⟨t, h, c⟩ ⟨t0, t1, t5⟩
    simp only at t0 t1 t5
    simp -implicitDefEqProofs [t0, t1, t5]
theorem listi_c (z1 z2 : Bool) (l : List Int) (hn : l.length ≤ 9223372036854775807) (h : Heap) (c : Nat) : callA (mdT tblB) (run Try.prog (mdT tblB)) 34 [.ro z1 (ints l), .ro z2 (ints l)] h c = some (B true, h, c) := by
  obtain ⟨h', c', e⟩ := listi_ev z1 z2 l hn
  exact call_of rfl rfl e rfl rfl
theorem liste_ev (z1 z2 : Bool) (l : List Ent) (hn : l.length ≤ 9223372036854775807) : ∃ h c, run Try.prog (mdT tblB) 66 [.ro z1 (l.map Ent.cells), .ro z2 (l.map Ent.cells)] Heap.none 0 = some (B true, h, c) := by
  rw [run_eq, show mdT tblB 66 = some .pure from rfl, Option.bind_some, Try.func66]
  simp -implicitDefEqProofs [Try.f66, Option.bind_assoc]
  refine count_to (R := fun o => ∃ h c, o = some (B true, h, c)) l.length (fun j s => s.t 0 = .ro z1 (l.map Ent.cells) ∧ s.t 1 = .ro z2 (l.map Ent.cells) ∧ s.t 5 = I j) _ ?_ ?_ ?_
  · simp
  · rintro j ⟨t, h, c⟩ ⟨t0, t1, t5⟩ hj
    simp only at t0 t1 t5
    simp -implicitDefEqProofs [t0, t1, t5, hj, Ent.cells, eqs]
    exact wrap_succ (by omega)
  · rintro ⟨t, h, c⟩ ⟨t0, t1, t5⟩
    simp only at t0 t1 t5
    simp -implicitDefEqProofs [t0, t1, t5]
theorem liste_c (z1 z2 : Bool) (l : List Ent) (hn : l.length ≤ 9223372036854775807) (h : Heap) (c : Nat) : callA (mdT tblB) (run Try.prog (mdT tblB)) 66 [.ro z1 (l.map Ent.cells), .ro z2 (l.map Ent.cells)] h c = some (B true, h, c) := by
  obtain ⟨h', c', e⟩ := liste_ev z1 z2 l hn
  exact call_of rfl rfl e rfl rfl
theorem nrm_get {a b : Bnk} (h : a.nrm = b.nrm) : a.rate = b.rate ∧ a.infl = b.infl ∧ a.idx = b.idx ∧ a.book = b.book ∧ a.accs.length = b.accs.length ∧
    ∀ j (h1 : j < a.accs.length) (h2 : j < b.accs.length), a.accs[j].opn = b.accs[j].opn ∧ a.accs[j].cash = b.accs[j].cash ∧ a.accs[j].loan = b.accs[j].loan ∧ a.accs[j].parts = b.accs[j].parts ∧ a.accs[j].last = b.accs[j].last := by
  obtain ⟨na, la, r1, r2, r3, nb, k⟩ := a
  obtain ⟨na', la', r1', r2', r3', nb', k'⟩ := b
  simp only [Bnk.nrm, Bnk.mk.injEq, true_and] at h
  obtain ⟨h0, h1, h2, h3, h4⟩ := h
  refine ⟨h1, h2, h3, h4, by simpa using congrArg List.length h0, fun j g1 g2 => ?_⟩
  simp only at g1 g2
  have e : (la.map Acc.nrm)[j]? = (la'.map Acc.nrm)[j]? := by rw [h0]
  simp only [List.getElem?_map, List.getElem?_eq_getElem g1, List.getElem?_eq_getElem g2, Option.map_some, Option.some.injEq, Acc.nrm, Acc.mk.injEq, true_and] at e
  simpa using e
theorem same_ev (a b : Bnk) (hs : a.nrm = b.nrm) (w : a.Wfb) : ∃ h c, run Try.prog (mdT tblB) 25 [a.av, b.av] Heap.none 0 = some (B true, h, c) := by
  obtain ⟨e1, e2, e3, e4, e5, e6⟩ := nrm_get hs
  have hl := fun z1 z2 h c => liste_c z1 z2 b.book (by rw [← e4]; exact w.lb) h c
  have hm := w.la
  rw [run_eq, show mdT tblB 25 = some .pure from rfl, Option.bind_some, Try.func25]
  unfold Bnk.av
  rw [e1, e2, e3, e4]
  simp -implicitDefEqProofs [Try.f25, e5, hl, Option.bind_assoc]
  refine count_to (R := fun o => ∃ h c, o = some (B true, h, c)) a.accs.length (fun j s => s.h 0 = some ⟨5, [[.ro a.na (a.accs.map Acc.cells), I b.rate, I b.infl, I b.idx, .ro a.nb (b.book.map Ent.cells)]]⟩ ∧ s.h 1 = some ⟨5, [bc b]⟩ ∧ 1 < s.c ∧ s.t 2 = .ptr 0 0 0 ∧ s.t 3 = .ptr 1 0 0 ∧ s.t 5 = I j) _ ?_ ?_ ?_
  · simp
  · rintro j ⟨t, h, c⟩ ⟨h0, h1, hc, t2, t3, t5⟩ hj
    simp only at h0 h1 hc t2 t3 t5
    have hj' : j < b.accs.length := by omega
    obtain ⟨f1, f2, f3, f4, f5⟩ := e6 j hj hj'
    have n1 : ¬ (0 = c) := by omega
    have n2 : ¬ (c = 0) := by omega
    have n3 : ¬ (1 = c) := by omega
    have n4 : ¬ (c = 1) := by omega
    have n5 : ¬ (0 = c + 1) := by omega
    have n6 : ¬ (1 = c + 1) := by omega
    have n7 : ¬ (c + 1 = 0) := by omega
    have n8 : ¬ (c + 1 = 1) := by omega
    have n9 : ¬ (c + 1 ≤ c) := by omega
    have m1 : ¬ (c ≤ 0) := by omega
    have m2 : ¬ (c ≤ 1) := by omega
    have m3 : ¬ (c + 1 ≤ 0) := by omega
    have m4 : ¬ (c + 1 ≤ 1) := by omega
    have l1 := fun z1 z2 h c => listi_c z1 z2 b.accs[j].parts (by rw [← f4]; exact (w.accs _ (List.getElem_mem hj)).lp) h c
    have l2 := fun z1 z2 h c => listi_c z1 z2 b.accs[j].last (by rw [← f5]; exact (w.accs _ (List.getElem_mem hj)).ll) h c
    have k1 : decide ((j : Int) < (a.accs.length : Int)) = true := decide_eq_true (by omega)
    simp -implicitDefEqProofs [h0, h1, t2, t3, t5, hj, hj', k1, n1, n2, n3, n4, n5, n6, n7, n8, n9, m1, m2, m3, m4, f1, f2, f3, f4, f5, l1, l2, Acc.cells]
    first | exact ⟨by omega, wrap_succ (by omega)⟩ | exact wrap_succ (by omega)
  · rintro ⟨t, h, c⟩ ⟨h0, h1, hc, t2, t3, t5⟩
    simp only at h0 h1 hc t2 t3 t5
    simp -implicitDefEqProofs [h0, h1, t2, t3, t5]
theorem same_c (a b : Bnk) (hs : a.nrm = b.nrm) (w : a.Wfb) (h : Heap) (c : Nat) : callA (mdT tblB) (run Try.prog (mdT tblB)) 25 [.agg (bc a), .agg (bc b)] h c = some (B true, h, c) := by
  obtain ⟨h', c', e⟩ := same_ev a b hs w
  exact call_of rfl rfl e rfl rfl
end Go.Proofs.Ytdckleaemkcapaa.AM
namespace Go.Proofs.Ytdckleaemkcapaa.AM
open Go Go.Proofs
attribute [local simp] AV.cells okc AV.isBad fieldAddrA ld setCells stA skipV appendA hd makeA bnd sliceA kindA freshA killOk loadsAt newT empT lay_get allocA buildA buildRow builtinA lenA els indexAddrA isNil opA evA lit yldA binA binI unA pickA boolV intV fieldA mk flat lf lf.lfs frz
/-- A call of a function that is called by value, with what it answers read out of its memory. -/
theorem call_frz {f : Nat} {args vs : List AV} {r r' : AV} {h h' : Heap} {c c' : Nat} (hm : mdT tblB f = some .pure) (ha : args.mapM (frz h depth) = some vs)
    (e : run Try.prog (mdT tblB) f vs Heap.none 0 = some (r, h', c')) (fr : frz h' depth r = some r') (hl : lf.lfs args = true) :
    callA (mdT tblB) (run Try.prog (mdT tblB)) f args h c = some (r', h, c) := by
  rw [call_pure _ _ _ _ _ _ hm, ha, Option.bind_some, e, Option.bind_some]
  rw [fr, Option.bind_some, hl]
  rfl
/-- The same, of a result that is the call's own alone. -/
theorem call_own {f : Nat} {args vs : List AV} {r r' : AV} {h h' : Heap} {c c' : Nat} (hm : mdT tblB f = some .pure) (ha : args.mapM (frz h depth) = some vs)
    (e : run Try.prog (mdT tblB) f vs Heap.none 0 = some (r, h', c')) (fr : frz h' depth r = some r') (hl : okO h' depth r = true) :
    callA (mdT tblB) (run Try.prog (mdT tblB)) f args h c = some (r', h, c) := by
  rw [call_pure _ _ _ _ _ _ hm, ha, Option.bind_some, e, Option.bind_some]
  rw [fr, Option.bind_some, hl]
  rw [show (lf.lfs args || flat r' || true) = true by simp]
  rfl
/-- What a call answers, read out of its memory. -/
def Ans (R : AV) : Option (AV × Heap × Nat) → Prop
  | some (r, h, _) => frz h depth r = some R
  | none => False
@[simp] theorem ans_some {R r : AV} {h : Heap} {c : Nat} : Ans R (some (r, h, c)) ↔ frz h depth r = some R := Iff.rfl
@[simp] theorem ans_none {R : AV} : Ans R none ↔ False := Iff.rfl
theorem call_ans {f : Nat} {args vs : List AV} {r' : AV} {h : Heap} {c : Nat} (hm : mdT tblB f = some .pure) (ha : args.mapM (frz h depth) = some vs)
    (e : Ans r' (run Try.prog (mdT tblB) f vs Heap.none 0)) (hl : lf.lfs args = true) :
    callA (mdT tblB) (run Try.prog (mdT tblB)) f args h c = some (r', h, c) := by
  cases e2 : run Try.prog (mdT tblB) f vs Heap.none 0 with
  | none => rw [e2] at e; exact e.elim
  | some p =>
    obtain ⟨r, h', c'⟩ := p
    rw [e2] at e
    exact call_frz hm ha e2 e hl
abbrev shutC : List AV := [B false, I 0, I 0, .ro false [[I (-1)], [I (-1)], [I (-1)], [I (-1)]], .ro true []]
def shutA : Acc := ⟨false, 0, 0, false, [-1, -1, -1, -1], true, []⟩
theorem shutA_cells : shutA.cells = shutC := rfl
theorem rclosed_c (h : Heap) (c : Nat) : callA (mdT tblB) (run Try.prog (mdT tblB)) 64 [] h c = some (.agg shutC, h, c) := by
  have e : Ans (.agg shutC) (run Try.prog (mdT tblB) 64 [] Heap.none 0) := by
    rw [run_eq, show mdT tblB 64 = some .pure from rfl, Option.bind_some, Try.func64]
    simp -implicitDefEqProofs [Try.f64, depth]
  exact call_ans rfl rfl e rfl
theorem bclosed_c (h : Heap) (c : Nat) : callA (mdT tblB) (run Try.prog (mdT tblB)) 65 [] h c = some (.agg shutC, h, c) := by
  have e : Ans (.agg shutC) (run Try.prog (mdT tblB) 65 [] Heap.none 0) := by
    rw [run_eq, show mdT tblB 65 = some .pure from rfl, Option.bind_some, Try.func65]
    simp -implicitDefEqProofs [Try.f65, depth]
  exact call_ans rfl rfl e rfl
def noB : Bnk := ⟨true, [], 0, 0, 0, true, []⟩
abbrev noC : List AV := [.ro true [], I 0, I 0, I 0, .ro true []]
theorem noB_av : noB.av = .agg noC := rfl
def newB (rate infl : Int) : Bnk := ⟨false, List.replicate 12 shutA, rate, infl, 65536, true, []⟩
theorem newB_sized (rate infl : Int) : (newB rate infl).Wfb := ⟨fun a h => by simp [newB] at h; subst h; exact ⟨by simp [shutA], by simp [shutA], fun h => (by cases h), fun _ => rfl⟩, by simp [newB], by simp [newB], fun h => (by cases h), fun _ => rfl⟩
def newP (rate infl : Int) : Int := bif outP rate 0 100 || outP infl 0 100 then 1 else 0
def resB (e : Int) (b : Bnk) : AV := .tup [(bif e == 0 then b else noB).av, E e]
theorem repl_frz (h : Heap) (n k : Nat) : (List.replicate n shutC).mapM (fun e => e.mapM (frz h (k + 1))) = some (List.replicate n shutC) := by
  induction n with
  | zero => rfl
  | succ n ih =>
    rw [List.replicate_succ, List.mapM_cons, ih]
    rfl
theorem rnew_x (rate infl : Int) : Ans (resB (newP rate infl) (newB rate infl)) (run Try.prog (mdT tblB) 23 [I rate, I infl] Heap.none 0) := by
  have hk := rclosed_c
  rw [run_eq, show mdT tblB 23 = some .pure from rfl, Option.bind_some, Try.func23]
  cases g0 : outP rate 0 100
  case true =>
    rw [show newP rate infl = 1 by unfold newP; rw [g0]; rfl]
    simp -implicitDefEqProofs [Try.f23, g0, depth, resB, noB, Bnk.av]
  cases g1 : outP infl 0 100
  case true =>
    rw [show newP rate infl = 1 by unfold newP; rw [g0, g1]; rfl]
    simp -implicitDefEqProofs [Try.f23, g0, g1, depth, resB, noB, Bnk.av]
  rw [show newP rate infl = 0 by unfold newP; rw [g0, g1]; rfl]
  rw [show resB 0 (newB rate infl) = .tup [.agg [.ro false (List.replicate 12 shutC), I rate, I infl, I 65536, .ro true []], E 0] from rfl]
  simp -implicitDefEqProofs [Try.f23, g0, g1, Option.bind_assoc]
  refine count_to (R := Ans (.tup [.agg [.ro false (List.replicate 12 shutC), I rate, I infl, I 65536, .ro true []], E 0])) 12 (fun j s => s.h 0 = some ⟨5, [noC]⟩ ∧ 1 < s.c ∧ s.t 4 = .ptr 0 0 0 ∧ s.t 6 = .ptr 1 0 0 ∧ s.t 7 = I j ∧
    ∃ v, s.h 1 = some ⟨5, [[v, I rate, I infl, I 65536, .ro true []]]⟩ ∧ ((j = 0 ∧ v = .ro true []) ∨ (0 < j ∧ ∃ l, v = .sl l 5 0 j ∧ l < s.c ∧ 1 < l ∧ s.h l = some ⟨5, List.replicate j shutC⟩))) _ ?_ ?_ ?_
  · simp
  · rintro j ⟨t, h, c⟩ ⟨h0, hc, t4, t6, tj, v, h1, hv⟩ hj
    simp only at h0 hc t4 t6 tj h1 hv
    have n1 : ¬ (0 = c) := by omega
    have n2 : ¬ (c = 0) := by omega
    have n3 : ¬ (1 = c) := by omega
    have n4 : ¬ (c = 1) := by omega
    have n5 : ¬ (0 = c + 1) := by omega
    have n6 : ¬ (1 = c + 1) := by omega
    have n7 : ¬ (c + 1 = 0) := by omega
    have n8 : ¬ (c + 1 = 1) := by omega
    have n9 : ¬ (c + 1 ≤ c) := by omega
    have m1 : ¬ (c ≤ 0) := by omega
    have m2 : ¬ (c ≤ 1) := by omega
    have m3 : ¬ (c + 1 ≤ 0) := by omega
    have m4 : ¬ (c + 1 ≤ 1) := by omega
    have k1 : decide ((j : Int) < 12) = true := decide_eq_true (by omega)
    rcases hv with ⟨rfl, rfl⟩ | ⟨hj0, l, rfl, hlc, hl1, hl⟩
    · simp -implicitDefEqProofs [h0, h1, t4, t6, tj, k1, hk, n1, n2, n3, n4, n5, n6, n7, n8, n9, m1, m2, m3, m4, room]
      exact ⟨by rfl, by omega⟩
    · have k2 : ¬ (l = 1) := by omega
      have k3 : ¬ (1 = l) := by omega
      have k4 : ¬ (l = 0) := by omega
      have k5 : ¬ (0 = l) := by omega
      have k6 : ¬ (l = c) := by omega
      have k7 : ¬ (c ≤ l) := by omega
      have k8 : ¬ (l = c + 1) := by omega
      have k9 : ¬ (c + 1 = l) := by omega
      have r1 : j + 1 ≤ 140737488355328 := by omega
      have r2 : (j + 1) * 72 ≤ 140737488355328 := by omega
      have r3 : List.replicate j shutC ++ [shutC] = List.replicate (j + 1) shutC := List.replicate_succ'.symm
      simp -implicitDefEqProofs [h0, h1, hl, t4, t6, tj, k1, hk, n1, n2, n3, n4, n5, n6, n7, n8, n9, m1, m2, m3, m4, k2, k3, k4, k5, k6, k7, k8, k9, room, r1, r2, r3, hj0, wrap_succ (show j < 9223372036854775807 by omega)]
      first | omega | skip
  · rintro ⟨t, h, c⟩ ⟨h0, hc, t4, t6, tj, v, h1, hv⟩
    simp only at h0 hc t4 t6 tj h1 hv
    rcases hv with ⟨he, _⟩ | ⟨hj0, l, rfl, hlc, hl1, hl⟩
    · cases he
    · have k2 : ¬ (l = 0) := by omega
      have k3 : ¬ (0 = l) := by omega
      have hf := fun h k => repl_frz h 12 k
      simp -implicitDefEqProofs [h0, h1, hl, t4, t6, tj, k2, k3, depth, hf]
theorem rnew_c (rate infl : Int) (h : Heap) (c : Nat) : callA (mdT tblB) (run Try.prog (mdT tblB)) 23 [I rate, I infl] h c = some (resB (newP rate infl) (newB rate infl), h, c) := by
  exact call_ans rfl rfl (rnew_x rate infl) rfl
theorem bnew_x (rate infl : Int) : Ans (resB (newP rate infl) (newB rate infl)) (run Try.prog (mdT tblB) 24 [I rate, I infl] Heap.none 0) := by
  have hk := bclosed_c
  rw [run_eq, show mdT tblB 24 = some .pure from rfl, Option.bind_some, Try.func24]
  cases g0 : outP rate 0 100
  case true =>
    rw [show newP rate infl = 1 by unfold newP; rw [g0]; rfl]
    simp -implicitDefEqProofs [Try.f24, g0, depth, resB, noB, Bnk.av]
  cases g1 : outP infl 0 100
  case true =>
    rw [show newP rate infl = 1 by unfold newP; rw [g0, g1]; rfl]
    simp -implicitDefEqProofs [Try.f24, g0, g1, depth, resB, noB, Bnk.av]
  rw [show newP rate infl = 0 by unfold newP; rw [g0, g1]; rfl]
  rw [show resB 0 (newB rate infl) = .tup [.agg [.ro false (List.replicate 12 shutC), I rate, I infl, I 65536, .ro true []], E 0] from rfl]
  simp -implicitDefEqProofs [Try.f24, g0, g1, Option.bind_assoc]
  refine count_to (R := Ans (.tup [.agg [.ro false (List.replicate 12 shutC), I rate, I infl, I 65536, .ro true []], E 0])) 12 (fun j s => s.h 0 = some ⟨5, [noC]⟩ ∧ 1 < s.c ∧ s.t 4 = .ptr 0 0 0 ∧ s.t 6 = .ptr 1 0 0 ∧ s.t 19 = I j ∧
    ∃ v, s.h 1 = some ⟨5, [[v, I rate, I infl, I 65536, .ro true []]]⟩ ∧ ((j = 0 ∧ v = .ro true []) ∨ (0 < j ∧ ∃ l, v = .sl l 5 0 j ∧ l < s.c ∧ 1 < l ∧ s.h l = some ⟨5, List.replicate j shutC⟩))) _ ?_ ?_ ?_
  · simp
  · rintro j ⟨t, h, c⟩ ⟨h0, hc, t4, t6, tj, v, h1, hv⟩ hj
    simp only at h0 hc t4 t6 tj h1 hv
    have n1 : ¬ (0 = c) := by omega
    have n2 : ¬ (c = 0) := by omega
    have n3 : ¬ (1 = c) := by omega
    have n4 : ¬ (c = 1) := by omega
    have n5 : ¬ (0 = c + 1) := by omega
    have n6 : ¬ (1 = c + 1) := by omega
    have n7 : ¬ (c + 1 = 0) := by omega
    have n8 : ¬ (c + 1 = 1) := by omega
    have n9 : ¬ (c + 1 ≤ c) := by omega
    have m1 : ¬ (c ≤ 0) := by omega
    have m2 : ¬ (c ≤ 1) := by omega
    have m3 : ¬ (c + 1 ≤ 0) := by omega
    have m4 : ¬ (c + 1 ≤ 1) := by omega
    have k1 : decide ((j : Int) < 12) = true := decide_eq_true (by omega)
    rcases hv with ⟨rfl, rfl⟩ | ⟨hj0, l, rfl, hlc, hl1, hl⟩
    · simp -implicitDefEqProofs [h0, h1, t4, t6, tj, k1, hk, n1, n2, n3, n4, n5, n6, n7, n8, n9, m1, m2, m3, m4, room]
      exact ⟨by rfl, by omega⟩
    · have k2 : ¬ (l = 1) := by omega
      have k3 : ¬ (1 = l) := by omega
      have k4 : ¬ (l = 0) := by omega
      have k5 : ¬ (0 = l) := by omega
      have k6 : ¬ (l = c) := by omega
      have k7 : ¬ (c ≤ l) := by omega
      have k8 : ¬ (l = c + 1) := by omega
      have k9 : ¬ (c + 1 = l) := by omega
      have r1 : j + 1 ≤ 140737488355328 := by omega
      have r2 : (j + 1) * 72 ≤ 140737488355328 := by omega
      have r3 : List.replicate j shutC ++ [shutC] = List.replicate (j + 1) shutC := List.replicate_succ'.symm
      simp -implicitDefEqProofs [h0, h1, hl, t4, t6, tj, k1, hk, n1, n2, n3, n4, n5, n6, n7, n8, n9, m1, m2, m3, m4, k2, k3, k4, k5, k6, k7, k8, k9, room, r1, r2, r3, hj0, wrap_succ (show j < 9223372036854775807 by omega)]
      first | omega | skip
  · rintro ⟨t, h, c⟩ ⟨h0, hc, t4, t6, tj, v, h1, hv⟩
    simp only at h0 hc t4 t6 tj h1 hv
    rcases hv with ⟨he, _⟩ | ⟨hj0, l, rfl, hlc, hl1, hl⟩
    · cases he
    · have k2 : ¬ (l = 0) := by omega
      have k3 : ¬ (0 = l) := by omega
      have hf := fun h k => repl_frz h 12 k
      simp -implicitDefEqProofs [h0, h1, hl, t4, t6, tj, k2, k3, depth, hf]
theorem bnew_c (rate infl : Int) (h : Heap) (c : Nat) : callA (mdT tblB) (run Try.prog (mdT tblB)) 24 [I rate, I infl] h c = some (resB (newP rate infl) (newB rate infl), h, c) := by
  exact call_ans rfl rfl (bnew_x rate infl) rfl
end Go.Proofs.Ytdckleaemkcapaa.AM
namespace Go.Proofs.Ytdckleaemkcapaa.AM
open Go Go.Proofs
attribute [local simp] AV.cells okc AV.isBad fieldAddrA ld setCells stA skipV appendA hd makeA bnd sliceA kindA freshA killOk loadsAt newT empT lay_get allocA buildA buildRow builtinA lenA els indexAddrA isNil opA evA lit yldA binA binI unA pickA boolV intV fieldA mk flat lf lf.lfs frz
def pickB (e : Int) (b : Bnk) : Bnk := bif e == 0 then b else noB
theorem noB_sized : noB.Wfb := ⟨fun a h => by simp [noB] at h, by simp [noB], by simp [noB], fun _ => rfl, fun _ => rfl⟩
theorem pick_sized {e : Int} {b : Bnk} (h : b.Wfb) : Bnk.Wfb (pickB e b) := by
  unfold pickB
  cases e == 0
  · exact noB_sized
  · exact h
theorem resB_eq (e : Int) (b : Bnk) : resB e b = .tup [.agg (bc (pickB e b)), E e] := rfl
theorem law4 (rate infl : Int) : ∃ hp c, run Try.prog (mdT tblB) 4 [I rate, I infl] Heap.none 0 = some (B true, hp, c) := by
  have k := known_c
  have r1 := rnew_c rate infl
  have r2 := bnew_c rate infl
  rw [resB_eq] at r1 r2
  have hw : Bnk.Wfb (pickB (newP rate infl) (newB rate infl)) := pick_sized (newB_sized _ _)
  revert r1 r2 hw
  generalize pickB (newP rate infl) (newB rate infl) = n
  generalize newP rate infl = e
  intro r1 r2 hw
  have s := same_c n n rfl hw
  rw [run_eq, show mdT tblB 4 = some .pure from rfl, Option.bind_some, Try.func4]
  simp -implicitDefEqProofs [Try.f4, r1, r2, k, s]
theorem pure4 (x0 x1 : AV) (h0 : TyArg Try.prog 8 3 x0) (h1 : TyArg Try.prog 8 3 x1) : ∃ h c, run Try.prog (mdT tblB) 4 [x0, x1] Heap.none 0 = some (B true, h, c) := by
  obtain ⟨a, rfl, _⟩ := arg3 h0
  obtain ⟨b, rfl, _⟩ := arg3 h1
  exact law4 a b
end Go.Proofs.Ytdckleaemkcapaa.AM
