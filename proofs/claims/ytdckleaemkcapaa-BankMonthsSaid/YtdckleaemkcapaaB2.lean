/- Texts of the proof: part B2. -/
import Derived.Test.YtdckleaemkcapaaB1
import Derived.Test.YtdckleaemkcapaaAmScan
namespace Go.Proofs.Ytdckleaemkcapaa.AM
open Go Go.Proofs
set_option linter.unusedVariables false
/-- A call of a function that is called by value, and that answers with scalars. -/
theorem call_of {f : Nat} {args vs : List AV} {r : AV} {h h' : Heap} {c c' : Nat} (hm : mdT tblB f = some .pure) (ha : args.mapM (frz h depth) = some vs)
    (e : run Try.prog (mdT tblB) f vs Heap.none 0 = some (r, h', c')) (fr : frz h' depth r = some r) (fl : flat r = true) :
    callA (mdT tblB) (run Try.prog (mdT tblB)) f args h c = some (r, h, c) := by
  rw [call_pure _ _ _ _ _ _ hm, ha, Option.bind_some, e, Option.bind_some]
  rw [fr, Option.bind_some, fl]
  rw [show (lf.lfs args || true || okO h' depth r) = true by simp]
  rfl
abbrev I (n : Int) : AV := .val (.int .i64 n)
abbrev B (b : Bool) : AV := .val (.bool b)
abbrev E (n : Int) : AV := .val (.int .i64 n)
abbrev ints (l : List Int) : List (List AV) := l.map fun n => [I n]
structure Acc where
  opn : Bool
  cash : Int
  loan : Int
  np : Bool
  parts : List Int
  nl : Bool
  last : List Int
structure Ent where
  co : Int
  kd : Int
  am : Int
  deriving DecidableEq
structure Bnk where
  na : Bool
  accs : List Acc
  rate : Int
  infl : Int
  idx : Int
  nb : Bool
  book : List Ent
def Acc.cells (a : Acc) : List AV := [B a.opn, I a.cash, I a.loan, .ro a.np (ints a.parts), .ro a.nl (ints a.last)]
def Ent.cells (e : Ent) : List AV := [I e.co, I e.kd, I e.am]
def Bnk.av (b : Bnk) : AV := .agg [.ro b.na (b.accs.map Acc.cells), I b.rate, I b.infl, I b.idx, .ro b.nb (b.book.map Ent.cells)]
def Acc.av (a : Acc) : AV := .agg a.cells
def Wf (n : Int) : Prop := -9223372036854775808 ≤ n ∧ n ≤ 9223372036854775807
structure Acc.Wfa (a : Acc) : Prop where
  lp : a.parts.length ≤ 9223372036854775807
  ll : a.last.length ≤ 9223372036854775807
  fp : a.np = true → a.parts = []
  fl : a.nl = true → a.last = []
structure Bnk.Wfb (b : Bnk) : Prop where
  accs : ∀ a ∈ b.accs, a.Wfa
  la : b.accs.length ≤ 9223372036854775807
  lb : b.book.length ≤ 9223372036854775807
  fa : b.na = true → b.accs = []
  fb : b.nb = true → b.book = []
theorem ty3 {n : Nat} {avs : List AV} (h : TyOk Try.prog (n + 1) 3 avs) : ∃ i, avs = [I i] ∧ Wf i := by
  unfold TyOk at h
  rw [Try.underlying3] at h
  exact h
theorem ty4 {n : Nat} {avs : List AV} (h : TyOk Try.prog (n + 1) 4 avs) : ∃ i, avs = [B i] := by
  unfold TyOk at h
  rw [Try.underlying4] at h
  exact h
theorem arg3 {n : Nat} {x : AV} (h : TyArg Try.prog (n + 1) 3 x) : ∃ i, x = I i ∧ Wf i := by
  unfold TyArg at h
  rw [Try.underlying3] at h
  obtain ⟨i, h1, h2⟩ := ty3 h
  cases h1
  exact ⟨i, rfl, h2⟩
theorem rows_of {α : Type} {Q : List AV → Prop} {cells : α → List AV} {W : α → Prop} (hq : ∀ r, Q r → ∃ a, r = cells a ∧ W a) : ∀ es : List (List AV), (∀ r ∈ es, Q r) → ∃ l : List α, es = l.map cells ∧ ∀ a ∈ l, W a
  | [], _ => ⟨[], rfl, fun _ h => by cases h⟩
  | e :: es, h => by
    obtain ⟨l, hl, hw⟩ := rows_of hq es fun r hr => h r (List.mem_cons_of_mem _ hr)
    obtain ⟨a, ha, w⟩ := hq e (h e List.mem_cons_self)
    refine ⟨a :: l, by rw [ha, hl]; rfl, ?_⟩
    intro b hb
    rcases List.mem_cons.1 hb with rfl | hb
    · exact w
    · exact hw b hb
theorem ty40 {n : Nat} {avs : List AV} (h : TyOk Try.prog (n + 2) 40 avs) : ∃ (z : Bool) (l : List Int), avs = [.ro z (ints l)] ∧ l.length ≤ 9223372036854775807 ∧ (z = true → l = []) := by
  unfold TyOk at h
  rw [Try.underlying40] at h
  obtain ⟨z, es, h1, h2, h3, h4⟩ := h
  obtain ⟨l, rfl, hw⟩ := rows_of (cells := fun n : Int => [I n]) (W := Wf) (fun r (hr : _ ∧ _) => ty3 hr.2) es h4
  exact ⟨z, l, h1, by unfold maxLen at h3; simpa using h3, fun hz => by simpa using h2 hz⟩
theorem arg40 {n : Nat} {x : AV} (h : TyArg Try.prog (n + 2) 40 x) : ∃ (z : Bool) (l : List Int), x = .ro z (ints l) ∧ l.length ≤ 9223372036854775807 ∧ (z = true → l = []) := by
  unfold TyArg at h
  rw [Try.underlying40] at h
  obtain ⟨z, l, h1, h2⟩ := ty40 h
  cases h1
  exact ⟨z, l, rfl, h2⟩
theorem cells3 : Try.prog.cellsOf 3 = 1 := by kernel_rfl
theorem cells4 : Try.prog.cellsOf 4 = 1 := by kernel_rfl
theorem cells40 : Try.prog.cellsOf 40 = 1 := by kernel_rfl
theorem cells22 : Try.prog.cellsOf 22 = 1 := by kernel_rfl
theorem cells23 : Try.prog.cellsOf 23 = 1 := by kernel_rfl
theorem cells50 : Try.prog.cellsOf 50 = 5 := by kernel_rfl
theorem cells60 : Try.prog.cellsOf 60 = 3 := by kernel_rfl
theorem cells25 : Try.prog.cellsOf 25 = 5 := by kernel_rfl
theorem ty60 {n : Nat} {avs : List AV} (h : TyOk Try.prog (n + 2) 60 avs) : ∃ e : Ent, avs = e.cells := by
  unfold TyOk at h
  rw [Try.underlying60, cells60] at h
  simp only at h
  obtain ⟨h0, h⟩ := h
  match avs, h0 with
  | [x0, x1, x2], _ =>
  simp [cells3] at h
  obtain ⟨g0, g1, g2⟩ := h
  obtain ⟨i0, e0, w0⟩ := ty3 g0
  obtain ⟨i1, e1, w1⟩ := ty3 g1
  obtain ⟨i2, e2, w2⟩ := ty3 g2
  cases e0; cases e1; cases e2
  exact ⟨⟨i0, i1, i2⟩, rfl⟩
theorem ty50 {n : Nat} {avs : List AV} (h : TyOk Try.prog (n + 3) 50 avs) : ∃ a : Acc, avs = a.cells ∧ a.Wfa := by
  unfold TyOk at h
  rw [Try.underlying50, cells50] at h
  simp only at h
  obtain ⟨h0, h⟩ := h
  match avs, h0 with
  | [x0, x1, x2, x3, x4], _ =>
  simp [cells3, cells4, cells40] at h
  obtain ⟨g0, g1, g2, g3, g4⟩ := h
  obtain ⟨i0, e0⟩ := ty4 g0
  obtain ⟨i1, e1, w1⟩ := ty3 g1
  obtain ⟨i2, e2, w2⟩ := ty3 g2
  obtain ⟨z3, l3, e3, v3, f3⟩ := ty40 g3
  obtain ⟨z4, l4, e4, v4, f4⟩ := ty40 g4
  cases e0; cases e1; cases e2; cases e3; cases e4
  exact ⟨⟨i0, i1, i2, z3, l3, z4, l4⟩, rfl, ⟨v3, v4, f3, f4⟩⟩
theorem arg25 {n : Nat} {x : AV} (h : TyArg Try.prog (n + 5) 25 x) : ∃ b : Bnk, x = b.av ∧ b.Wfb := by
  unfold TyArg at h
  rw [Try.underlying25] at h
  obtain ⟨avs, rfl, h⟩ := h
  unfold TyOk at h
  rw [Try.underlying25, cells25] at h
  simp only at h
  obtain ⟨h0, h⟩ := h
  match avs, h0 with
  | [x0, x1, x2, x3, x4], _ =>
  simp [cells3, cells22, cells23] at h
  obtain ⟨g0, g1, g2, g3, g4⟩ := h
  obtain ⟨i1, e1, w1⟩ := ty3 g1
  obtain ⟨i2, e2, w2⟩ := ty3 g2
  obtain ⟨i3, e3, w3⟩ := ty3 g3
  unfold TyOk at g0
  rw [Try.underlying22] at g0
  obtain ⟨z0, es0, a1, a2, a3, a4⟩ := g0
  obtain ⟨la, rfl, hwa⟩ := rows_of (cells := Acc.cells) (W := Acc.Wfa) (fun r (hr : _ ∧ _) => ty50 hr.2) es0 a4
  unfold TyOk at g4
  rw [Try.underlying23] at g4
  obtain ⟨z4, es4, b1, b2, b3, b4⟩ := g4
  obtain ⟨lb, rfl, hwb⟩ := rows_of (cells := Ent.cells) (W := fun _ => True) (fun r (hr : _ ∧ _) => (ty60 hr.2).imp fun _ h => ⟨h, trivial⟩) es4 b4
  cases a1; cases e1; cases e2; cases e3; cases b1
  exact ⟨⟨z0, la, i1, i2, i3, z4, lb⟩, rfl, ⟨hwa, by unfold maxLen at a3; simpa using a3, by unfold maxLen at b3; simpa using b3, fun hz => by simpa using a2 hz, fun hz => by simpa using b2 hz⟩⟩
end Go.Proofs.Ytdckleaemkcapaa.AM
