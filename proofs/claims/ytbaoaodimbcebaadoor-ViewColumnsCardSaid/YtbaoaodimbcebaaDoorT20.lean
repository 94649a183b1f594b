/- Columns, in plain lists: how wide each one is, what a row becomes, and the whole text. -/
import Derived.Test.YtbaoaodimbcebaaDoorT4
set_option linter.unusedVariables false
namespace Go.Proofs.YtbaoaodimbcebaaDoor.AM
open Go
/-- How wide columns are, once a row more is looked at. -/
def widR : List Nat → List Nat → List Nat
  | [], ls => ls
  | a :: qs, [] => a :: qs
  | a :: qs, l :: ls => max a l :: widR qs ls
theorem widR_nil (wd : List Nat) : widR wd [] = wd := by cases wd <;> rfl
theorem widR_step : ∀ (wd ls : List Nat) (k : Nat) (x : Nat), ls[k]? = some x → widR wd (ls.take (k + 1)) = if k = (widR wd (ls.take k)).length then widR wd (ls.take k) ++ [x] else (widR wd (ls.take k)).set k (max ((widR wd (ls.take k)).getD k 0) x)
  | [], ls, k, x, h => by
    have hk : k < ls.length := (List.getElem?_eq_some_iff.1 h).1
    have : (widR [] (ls.take k)).length = k := by simp [widR]; omega
    rw [if_pos this.symm]
    simp only [widR]
    rw [List.take_add_one, h]
    rfl
  | a :: qs, [], k, x, h => by simp at h
  | a :: qs, l :: ls, 0, x, h => by
    simp at h
    subst h
    simp [widR, widR_nil]
  | a :: qs, l :: ls, k + 1, x, h => by
    have ih := widR_step qs ls k x (by simpa using h)
    simp only [List.take_succ_cons, widR, List.length_cons, Nat.add_right_cancel_iff, List.set_cons_succ, List.getD_cons_succ]
    rw [ih]
    split <;> simp
theorem widR_mono : ∀ (wd ls : List Nat) (k x : Nat), wd[k]? = some x → ∃ y, (widR wd ls)[k]? = some y ∧ x ≤ y
  | [], ls, k, x, h => by simp at h
  | a :: qs, [], k, x, h => ⟨x, h, Nat.le_refl _⟩
  | a :: qs, l :: ls, 0, x, h => by
    simp at h
    subst h
    exact ⟨max a l, rfl, Nat.le_max_left _ _⟩
  | a :: qs, l :: ls, k + 1, x, h => by
    obtain ⟨y, h1, h2⟩ := widR_mono qs ls k x (by simpa using h)
    exact ⟨y, by simpa [widR] using h1, h2⟩
theorem widR_cov : ∀ (wd ls : List Nat) (k x : Nat), ls[k]? = some x → ∃ y, (widR wd ls)[k]? = some y ∧ x ≤ y
  | [], ls, k, x, h => ⟨x, h, Nat.le_refl _⟩
  | a :: qs, [], k, x, h => by simp at h
  | a :: qs, l :: ls, 0, x, h => by
    simp at h
    subst h
    exact ⟨max a l, rfl, Nat.le_max_right _ _⟩
  | a :: qs, l :: ls, k + 1, x, h => by
    obtain ⟨y, h1, h2⟩ := widR_cov qs ls k x (by simpa using h)
    exact ⟨y, by simpa [widR] using h1, h2⟩
theorem widR_le (w : Nat) : ∀ (wd ls : List Nat), (∀ x ∈ wd, x ≤ w) → (∀ x ∈ ls, x ≤ w) → ∀ x ∈ widR wd ls, x ≤ w
  | [], ls, h1, h2 => h2
  | a :: qs, [], h1, h2 => h1
  | a :: qs, l :: ls, h1, h2 => by
    intro x hx
    simp only [widR, List.mem_cons] at hx
    rcases hx with rfl | hx
    · have := h1 a (by simp)
      have := h2 l (by simp)
      omega
    · exact widR_le w qs ls (fun y hy => h1 y (by simp [hy])) (fun y hy => h2 y (by simp [hy])) x hx
theorem widR_len : ∀ (wd ls : List Nat), (widR wd ls).length = max wd.length ls.length
  | [], ls => by simp [widR]
  | a :: qs, [] => by simp [widR]
  | a :: qs, l :: ls => by simp [widR, widR_len qs ls]
abbrev cutR (w : Nat) (row : List Str) : List Str := row.map fun s => s.take w
abbrev lens (row : List Str) : List Nat := row.map List.length
def wid (rs : List (List Str)) : List Nat := rs.foldl (fun wd row => widR wd (lens row)) []
theorem fold_mono : ∀ (rs : List (List Str)) (wd : List Nat) (k x : Nat), wd[k]? = some x → ∃ y, (rs.foldl (fun wd row => widR wd (lens row)) wd)[k]? = some y ∧ x ≤ y
  | [], wd, k, x, h => ⟨x, h, Nat.le_refl _⟩
  | r :: rs, wd, k, x, h => by
    obtain ⟨y, h1, h2⟩ := widR_mono wd (lens r) k x h
    obtain ⟨z, h3, h4⟩ := fold_mono rs _ k y h1
    exact ⟨z, h3, Nat.le_trans h2 h4⟩
theorem wid_cov {rs : List (List Str)} {row : List Str} (hr : row ∈ rs) {k : Nat} {s : Str} (hs : row[k]? = some s) : ∃ y, (wid rs)[k]? = some y ∧ s.length ≤ y := by
  have : ∀ (rs : List (List Str)) (wd : List Nat), row ∈ rs → ∃ y, (rs.foldl (fun wd row => widR wd (lens row)) wd)[k]? = some y ∧ s.length ≤ y := by
    intro rs
    induction rs with
    | nil => intro wd h; cases h
    | cons r rs ih =>
      intro wd h
      rcases List.mem_cons.1 h with rfl | h
      · obtain ⟨y, h1, h2⟩ := widR_cov wd (lens row) k s.length (by simp [lens, hs])
        obtain ⟨z, h3, h4⟩ := fold_mono rs _ k y h1
        exact ⟨z, h3, Nat.le_trans h2 h4⟩
      · exact ih _ h
  exact this rs [] hr
theorem wid_le {w : Nat} {rs : List (List Str)} (h : ∀ row ∈ rs, ∀ s ∈ row, s.length ≤ w) : ∀ x ∈ wid rs, x ≤ w := by
  have : ∀ (rs : List (List Str)) (wd : List Nat), (∀ row ∈ rs, ∀ s ∈ row, s.length ≤ w) → (∀ x ∈ wd, x ≤ w) → ∀ x ∈ rs.foldl (fun wd row => widR wd (lens row)) wd, x ≤ w := by
    intro rs
    induction rs with
    | nil => intro wd _ h; exact h
    | cons r rs ih =>
      intro wd h1 h2
      refine ih _ (fun row hr => h1 row (by simp [hr])) (widR_le w wd _ h2 ?_)
      intro x hx
      obtain ⟨s, hs, rfl⟩ := List.mem_map.1 hx
      exact h1 r (by simp) s hs
  exact this rs [] h (by simp)
theorem wid_len {n : Nat} {rs : List (List Str)} (h : ∀ row ∈ rs, row.length ≤ n) : (wid rs).length ≤ n := by
  have : ∀ (rs : List (List Str)) (wd : List Nat), (∀ row ∈ rs, row.length ≤ n) → wd.length ≤ n → (rs.foldl (fun wd row => widR wd (lens row)) wd).length ≤ n := by
    intro rs
    induction rs with
    | nil => intro wd _ h; exact h
    | cons r rs ih =>
      intro wd h1 h2
      refine ih _ (fun row hr => h1 row (by simp [hr])) ?_
      rw [widR_len]
      have := h1 r (by simp)
      simp
      omega
  exact this rs [] h (by simp)
/-- A text, filled with blanks. -/
def fillS (x : Nat) (s : Str) : Str := s ++ List.replicate (x - s.length) 32
/-- The first so many texts of a row. -/
def lineK (wd : List Nat) (row : List Str) : Nat → Str
  | 0 => []
  | k + 1 => lineK wd row k ++ (if 0 < k then [32] else []) ++ fillS (wd.getD k 0) (row.getD k [])
theorem lineK_len {wd : List Nat} {row : List Str} (h1 : ∀ x ∈ wd, x ≤ 400) (h2 : ∀ s ∈ row, s.length ≤ 400) : ∀ k, (lineK wd row k).length ≤ k * 401
  | 0 => by simp [lineK]
  | k + 1 => by
    have ih := lineK_len h1 h2 k
    have a : wd.getD k 0 ≤ 400 := by
      rw [List.getD_eq_getElem?_getD]
      cases h : wd[k]? with
      | none => simp
      | some x => exact h1 x (List.mem_of_getElem? h)
    have b : (row.getD k []).length ≤ 400 := by
      rw [List.getD_eq_getElem?_getD]
      cases h : row[k]? with
      | none => simp
      | some x => exact h2 x (List.mem_of_getElem? h)
    simp only [lineK, fillS, List.length_append, List.length_replicate]
    have c : (if 0 < k then [(32 : UInt8)] else []).length ≤ 1 := by split <;> simp
    omega
/-- Without the blanks at the end. -/
def trimR (y : Str) : Str := (y.reverse.dropWhile (· == 32)).reverse
theorem trimR_nil : trimR [] = [] := rfl
theorem trimR_blank (y : Str) : trimR (y ++ [32]) = trimR y := by simp [trimR]
theorem trimR_other (y : Str) {x : UInt8} (h : x ≠ 32) : trimR (y ++ [x]) = y ++ [x] := by simp [trimR, h]
theorem trimR_len (y : Str) : (trimR y).length ≤ y.length := by
  unfold trimR
  rw [List.length_reverse]
  refine Nat.le_trans (List.dropWhile_suffix _).length_le ?_
  simp
/-- A row, written. -/
def rowP (wd : List Nat) (row : List Str) : Str := trimR (lineK wd row row.length) ++ [10]
/-- What all rows, cut already, are written qs. -/
def colsP (rs : List (List Str)) : Str := rs.flatMap (rowP (wid rs))
theorem flat_step {α : Type} (f : α → Str) (l : List α) (j : Nat) {x : α} (h : l[j]? = some x) : (l.take (j + 1)).flatMap f = (l.take j).flatMap f ++ f x := by
  rw [List.take_add_one, h, List.flatMap_append]
  simp
theorem fold_step {α β : Type} (f : β → α → β) (z : β) (l : List α) (j : Nat) {x : α} (h : l[j]? = some x) : (l.take (j + 1)).foldl f z = f ((l.take j).foldl f z) x := by
  rw [List.take_add_one, h, List.foldl_append]
  rfl
theorem rows_len {wd : List Nat} {rs : List (List Str)} (h1 : ∀ x ∈ wd, x ≤ 400) (h2 : ∀ row ∈ rs, row.length ≤ 1000 ∧ ∀ s ∈ row, s.length ≤ 400) : (rs.flatMap (rowP wd)).length ≤ rs.length * 401001 := by
  induction rs with
  | nil => simp
  | cons r rs ih =>
    have a := ih fun row hr => h2 row (by simp [hr])
    obtain ⟨b, c⟩ := h2 r (by simp)
    have d := lineK_len h1 c r.length
    have e := trimR_len (lineK wd r r.length)
    simp only [List.flatMap_cons, List.length_append, List.length_cons, rowP, List.length_nil]
    have : r.length * 401 ≤ 401000 := by omega
    omega
end Go.Proofs.YtbaoaodimbcebaaDoor.AM
