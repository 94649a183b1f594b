/- The pieces of a text: split at blanks, and cut to a width; plain lists. -/
import Derived.Test.YtbaoaodimbcebaaDoorT4
set_option linter.unusedVariables false
namespace Go.Proofs.YtbaoaodimbcebaaDoor.AM
open Go
/-- A text, split at each blank. -/
def spl : Str → List Str
  | [] => [[]]
  | c :: r => if c = 32 then [] :: spl r else match spl r with
    | [] => [[c]]
    | p :: ps => (c :: p) :: ps
theorem spl_ne : ∀ l, spl l ≠ []
  | [] => by simp [spl]
  | c :: r => by
    unfold spl
    split
    · simp
    · split <;> simp
theorem idx_cons (c : UInt8) (r : Str) : idx (c :: r) = if c = 32 then 0 else if idx r = -1 then -1 else idx r + 1 := by
  simp only [idx, Lib.indexByte, beq_iff_eq]
theorem idx_ge (l : Str) : -1 ≤ idx l := Lib.indexByte_ge l 32
theorem idx_lt : ∀ l : Str, idx l < l.length
  | [] => by show Lib.indexByte [] 32 < _; simp [Lib.indexByte]
  | c :: r => by
    have := idx_lt r
    rw [idx_cons]
    split
    · simp only [List.length_cons]; omega
    · split
      · simp only [List.length_cons]; omega
      · simp only [List.length_cons]; omega
theorem spl_no : ∀ l : Str, idx l < 0 → spl l = [l]
  | [], _ => rfl
  | c :: r, h => by
    rw [idx_cons] at h
    split at h
    · omega
    · rename_i hc
      have hr : idx r < 0 := by
        split at h
        · omega
        · omega
      simp only [spl, if_neg hc]
      rw [spl_no r hr]
theorem spl_at : ∀ l : Str, 0 ≤ idx l → spl l = l.take (idx l).toNat :: spl (l.drop ((idx l).toNat + 1))
  | [], h => by revert h; show 0 ≤ Lib.indexByte [] 32 → _; simp [Lib.indexByte]
  | c :: r, h => by
    have e := idx_cons c r
    have hge := idx_ge r
    by_cases hc : c = 32
    · rw [if_pos hc] at e
      rw [e]
      simp [spl, hc]
    · rw [if_neg hc] at e
      by_cases h2 : idx r = -1
      · rw [if_pos h2] at e; omega
      · rw [if_neg h2] at e
        have hr : 0 ≤ idx r := by omega
        rw [e, show (idx r + 1).toNat = (idx r).toNat + 1 by omega]
        simp only [spl, if_neg hc]
        rw [spl_at r hr]
        simp
/-- A piece, cut to a width. -/
def chunk (w : Nat) (l : Str) : List Str :=
  if h : 0 < w ∧ w < l.length then l.take w :: chunk w (l.drop w) else if l = [] then [] else [l]
termination_by l.length
decreasing_by simp; omega
theorem chunk_go {w : Nat} {l : Str} (h0 : 0 < w) (h : w < l.length) : chunk w l = l.take w :: chunk w (l.drop w) := by
  rw [chunk, dif_pos ⟨h0, h⟩]
theorem chunk_end {w : Nat} {l : Str} (h : ¬ w < l.length) : chunk w l = if l = [] then [] else [l] := by
  rw [chunk, dif_neg (fun h' => h h'.2)]
theorem chunk_len {w : Nat} (h0 : 0 < w) (l : Str) : (chunk w l).length ≤ l.length := by
  induction hn : l.length using Nat.strongRecOn generalizing l with
  | _ n ih =>
    by_cases h : w < l.length
    · rw [chunk_go h0 h]
      have := ih (l.drop w).length (by simp; omega) (l.drop w) rfl
      simp at this ⊢
      omega
    · rw [chunk_end h]
      split
      · simp
      · rename_i hne
        cases l with
        | nil => exact absurd rfl hne
        | cons c r => simp at hn ⊢; omega
/-- The words of a text. -/
def wds (w : Nat) (l : Str) : List Str := (spl l).flatMap (chunk w)
end Go.Proofs.YtbaoaodimbcebaaDoor.AM
