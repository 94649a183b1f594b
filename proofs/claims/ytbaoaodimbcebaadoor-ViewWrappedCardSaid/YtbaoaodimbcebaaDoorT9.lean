/- Texts of the proof: part T9. -/
import Derived.Test.YtbaoaodimbcebaaDoorT8
set_option maxHeartbeats 0
set_option maxRecDepth 8000
set_option linter.unusedSimpArgs false
set_option linter.unusedVariables false
set_option linter.unusedSectionVars false
namespace Go.Proofs.YtbaoaodimbcebaaDoor.AM
open Go Go.Proofs
attribute [local simp] fieldAddrA ld setCells stA skipV appendA hd makeA bnd kindA freshA killOk loadsAt newT empT lay_get allocA buildA buildRow lenA els indexAddrA isNil opA evA lit_int lit_bool lit_nil lit_nilf yldA binI unA pickA boolV intV fieldA mk eqs
/-- A list of strings of the call's own. -/
def OutL (h : Heap) (c : Nat) (v : AV) (ls : List Str) : Prop := (v = .ro true [] ∧ ls = []) ∨ ∃ n, v = .sl n 1 0 ls.length ∧ n < c ∧ h n = some ⟨1, strs ls⟩
theorem OutAt.toL {h : Heap} {c : Nat} {v : AV} {ls : List Str} (O : OutAt h c v ls) : OutL h c v ls := by
  rcases O with ⟨a, b⟩ | ⟨n, a, b, c1, d⟩
  · exact .inl ⟨a, b⟩
  · exact .inr ⟨n, a, c1, d⟩
theorem mapM_S (h : Heap) (n : Nat) : ∀ ls : List Str, (strs ls).mapM (fun (e : List AV) => e.mapM (frz h (n + 1))) = some (strs ls)
  | [] => rfl
  | x :: ls => by
    have := mapM_S h n ls
    simp only [strs] at this
    simp [List.mapM_cons, this, frz_S]
theorem frz_outL {h : Heap} {c : Nat} {v : AV} {ls : List Str} (O : OutL h c v ls) : ∃ b, frz h depth v = some (.ro b (strs ls)) := by
  rcases O with ⟨rfl, rfl⟩ | ⟨n, rfl, c1, d⟩
  · exact ⟨true, rfl⟩
  · refine ⟨false, ?_⟩
    have e : els h (.sl n 1 0 ls.length) = some (strs ls) := by
      simp [els, d, List.take_of_length_le]
    show (els h (.sl n 1 0 ls.length)).bind _ = _
    rw [e, Option.bind_some, mapM_S]
    rfl
theorem words_c {w : Nat} (hw : 0 < w) (l : Str) (hl : l.length ≤ 100000) (h : Heap) (c : Nat) : ∃ b, callA (mdT tblT) (run Tryd.prog (mdT tblT)) 19 [S l, I w] h c = some (.ro b (strs (wds w l)), h, c) := by
  obtain ⟨h', c', v, e, O⟩ := words_ev hw l hl
  obtain ⟨b, hb⟩ := frz_outL O.toL
  refine ⟨b, ?_⟩
  rw [call_pure _ _ _ _ _ _ rfl]
  have ha : [S l, I w].mapM (frz h depth) = some [S l, I w] := rfl
  rw [ha, Option.bind_some, e, Option.bind_some]
  simp only
  rw [hb, Option.bind_some]
  rfl
theorem outL_append {h : Heap} {c : Nat} {v : AV} {ls : List Str} (O : OutL h c v ls) (hl : ls.length ≤ 1000000) (x : Str) :
    ∃ v' h', appendA Tryd.prog 23 (h.put c (some ⟨1, [[S x]]⟩)) (c + 1) v (.sl c 1 0 1) = some (v', h', c + 2) ∧ OutL h' (c + 2) v' (ls ++ [x]) := by
  rcases O with ⟨rfl, rfl⟩ | ⟨n, rfl, h2, h3⟩
  · exact ⟨.sl (c + 1) 1 0 1, (h.put c (some ⟨1, [[S x]]⟩)).put (c + 1) (some ⟨1, [[S x]]⟩), by simp [room], .inr ⟨c + 1, rfl, by omega, by simp⟩⟩
  · refine ⟨.sl (c + 1) 1 0 (ls.length + 1), ((h.put c (some ⟨1, [[S x]]⟩)).put n none).put (c + 1) (some ⟨1, strs ls ++ [[S x]]⟩), ?_, .inr ⟨c + 1, by simp, by omega, by simp⟩⟩
    have e1 : ¬ (n = c) := by omega
    have e2 : ls.length + 1 ≤ 140737488355328 := by omega
    have e3 : (ls.length + 1) * 16 ≤ 140737488355328 := by omega
    simp [room, e1, h3, e2, e3, List.take_of_length_le]
/-- A word is put behind the last line, or on a line of its own. -/
def jn (w : Nat) (ls : List Str) (x : Str) : List Str := match ls.getLast? with
  | some y => if y.length + 1 + x.length ≤ w then ls.dropLast ++ [y ++ 32 :: x] else ls ++ [x]
  | none => ls ++ [x]
theorem jn_nil (w : Nat) (x : Str) : jn w [] x = [x] := rfl
theorem jn_len (w : Nat) (ls : List Str) (x : Str) : (jn w ls x).length ≤ ls.length + 1 := by
  unfold jn
  cases h : ls.getLast? with
  | none => simp
  | some y =>
    simp only
    split
    · simp only [List.length_append, List.length_dropLast, List.length_singleton]; omega
    · simp
theorem fold_len (w : Nat) (xs : List Str) (ls : List Str) : (xs.foldl (jn w) ls).length ≤ ls.length + xs.length := by
  induction xs generalizing ls with
  | nil => simp
  | cons x xs ih =>
    have h1 := ih (jn w ls x)
    have h2 := jn_len w ls x
    simp only [List.foldl_cons, List.length_cons]
    omega
def wrapP (w : Nat) (l : Str) : List Str := (wds w l).foldl (jn w) []
theorem set_last {ls : List Str} {m : Nat} (hm : ls.length = m + 1) (z : Str) : ls.dropLast ++ [z] = ls.set m z := by
  rw [List.dropLast_eq_take, hm]
  apply List.ext_getElem?
  intro i
  rw [List.getElem?_set]
  by_cases e : i < m
  · rw [List.getElem?_append_left (by simp; omega), List.getElem?_take_of_lt (by omega), if_neg (by omega)]
  · by_cases e2 : m = i
    · subst e2
      rw [List.getElem?_append_right (by simp; omega), if_pos rfl, if_pos (by omega)]
      simp [hm]
    · rw [List.getElem?_append_right (by simp; omega), if_neg e2]
      rw [List.getElem?_eq_none (by simp; omega), List.getElem?_eq_none (by omega)]
theorem wds_len {w : Nat} (hw : 0 < w) (l : Str) : (wds w l).length ≤ l.length := by
  unfold wds
  have : ∀ n (l : Str), l.length = n → ((spl l).flatMap (chunk w)).length ≤ l.length := by
    intro n
    induction n using Nat.strongRecOn with
    | _ n ih =>
      intro l hn
      by_cases g : idx l < 0
      · rw [spl_no l g]
        simpa using chunk_len hw l
      · have hlt := idx_lt l
        rw [spl_at l (by omega)]
        have h1 := ih (l.drop ((idx l).toNat + 1)).length (by simp; omega) (l.drop ((idx l).toNat + 1)) rfl
        have h2 := chunk_len hw (l.take (idx l).toNat)
        simp only [List.flatMap_cons, List.length_append]
        rw [List.length_take] at h2
        rw [List.length_drop] at h1
        omega
  exact this _ l rfl
theorem chunk_le {w : Nat} (hw : 0 < w) (l : Str) : ∀ x ∈ chunk w l, x.length ≤ l.length ∧ x.length ≤ w ∧ x ≠ [] := by
  induction hn : l.length using Nat.strongRecOn generalizing l with
  | _ n ih =>
    intro x hx
    by_cases h : w < l.length
    · rw [chunk_go hw h] at hx
      rcases List.mem_cons.1 hx with rfl | hx
      · refine ⟨by rw [List.length_take]; omega, by rw [List.length_take]; omega, fun e => ?_⟩
        have := congrArg List.length e
        rw [List.length_take] at this
        simp only [List.length_nil] at this
        omega
      · obtain ⟨a, b, c⟩ := ih (l.drop w).length (by simp; omega) (l.drop w) rfl x hx
        refine ⟨?_, b, c⟩
        rw [List.length_drop] at a
        omega
    · rw [chunk_end h] at hx
      split at hx
      · cases hx
      · rename_i hne
        simp at hx
        subst hx
        exact ⟨by omega, by omega, hne⟩
theorem spl_le (l : Str) : ∀ x ∈ spl l, x.length ≤ l.length := by
  induction hn : l.length using Nat.strongRecOn generalizing l with
  | _ n ih =>
    intro x hx
    by_cases g : idx l < 0
    · rw [spl_no l g] at hx
      simp at hx
      subst hx
      omega
    · have hlt := idx_lt l
      rw [spl_at l (by omega)] at hx
      rcases List.mem_cons.1 hx with rfl | hx
      · simp; omega
      · have := ih (l.drop ((idx l).toNat + 1)).length (by simp; omega) (l.drop ((idx l).toNat + 1)) rfl x hx
        rw [List.length_drop] at this
        omega
theorem wds_le {w : Nat} (hw : 0 < w) (l : Str) : ∀ x ∈ wds w l, x.length ≤ l.length ∧ x.length ≤ w ∧ x ≠ [] := by
  intro x hx
  obtain ⟨y, hy, hx⟩ := List.mem_flatMap.1 hx
  obtain ⟨a, b, c⟩ := chunk_le hw y x hx
  exact ⟨Nat.le_trans a (spl_le l y hy), b, c⟩
theorem jn_le {w : Nat} {ls : List Str} {x : Str} (h : ∀ z ∈ ls, z.length ≤ w) (hx : x.length ≤ w) : ∀ z ∈ jn w ls x, z.length ≤ w := by
  intro z hz
  unfold jn at hz
  cases hg : ls.getLast? with
  | none => rw [hg] at hz; simp at hz; rcases hz with hz | rfl; exact h z hz; exact hx
  | some y =>
    rw [hg] at hz
    simp only at hz
    split at hz
    · rename_i hle
      rcases List.mem_append.1 hz with hz | hz
      · exact h z (List.dropLast_subset _ hz)
      · simp at hz; subst hz; simp; omega
    · rcases List.mem_append.1 hz with hz | hz
      · exact h z hz
      · simp at hz; subst hz; exact hx
theorem fold_le {w : Nat} (xs : List Str) (ls : List Str) (h : ∀ z ∈ ls, z.length ≤ w) (hx : ∀ x ∈ xs, x.length ≤ w) : ∀ z ∈ xs.foldl (jn w) ls, z.length ≤ w := by
  induction xs generalizing ls with
  | nil => exact h
  | cons x xs ih => exact ih _ (jn_le h (hx x (by simp))) (fun y hy => hx y (by simp [hy]))
theorem jn_last {w : Nat} {ls : List Str} {x y : Str} {m : Nat} (hm : ls.length = m + 1) (hy : ls[m]? = some y) : jn w ls x = if y.length + 1 + x.length ≤ w then ls.set m (y ++ 32 :: x) else ls ++ [x] := by
  have : ls.getLast? = some y := by
    rw [List.getLast?_eq_getElem?, hm]
    simpa using hy
  unfold jn
  rw [this]
  simp only
  rw [set_last hm]
end Go.Proofs.YtbaoaodimbcebaaDoor.AM
