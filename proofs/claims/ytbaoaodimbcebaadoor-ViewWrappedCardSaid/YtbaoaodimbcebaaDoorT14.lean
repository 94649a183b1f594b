/- The lines of a text, as plain lists: what the second law says of them. -/
import Derived.Test.YtbaoaodimbcebaaDoorT11
import Derived.Test.YtbaoaodimbcebaaDoorT10
set_option linter.unusedVariables false
namespace Go.Proofs.YtbaoaodimbcebaaDoor.AM
open Go
/-- A word: not empty, no blank in it, not too long, plain. -/
structure Wd (w : Nat) (x : Str) : Prop where
  ne : x ≠ []
  le : x.length ≤ w
  nb : ∀ b ∈ x, b ≠ 32
  pl : ∀ b ∈ x, oddb b = false
theorem spl_mem (l : Str) : ∀ p ∈ spl l, ∀ b ∈ p, b ∈ l ∧ b ≠ 32 := by
  induction l with
  | nil =>
    intro p hp b hb
    simp [spl] at hp
    subst hp
    cases hb
  | cons c r ih =>
    intro p hp b hb
    by_cases hc : c = 32
    · simp only [spl, if_pos hc, List.mem_cons] at hp
      rcases hp with rfl | hp
      · cases hb
      · obtain ⟨a, e⟩ := ih p hp b hb
        exact ⟨by simp [a], e⟩
    · have h2 := spl_head r
      simp only [spl, if_neg hc] at hp
      rw [h2] at hp
      simp only [List.mem_cons] at hp
      rcases hp with rfl | hp
      · rcases List.mem_cons.1 hb with rfl | hb
        · exact ⟨by simp, hc⟩
        · obtain ⟨a, e⟩ := ih (r.take (stp r)) (by rw [h2]; simp) b hb
          exact ⟨by simp [a], e⟩
      · obtain ⟨a, e⟩ := ih p (by rw [h2]; simp [hp]) b hb
        exact ⟨by simp [a], e⟩
theorem chunk_flat {w : Nat} (hw : 0 < w) (l : Str) : (chunk w l).flatten = l := by
  induction hn : l.length using Nat.strongRecOn generalizing l with
  | _ n ih =>
    by_cases h : w < l.length
    · rw [chunk_go hw h, List.flatten_cons, ih (l.drop w).length (by rw [List.length_drop]; omega) (l.drop w) rfl]
      simp
    · rw [chunk_end h]
      split
      · rename_i h0; rw [h0]; rfl
      · simp
theorem chunk_mem {w : Nat} (hw : 0 < w) (l : Str) : ∀ p ∈ chunk w l, ∀ b ∈ p, b ∈ l := by
  intro p hp b hb
  rw [← chunk_flat hw l]
  exact List.mem_flatten.2 ⟨p, hp, hb⟩
theorem wds_wd {w : Nat} (hw : 0 < w) {l : Str} (hl : l.any oddb = false) : ∀ x ∈ wds w l, Wd w x := by
  intro x hx
  obtain ⟨_, a, b⟩ := wds_le hw l x hx
  obtain ⟨y, hy, hx⟩ := List.mem_flatMap.1 hx
  refine ⟨b, a, fun c hc => ?_, fun c hc => ?_⟩
  · exact (spl_mem l y hy c (chunk_mem hw y x hx c hc)).2
  · have := (spl_mem l y hy c (chunk_mem hw y x hx c hc)).1
    have h2 := List.any_eq_false.1 hl c this
    simpa using h2
/-- Words, with a blank between each two. -/
def joinW : List Str → Str
  | [] => []
  | [x] => x
  | x :: y :: r => x ++ 32 :: joinW (y :: r)
theorem joinW_end (y : Str) : ∀ xs : List Str, xs ≠ [] → joinW (xs ++ [y]) = joinW xs ++ 32 :: y
  | [], h => absurd rfl h
  | [x], _ => rfl
  | x :: z :: r, _ => by
    have := joinW_end y (z :: r) (by simp)
    simp only [List.cons_append] at this ⊢
    simp only [joinW, this, List.append_assoc, List.cons_append]
theorem spl_app {x : Str} (hx : ∀ b ∈ x, b ≠ 32) (r : Str) : spl (x ++ 32 :: r) = x :: spl r := by
  induction x with
  | nil => simp [spl]
  | cons c x ih =>
    have hc : c ≠ 32 := hx c (by simp)
    have := ih (fun b hb => hx b (by simp [hb]))
    simp only [List.cons_append, spl, if_neg hc, this]
theorem spl_one {x : Str} (hx : ∀ b ∈ x, b ≠ 32) : spl x = [x] := by
  induction x with
  | nil => rfl
  | cons c x ih =>
    have hc : c ≠ 32 := hx c (by simp)
    have := ih (fun b hb => hx b (by simp [hb]))
    simp only [spl, if_neg hc, this]
theorem spl_join : ∀ xs : List Str, xs ≠ [] → (∀ x ∈ xs, ∀ b ∈ x, b ≠ 32) → spl (joinW xs) = xs
  | [], h, _ => absurd rfl h
  | [x], _, hx => spl_one (hx x (by simp))
  | x :: y :: r, _, hx => by
    simp only [joinW]
    rw [spl_app (hx x (by simp)), spl_join (y :: r) (by simp) (fun z hz => hx z (by simp only [List.mem_cons] at hz ⊢; exact .inr hz))]
theorem chunk_wd {w : Nat} {x : Str} (h : Wd w x) : chunk w x = [x] := by
  rw [chunk_end (by have := h.le; omega), if_neg h.ne]
theorem wds_join {w : Nat} {xs : List Str} (hne : xs ≠ []) (h : ∀ x ∈ xs, Wd w x) : wds w (joinW xs) = xs := by
  unfold wds
  rw [spl_join xs hne (fun x hx => (h x hx).nb)]
  clear hne
  induction xs with
  | nil => rfl
  | cons x xs ih =>
    rw [List.flatMap_cons, chunk_wd (h x (by simp)), ih (fun y hy => h y (by simp [hy]))]
    rfl
theorem fold_join {w : Nat} : ∀ (n : Nat) (xs : List Str), xs.length = n → xs ≠ [] → (joinW xs).length ≤ w → xs.foldl (jn w) [] = [joinW xs]
  | 0, xs, hn, hne, _ => absurd (List.eq_nil_of_length_eq_zero hn) hne
  | n + 1, xs, hn, hne, hl => by
    obtain ⟨ys, y, rfl⟩ : ∃ ys y, xs = ys ++ [y] := ⟨xs.dropLast, xs.getLast hne, (List.dropLast_concat_getLast hne).symm⟩
    by_cases h0 : ys = []
    · subst h0; rfl
    · rw [joinW_end y ys h0] at hl ⊢
      rw [List.length_append, List.length_cons] at hl
      rw [List.foldl_append, fold_join n ys (by simpa using hn) h0 (by omega)]
      simp only [List.foldl_cons, List.foldl_nil]
      unfold jn
      simp only [List.getLast?_singleton]
      rw [if_pos (by omega)]
      rfl
/-- A line. -/
def Ln (w : Nat) (z : Str) : Prop := z.length ≤ w ∧ ∃ xs, xs ≠ [] ∧ (∀ x ∈ xs, Wd w x) ∧ z = joinW xs
theorem jn_ln {w : Nat} {ls : List Str} {x : Str} (h : ∀ z ∈ ls, Ln w z) (hx : Wd w x) : ∀ z ∈ jn w ls x, Ln w z := by
  intro z hz
  have own : Ln w x := ⟨hx.le, [x], by simp, fun y hy => by simp at hy; subst hy; exact hx, rfl⟩
  unfold jn at hz
  cases hg : ls.getLast? with
  | none => rw [hg] at hz; simp at hz; rcases hz with hz | rfl; exact h z hz; exact own
  | some y =>
    rw [hg] at hz
    simp only at hz
    split at hz
    · rename_i hle
      rcases List.mem_append.1 hz with hz | hz
      · exact h z (List.dropLast_subset _ hz)
      · simp at hz
        subst hz
        obtain ⟨_, xs, hne, hxs, hj⟩ := h y (List.mem_of_getLast? hg)
        refine ⟨by simp; omega, xs ++ [x], by simp, fun v hv => ?_, by rw [joinW_end x xs hne, hj]⟩
        rcases List.mem_append.1 hv with hv | hv
        · exact hxs v hv
        · simp at hv; subst hv; exact hx
    · rcases List.mem_append.1 hz with hz | hz
      · exact h z hz
      · simp at hz; subst hz; exact own
theorem fold_ln {w : Nat} (xs : List Str) : ∀ (ls : List Str), (∀ z ∈ ls, Ln w z) → (∀ x ∈ xs, Wd w x) → ∀ z ∈ xs.foldl (jn w) ls, Ln w z := by
  induction xs with
  | nil => exact fun ls h _ => h
  | cons x xs ih => exact fun ls h hx => ih _ (jn_ln h (hx x (by simp))) (fun y hy => hx y (by simp [hy]))
theorem wrapP_ln {w : Nat} (hw : 0 < w) {l : Str} (hl : l.any oddb = false) : ∀ z ∈ wrapP w l, Ln w z :=
  fold_ln _ [] (fun z hz => by cases hz) (wds_wd hw hl)
theorem join_ne : ∀ xs : List Str, xs ≠ [] → (∀ x ∈ xs, x ≠ []) → joinW xs ≠ []
  | [], h, _ => absurd rfl h
  | [x], _, hx => hx x (by simp)
  | x :: y :: r, _, _ => by simp [joinW]
theorem join_pl {f : UInt8 → Bool} (h32 : f 32 = false) : ∀ xs : List Str, (∀ x ∈ xs, ∀ b ∈ x, f b = false) → ∀ b ∈ joinW xs, f b = false
  | [], _, b, hb => by cases hb
  | [x], hx, b, hb => hx x (by simp) b hb
  | x :: y :: r, hx, b, hb => by
    simp only [joinW, List.mem_append, List.mem_cons] at hb
    rcases hb with hb | rfl | hb
    · exact hx x (by simp) b hb
    · exact h32
    · exact join_pl h32 (y :: r) (fun z hz => hx z (by simp only [List.mem_cons] at hz ⊢; exact .inr hz)) b hb
/-- A line is wrapped to itself. -/
theorem wrap_ln {w : Nat} {z : Str} (h : Ln w z) : wrapP w z = [z] ∧ z ≠ [] ∧ z.any oddb = false := by
  obtain ⟨hle, xs, hne, hxs, rfl⟩ := h
  refine ⟨?_, join_ne xs hne fun x hx => (hxs x hx).ne, ?_⟩
  · unfold wrapP
    rw [wds_join hne hxs]
    exact fold_join _ xs rfl hne hle
  · rw [List.any_eq_false]
    intro b hb
    rw [join_pl (f := oddb) (by decide) xs (fun x hx => (hxs x hx).pl) b hb]
    simp
/-- A text without its blanks. -/
def bareP (l : Str) : Str := l.filter (· != 32)
theorem bare_app (a b : Str) : bareP (a ++ b) = bareP a ++ bareP b := List.filter_append ..
theorem jn_bare (w : Nat) (ls : List Str) (x : Str) : bareP (jn w ls x).flatten = bareP ls.flatten ++ bareP x := by
  unfold jn
  cases hg : ls.getLast? with
  | none => simp [bareP]
  | some y =>
    simp only
    split
    · have e : ls = ls.dropLast ++ [y] := by
        have hne : ls ≠ [] := by rintro rfl; cases hg
        rw [List.getLast?_eq_some_getLast hne] at hg
        have := List.dropLast_concat_getLast hne
        rw [Option.some.inj hg] at this
        exact this.symm
      conv => rhs; rw [e]
      simp [bareP]
    · simp [bareP]
theorem fold_bare (w : Nat) (xs : List Str) : ∀ ls : List Str, bareP (xs.foldl (jn w) ls).flatten = bareP ls.flatten ++ bareP xs.flatten := by
  induction xs with
  | nil => intro ls; simp [bareP]
  | cons x xs ih =>
    intro ls
    rw [List.foldl_cons, ih, jn_bare, List.flatten_cons, bare_app, List.append_assoc]
theorem spl_bare (l : Str) : bareP (spl l).flatten = bareP l := by
  induction l with
  | nil => rfl
  | cons c r ih =>
    by_cases hc : c = 32
    · subst hc
      simp only [spl, if_pos, List.flatten_cons, List.nil_append]
      rw [ih]
      rfl
    · have h2 := spl_head r
      simp only [spl, if_neg hc]
      rw [h2] at ih ⊢
      simp only [List.flatten_cons, List.cons_append] at ih ⊢
      have e : ∀ a : Str, bareP (c :: a) = c :: bareP a := fun a => by simp [bareP, hc]
      rw [e, e, ih]
theorem wrap_bare {w : Nat} (hw : 0 < w) (l : Str) : bareP (wrapP w l).flatten = bareP l := by
  unfold wrapP
  rw [fold_bare]
  have e : (wds w l).flatten = (spl l).flatten := by
    unfold wds
    generalize spl l = ps
    induction ps with
    | nil => rfl
    | cons p ps ih => rw [List.flatMap_cons, List.flatten_append, List.flatten_cons, chunk_flat hw, ih]
  rw [e, spl_bare]
  rfl
theorem jn_flat (w : Nat) (ls : List Str) (x : Str) : (jn w ls x).flatten.length ≤ ls.flatten.length + x.length + 1 := by
  unfold jn
  cases hg : ls.getLast? with
  | none => simp
  | some y =>
    simp only
    split
    · have e : ls = ls.dropLast ++ [y] := by
        have hne : ls ≠ [] := by rintro rfl; cases hg
        rw [List.getLast?_eq_some_getLast hne] at hg
        have := List.dropLast_concat_getLast hne
        rw [Option.some.inj hg] at this
        exact this.symm
      have h2 : ls.flatten.length = ls.dropLast.flatten.length + y.length := by
        conv => lhs; rw [e]
        rw [List.flatten_append, List.length_append, List.flatten_cons, List.flatten_nil, List.append_nil]
      rw [h2, List.flatten_append, List.length_append, List.flatten_cons, List.flatten_nil, List.append_nil, List.length_append, List.length_cons]
      omega
    · rw [List.flatten_append, List.length_append, List.flatten_cons, List.flatten_nil, List.append_nil]
      omega
theorem fold_flat (w : Nat) (xs : List Str) : ∀ ls : List Str, (xs.foldl (jn w) ls).flatten.length ≤ ls.flatten.length + xs.flatten.length + xs.length := by
  induction xs with
  | nil => intro ls; simp
  | cons x xs ih =>
    intro ls
    have h1 := ih (jn w ls x)
    have h2 := jn_flat w ls x
    simp only [List.foldl_cons, List.flatten_cons, List.length_append, List.length_cons]
    omega
theorem spl_flat (l : Str) : (spl l).flatten.length ≤ l.length := by
  induction l with
  | nil => simp [spl]
  | cons c r ih =>
    by_cases hc : c = 32
    · simp only [spl, if_pos hc, List.flatten_cons, List.nil_append, List.length_cons]
      omega
    · have h2 := spl_head r
      simp only [spl, if_neg hc]
      rw [h2] at ih ⊢
      simp only [List.flatten_cons, List.length_append, List.cons_append, List.length_cons] at ih ⊢
      omega
theorem wds_flat {w : Nat} (hw : 0 < w) (l : Str) : (wds w l).flatten = (spl l).flatten := by
  unfold wds
  generalize spl l = ps
  induction ps with
  | nil => rfl
  | cons p ps ih => rw [List.flatMap_cons, List.flatten_append, List.flatten_cons, chunk_flat hw, ih]
theorem wrap_flat {w : Nat} (hw : 0 < w) (l : Str) : (wrapP w l).flatten.length ≤ 2 * l.length := by
  have h1 := fold_flat w (wds w l) []
  have h2 := wds_len hw l
  have h3 := spl_flat l
  rw [wds_flat hw] at h1
  unfold wrapP
  simp only [List.flatten_nil, List.length_nil] at h1
  omega
end Go.Proofs.YtbaoaodimbcebaaDoor.AM
