/- The reference's way through a text; plain lists. -/
import Derived.Test.YtbaoaodimbcebaaDoorT9
set_option linter.unusedVariables false
namespace Go.Proofs.YtbaoaodimbcebaaDoor.AM
open Go
theorem u_eq (x : UInt8) : ((x.toNat : Int) == 32) = (x == 32) := by
  rw [Bool.eq_iff_iff, beq_iff_eq, beq_iff_eq]
  constructor
  · intro h
    apply UInt8.toNat_inj.1
    show x.toNat = 32
    omega
  · rintro rfl; rfl
theorem u_ne (x : UInt8) : ((x.toNat : Int) != 32) = (x != 32) := by
  show (!((x.toNat : Int) == 32)) = !(x == 32)
  rw [u_eq]
/-- Where a text's first blank stands, or its end. -/
def stp : Str → Nat
  | [] => 0
  | c :: r => if c = 32 then 0 else stp r + 1
theorem stp_le : ∀ l : Str, stp l ≤ l.length
  | [] => Nat.le_refl _
  | c :: r => by
    have := stp_le r
    unfold stp
    split
    · omega
    · simp; omega
theorem stp_in : ∀ (l : Str) (k : Nat), k < stp l → ∃ x, l[k]? = some x ∧ x ≠ 32
  | [], k, h => by simp [stp] at h
  | c :: r, k, h => by
    unfold stp at h
    split at h
    · omega
    · rename_i hc
      cases k with
      | zero => exact ⟨c, rfl, hc⟩
      | succ k => simpa using stp_in r k (by omega)
theorem stp_at : ∀ (l : Str), stp l < l.length → l[stp l]? = some 32
  | [], h => by simp at h
  | c :: r, h => by
    simp only [stp] at h ⊢
    split
    · rename_i hc; rw [hc]; rfl
    · rename_i hc
      rw [if_neg hc] at h
      simpa using stp_at r (by simpa using h)
theorem spl_head : ∀ l : Str, spl l = l.take (stp l) :: (spl l).tail
  | [] => rfl
  | c :: r => by
    by_cases hc : c = 32
    · simp [spl, stp, hc]
    · have := spl_head r
      simp only [spl, if_neg hc, stp]
      rw [this]
      simp
theorem spl_tail {f : Str → List Str} (hf : f [] = []) : ∀ l : Str, (spl l).tail.flatMap f = (spl (l.drop (stp l))).flatMap f
  | [] => by simp [spl, hf]
  | c :: r => by
    by_cases hc : c = 32
    · simp [spl, stp, hc, hf]
    · have := spl_tail hf r
      have h2 := spl_head r
      simp only [stp, if_neg hc, List.drop_succ_cons]
      rw [← this]
      simp only [spl, if_neg hc]
      rw [h2]
      simp
theorem chunk_nil (w : Nat) : chunk w [] = [] := by rw [chunk_end (by simp)]; rfl
theorem wds_stp (w : Nat) (l : Str) : wds w l = chunk w (l.take (stp l)) ++ wds w (l.drop (stp l)) := by
  unfold wds
  conv => lhs; rw [spl_head l]
  rw [List.flatMap_cons, spl_tail (chunk_nil w)]
theorem wds_blank (w : Nat) (r : Str) : wds w (32 :: r) = wds w r := by
  simp [wds, spl, chunk_nil]
theorem wds_nil (w : Nat) : wds w [] = [] := by
  simp [wds, spl, chunk_nil]
/-- A line that is open. -/
def op (l : Str) : List Str := if l = [] then [] else [l]
theorem fold_chunk {w : Nat} (hw : 0 < w) (p : Str) : ∀ ls : List Str, (∀ y, ls.getLast? = some y → ¬ (y.length + 1 + p.length ≤ w)) → (chunk w p).foldl (jn w) ls = ls ++ chunk w p := by
  induction hn : p.length using Nat.strongRecOn generalizing p with
  | _ n ih =>
    intro ls h
    have ja : ∀ x : Str, (∀ y, ls.getLast? = some y → ¬ (y.length + 1 + x.length ≤ w)) → jn w ls x = ls ++ [x] := by
      intro x hx
      unfold jn
      cases hg : ls.getLast? with
      | none => rfl
      | some y => simp only; rw [if_neg (hx y hg)]
    by_cases g : w < p.length
    · have ht : (p.take w).length = w := by rw [List.length_take]; omega
      rw [chunk_go hw g, List.foldl_cons, ja _ (fun y hy => by omega), ih (p.drop w).length (by rw [List.length_drop]; omega) (p.drop w) rfl]
      · simp
      · intro y hy
        simp at hy
        subst hy
        simp at ht ⊢
        omega
    · rw [chunk_end g]
      split
      · simp
      · rw [List.foldl_cons, ja p (fun y hy => by have := h y hy; omega)]
        rfl
end Go.Proofs.YtbaoaodimbcebaaDoor.AM
