/- Parts of the proof: Z56, ZK, Z57, Z58, Z59, Z60, Z61, Z62, Z63. -/
import Derived.Test.YtmpcjfkfgjpebaaGreatDoorZM5
import Derived.Lib.AtoiTie
import Derived.Lib.ItoaNum
import Derived.Lib.Join
set_option maxHeartbeats 0
set_option maxRecDepth 8000
set_option linter.unusedSimpArgs false
set_option linter.unusedVariables false
set_option linter.unusedSectionVars false
namespace Go.Proofs.YtmpcjfkfgjpebaaGreatDoor.AM
open Go Go.Proofs
attribute [local simp] fieldAddrA ld setCells stA skipV appendA hd makeA bnd kindA freshA killOk loadsAt edgesOn Region.binds newT empT lay_get allocA buildA buildRow lenA els indexAddrA isNil opA evA lit_int lit_bool lit_nil lit_nilf yldA binI unA pickA boolV intV fieldA mk eqs nilC mayP
/-- Steps without an event. -/
inductive Path (code : List Ln) : Rn → Nat → Rn → Prop
  | nil (r : Rn) : Path code r 0 r
  | step {r r' : Rn} {s : Nat} {l : Ln} (p : Path code r s r') (hc : calm r') (hl : code[r'.at_]? = some l) (hk : (stepR l r').2.k = 0) (hc2 : calm (stepR l r').1) : Path code r (s + costP l) (stepR l r').1
/-- The step that tells an event. -/
def Fin (code : List Ln) (r r' : Rn) (e : Ev) (cost : Nat) : Prop := (code[r.at_]? = none ∧ r' = { r with z := true } ∧ e = ⟨4, 0, []⟩ ∧ cost = 0) ∨ ∃ l, code[r.at_]? = some l ∧ (stepR l r).2.k ≠ 0 ∧ r' = (stepR l r).1 ∧ e = (stepR l r).2 ∧ cost = costP l
theorem Fin.k {code : List Ln} {r r' : Rn} {e : Ev} {cost : Nat} (h : Fin code r r' e cost) : e.k ≠ 0 := by
  rcases h with ⟨_, _, rfl, _⟩ | ⟨l, _, h, _, rfl, _⟩
  · show (4 : Int) ≠ 0
    decide
  · exact h
theorem Path.calm {code : List Ln} {r r' : Rn} {s : Nat} (p : Path code r s r') (h : ¬ AM.calm r') : r' = r ∧ s = 0 := by
  cases p with
  | nil => exact ⟨rfl, rfl⟩
  | step p hc hl hk hc2 => exact absurd hc2 h
theorem Path.calm0 {code : List Ln} {r r' : Rn} {s : Nat} (p : Path code r s r') (h : AM.calm r') : AM.calm r := by
  induction p with
  | nil => exact h
  | step p hc hl hk hc2 ih => exact ih hc
theorem Path.trans {code : List Ln} {r r1 r2 : Rn} {s1 s2 : Nat} (p : Path code r s1 r1) (q : Path code r1 s2 r2) : Path code r (s1 + s2) r2 := by
  induction q with
  | nil => exact p
  | step q hc hl hk hc2 ih =>
    rw [← Nat.add_assoc]
    exact .step ih hc hl hk hc2
theorem costP_pos (l : Ln) : 1 ≤ costP l := by unfold costP; omega
/-- Along a path. -/
theorem goP_path {code : List Ln} {r r' : Rn} {s1 : Nat} (p : Path code r s1 r') (T : Nat) : ∀ (f s : Nat), s + s1 ≤ T → T + 1 ≤ s + f → ∃ f', T + 1 ≤ s + s1 + f' ∧ goP code T f s r = goP code T f' (s + s1) r' := by
  induction p with
  | nil => exact fun f s h1 h2 => ⟨f, by omega, rfl⟩
  | @step r' s0 l p hc hl hk hc2 ih =>
    intro f s h1 h2
    have hp := costP_pos l
    obtain ⟨f', h3, e⟩ := ih f s (by omega) h2
    obtain ⟨f', rfl⟩ : ∃ g, f' = g + 1 := ⟨f' - 1, by omega⟩
    refine ⟨f', by omega, ?_⟩
    rw [e, goP, hl]
    simp only
    rw [if_neg (by omega), if_pos hk, Nat.add_assoc]
theorem goP_fin {code : List Ln} {r r' : Rn} {e : Ev} {cost : Nat} (h : Fin code r r' e cost) (T f s : Nat) (h1 : s + cost ≤ T) (h2 : T + 1 ≤ s + f) : goP code T f s r = (r', e, s + cost) := by
  obtain ⟨f, rfl⟩ : ∃ g, f = g + 1 := ⟨f - 1, by omega⟩
  rw [goP]
  rcases h with ⟨hl, rfl, rfl, rfl⟩ | ⟨l, hl, hk, rfl, rfl, rfl⟩
  · rw [hl]
    rfl
  · rw [hl]
    simp only
    rw [if_neg (by omega), if_neg hk]
section
variable {names : List Str} {code : List Ln}
/-- What a turn is. -/
theorem goP_split (V : ValidP names code) {t : Nat} : ∀ (f s : Nat) (r : Rn), RunOk names code r → calm r → s ≤ t → t + 1 ≤ s + f →
    ∃ (s1 : Nat) (rm : Rn), Path code r s1 rm ∧ RunOk names code rm ∧ calm rm ∧ ((goP code t f s r = (rm, ⟨0, 0, []⟩, s + s1) ∧ s + s1 ≤ t) ∨ ∃ r' e cost, Fin code rm r' e cost ∧ goP code t f s r = (r', e, s + s1 + cost) ∧ s + s1 + cost ≤ t)
  | 0, s, r, R, hr, h1, h2 => by omega
  | f + 1, s, r, R, hr, h1, h2 => by
    rw [goP]
    cases hl : code[r.at_]? with
    | none => exact ⟨0, r, .nil r, R, hr, .inr ⟨_, _, 0, .inl ⟨hl, rfl, rfl, rfl⟩, rfl, by omega⟩⟩
    | some l =>
      simp only
      have hp := costP_pos l
      by_cases g : t < s + costP l
      · rw [if_pos g]
        exact ⟨0, r, .nil r, R, hr, .inl ⟨rfl, by omega⟩⟩
      · rw [if_neg g]
        obtain ⟨R', hc, _⟩ := step_ok V R hr hl
        by_cases hk : (stepR l r).2.k = 0
        · rw [if_pos hk]
          obtain ⟨s1, rm, p, Rm, hm, H⟩ := goP_split V (t := t) f (s + costP l) (stepR l r).1 R' (hc hk) (by omega) (by omega)
          have p1 : Path code r (0 + costP l) (stepR l r).1 := .step (.nil r) hr hl hk (hc hk)
          rw [Nat.zero_add] at p1
          refine ⟨costP l + s1, rm, p1.trans p, Rm, hm, ?_⟩
          rw [← Nat.add_assoc]
          exact H
        · rw [if_neg hk]
          exact ⟨0, r, .nil r, R, hr, .inr ⟨_, _, costP l, .inr ⟨l, hl, hk, rfl, rfl, rfl⟩, rfl, by omega⟩⟩
/-- A turn in pieces comes to what one turn comes to. -/
theorem goF_piece (V : ValidP names code) {t s : Nat} {r0 r : Rn} (R : RunOk names code r) (p : Path code r0 s r) :
    (goF code t r).2.2 ≤ t ∧ (((goF code t r).2.1.k = 0 ∧ Path code r0 (s + (goF code t r).2.2) (goF code t r).1) ∨ ((goF code t r).2.1.k ≠ 0 ∧ goF code (s + (goF code t r).2.2) r0 = ((goF code t r).1, (goF code t r).2.1, s + (goF code t r).2.2))) := by
  by_cases hr : calm r
  · have h0 : calm r0 := p.calm0 hr
    have hg : ∀ T, goF code T r0 = goP code T (T + 1) 0 r0 := fun T => by unfold goF; rw [if_pos (show r0.y = 0 ∧ r0.x = 0 ∧ r0.z = false from h0)]
    have hg2 : goF code t r = goP code t (t + 1) 0 r := by unfold goF; rw [if_pos (show r.y = 0 ∧ r.x = 0 ∧ r.z = false from hr)]
    rw [hg2, hg]
    obtain ⟨s1, rm, q, Rm, hm, H⟩ := goP_split V (t := t) (t + 1) 0 r R hr (by omega) (by omega)
    rcases H with ⟨e, h1⟩ | ⟨r', ev, cost, hF, e, h1⟩
    · rw [e]
      refine ⟨by simp only; omega, .inl ⟨rfl, ?_⟩⟩
      simp only [Nat.zero_add]
      exact p.trans q
    · rw [e]
      refine ⟨by simp only; omega, .inr ⟨hF.k, ?_⟩⟩
      simp only [Nat.zero_add]
      obtain ⟨f', h3, e3⟩ := goP_path (p.trans q) (s + (s1 + cost)) (s + (s1 + cost) + 1) 0 (by omega) (by omega)
      rw [e3, goP_fin hF _ _ _ (by omega) (by omega)]
      congr 2
      omega
  · obtain ⟨rfl, rfl⟩ := p.calm hr
    have hg : ∀ T, goF code T r = (r, ⟨5, 0, []⟩, 0) := fun T => by unfold goF; rw [if_neg (show ¬ (r.y = 0 ∧ r.x = 0 ∧ r.z = false) from hr)]
    rw [hg, hg]
    refine ⟨by simp only; omega, .inr ⟨?_, rfl⟩⟩
    show (5 : Int) ≠ 0
    decide
end
end Go.Proofs.YtmpcjfkfgjpebaaGreatDoor.AM
namespace Go.Proofs.YtmpcjfkfgjpebaaGreatDoor.AM
open Go
theorem decFrom_app (l r : List UInt8) : ∀ acc : Nat, Lib.decFrom acc (l ++ r) = (Lib.decFrom acc l).bind fun n => Lib.decFrom n r := by
  induction l with
  | nil => intro acc; rfl
  | cons b l ih =>
    intro acc
    simp only [List.cons_append, Lib.decFrom]
    cases Lib.digitVal b with
    | none => rfl
    | some d => exact ih _
theorem digit_ofNat {d : Nat} (h : d < 10) : Lib.digitVal (UInt8.ofNat (48 + d)) = some d := by
  have h1 : (UInt8.ofNat (48 + d)).toNat = 48 + d := by
    simp only [UInt8.toNat_ofNat']
    omega
  unfold Lib.digitVal
  rw [h1, if_pos (by omega)]
  congr 1
  omega
theorem decFrom_dec (u : Nat) : Lib.decFrom 0 (Lib.decDigits u) = some u := by
  induction u using Nat.strongRecOn with
  | ind u ih =>
    rw [Lib.decDigits]
    split
    · rename_i h
      simp only [Lib.decFrom, digit_ofNat h]
      congr 1
      omega
    · rename_i h
      rw [decFrom_app, ih (u / 10) (by omega), Option.bind_some]
      simp only [Lib.decFrom, digit_ofNat (Nat.mod_lt u (by decide))]
      congr 1
      omega
theorem dec_digit : ∀ (u : Nat), ∀ b ∈ Lib.decDigits u, 48 ≤ b.toNat ∧ b.toNat ≤ 57 := by
  intro u
  induction u using Nat.strongRecOn with
  | ind u ih =>
    rw [Lib.decDigits]
    have key : ∀ d : Nat, d < 10 → 48 ≤ (UInt8.ofNat (48 + d)).toNat ∧ (UInt8.ofNat (48 + d)).toNat ≤ 57 := by
      intro d h
      simp only [UInt8.toNat_ofNat']
      omega
    split
    · rename_i h
      intro b hb
      rw [List.mem_singleton.1 hb]
      exact key u h
    · rename_i h
      intro b hb
      rcases List.mem_append.1 hb with hb | hb
      · exact ih _ (by omega) b hb
      · rw [List.mem_singleton.1 hb]
        exact key _ (Nat.mod_lt u (by decide))
theorem dec_ne (u : Nat) : Lib.decDigits u ≠ [] := by
  intro h
  have := Lib.decDigits_length u
  rw [h] at this
  have := Lib.nDigits_pos u
  simp at *
  omega
theorem dec_len {u : Nat} (h : u < 10000000000) : (Lib.decDigits u).length ≤ 10 := by
  rw [Lib.decDigits_length]
  by_cases g : Lib.nDigits u ≤ 10
  · exact g
  · exfalso
    by_cases g0 : u = 0
    · subst g0
      rw [Lib.nDigits_small (by omega)] at g
      omega
    · have key : ∀ (k u : Nat), u ≠ 0 → Lib.nDigits u = k + 1 → 10 ^ k ≤ u := by
        intro k
        induction k with
        | zero => intro u h0 _; simp; omega
        | succ k ih =>
          intro u h0 hk
          by_cases hu : u < 10
          · rw [Lib.nDigits_small hu] at hk
            omega
          · rw [Lib.nDigits_big hu] at hk
            have := ih (u / 10) (by omega) (by omega)
            rw [Nat.pow_succ]
            omega
      have h1 := key (Lib.nDigits u - 1) u g0 (by omega)
      have h2 : 10 ^ 10 ≤ 10 ^ (Lib.nDigits u - 1) := Nat.pow_le_pow_right (by omega) (by omega)
      omega
/-- A number's text is read as the number. -/
theorem atoi_itoa {n : Int} (h1 : -10000000000 < n) (h2 : n < 10000000000) : Lib.atoiAll (Lib.itoa n) = .ok n := by
  have hl : (Lib.itoa n).length ≤ 18 := by
    unfold Lib.itoa
    split
    · have := dec_len (u := n.natAbs) (by omega)
      simp
      omega
    · have := dec_len (u := n.toNat) (by omega)
      omega
  rw [Lib.atoiAll_short _ hl]
  have hd : ∀ u : Nat, Lib.decNat (Lib.decDigits u) = some u := by
    intro u
    unfold Lib.decNat
    rw [if_neg (by simpa using dec_ne u), decFrom_dec]
  have : Lib.atoi (Lib.itoa n) = some n := by
    unfold Lib.itoa
    split
    · unfold Lib.atoi
      simp only [beq_self_eq_true, if_true, hd, Option.map_some]
      congr 1
      omega
    · cases hc : Lib.decDigits n.toNat with
      | nil => exact absurd hc (dec_ne _)
      | cons b r =>
        have hb := dec_digit n.toNat b (by rw [hc]; simp)
        have b1 : (b == 45) = false := by rw [beq_eq_false_iff_ne]; intro e; subst e; simp at hb
        have b2 : (b == 43) = false := by rw [beq_eq_false_iff_ne]; intro e; subst e; simp at hb
        unfold Lib.atoi
        simp only [b1, b2, Bool.false_eq_true, if_false]
        rw [← hc, hd, Option.map_some]
        congr 1
        omega
  rw [this]
  rfl
theorem itoa_digit {n : Int} : ∀ b ∈ Lib.itoa n, b ≠ 32 := by
  intro b hb e
  subst e
  unfold Lib.itoa at hb
  split at hb
  · rcases List.mem_cons.1 hb with h | h
    · cases h
    · have := dec_digit _ _ h
      simp at this
  · have := dec_digit _ _ hb
    simp at this
end Go.Proofs.YtmpcjfkfgjpebaaGreatDoor.AM
namespace Go.Proofs.YtmpcjfkfgjpebaaGreatDoor.AM
open Go Go.Proofs
attribute [local simp] fieldAddrA ld setCells stA skipV appendA hd makeA bnd kindA freshA killOk loadsAt edgesOn Region.binds newT empT lay_get allocA buildA buildRow lenA els indexAddrA isNil opA evA lit_int lit_bool lit_nil lit_nilf yldA binI unA pickA boolV intV fieldA mk eqs nilC mayP
def valsS (r : Rn) : List Int := (r.at_ : Int) :: r.x :: r.y :: (if r.z then 1 else 0) :: r.vs
/-- What is saved. -/
def saveP (r : Rn) : Str := Lib.join ((valsS r).map Lib.itoa) [32]
theorem baOf_strs (l : List Str) : baOf (strs l) = some (l.map fun x => (⟨x.toArray⟩ : ByteArray)) := by
  induction l with
  | nil => rfl
  | cons x l ih =>
    show (baOf (strs l)).map (fun r => (⟨x.toArray⟩ : ByteArray) :: r) = _
    rw [ih]
    rfl
theorem ba_back : ∀ ls : List Str, (ls.map fun x => (⟨x.toArray⟩ : ByteArray)).map (·.data.toList) = ls
  | [] => rfl
  | x :: l => by
    have := ba_back l
    simp only [List.map_cons] at this ⊢
    rw [this]
theorem join_c {h : Heap} {c n : Nat} {ls : List Str} (hn : h n = some ⟨1, strs ls, some 9⟩) (hne : ls ≠ []) (hl : ls.length ≤ 1000000) (ht : (Lib.join ls [32]).length ≤ 1000000) (orc : Orc) :
    callA mZ orc 41 [.sl n 1 0 ls.length, S [32]] h c = some (S (Lib.join ls [32]), h, c) := by
  unfold callA
  rw [show mZ 41 = some (.ext gJoin) from rfl]
  simp only
  have hel : els h (.sl n 1 0 ls.length) = some (strs ls) := by
    simp only [els, hn, Option.bind_some, List.drop_zero, Nat.zero_add]
    rw [if_pos (by simp), List.take_of_length_le (by simp)]
  have h1 : frz h depth (.sl n 1 0 ls.length) = some (.ro false (strs ls)) := by
    show ((els h (.sl n 1 0 ls.length)).bind fun es => (es.mapM fun (e : List AV) => e.mapM (frz h 11)).map (AV.ro false)) = some (AV.ro false (strs ls))
    rw [hel, Option.bind_some, frzS]
    rfl
  have h2 : ([.sl n 1 0 ls.length, S [32]] : List AV).mapM (frz h depth) = some [.ro false (strs ls), S [32]] := by
    simp only [List.mapM_cons, List.mapM_nil, h1]
    rfl
  rw [h2, Option.bind_some]
  have hm := ba_back ls
  have hg : gJoin [.ro false (strs ls), S [32]] = some (S (Lib.join ls [32])) := by
    show (baOf (strs ls)).bind _ = _
    rw [baOf_strs, Option.bind_some, hm]
    rw [if_pos ⟨by simpa using hne, by simpa using hl, ht⟩]
  rw [hg, Option.bind_some]
  rfl
theorem joinTail_len (p : Str) : ∀ (l : List Str), (∀ x ∈ l, x.length ≤ 11) → (Lib.joinTail p l).length ≤ (p.length + 11) * l.length
  | [], _ => by simp [Lib.joinTail]
  | x :: l, h => by
    have ih := joinTail_len p l fun y hy => h y (by simp [hy])
    have hx := h x (by simp)
    unfold Lib.joinTail at ih ⊢
    simp only [List.map_cons, List.flatten_cons, List.length_append, List.length_cons]
    rw [Nat.mul_add]
    omega
theorem join_len (l : List Str) (h : ∀ x ∈ l, x.length ≤ 11) : (Lib.join l [32]).length ≤ 12 * l.length := by
  cases l with
  | nil => simp [Lib.join_nil]
  | cons x r =>
    rw [Lib.join_cons]
    have := joinTail_len [32] r fun y hy => h y (by simp [hy])
    have hx := h x (by simp)
    simp at this ⊢
    omega
theorem itoa_len {n : Int} (h1 : -10000000000 < n) (h2 : n < 10000000000) : (Lib.itoa n).length ≤ 11 := by
  unfold Lib.itoa
  split
  · have := dec_len (u := n.natAbs) (by omega)
    simp
    omega
  · have := dec_len (u := n.toNat) (by omega)
    omega
section
variable {nb cb : Bool} {names : List Str} {code : List Ln} {r : Rn}
theorem valsS_rng (V : ValidP names code) (R : RunOk names code r) : ∀ n ∈ valsS r, -10000000000 < n ∧ n < 10000000000 := by
  intro n hn
  have hx := R.x_le
  have ha := R.a
  have hc := V.c200
  have hy : 0 ≤ r.y ∧ r.y ≤ 2 := by
    rcases R.md with ⟨h, _⟩ | ⟨h, _⟩ | ⟨h, _⟩ | ⟨h, _⟩ | ⟨h, _⟩ <;> omega
  unfold valsS at hn
  simp only [List.mem_cons] at hn
  rcases hn with rfl | rfl | rfl | rfl | hn
  · omega
  · omega
  · omega
  · split <;> omega
  · have := okV_in R.vo hn
    unfold inR at this
    omega
def SvOut (t : Str) (o : Option (AV × Heap × Nat)) : Prop := ∃ h c, o = some (.tup [S t, E 0], h, c)
def SaveO (r : Rn) (o : Option (AV × Heap × Nat)) : Prop := ∃ h c, o = some (.tup [S (saveP r), E 0], h, c)
def SVI (sv : List Int) (n0 : Nat) (kk : Nat) (st : St) : Prop := ∃ (i : Nat) (v : AV), kk = sv.length - i ∧ i ≤ sv.length ∧ st.t 8 = v ∧ st.t 29 = .sl n0 1 0 sv.length ∧ st.t 30 = I sv.length ∧ st.t 31 = I i ∧ st.h n0 = some ⟨1, nums sv, some 3⟩ ∧ n0 < st.c ∧ (∀ m, nm v = some m → n0 < m) ∧ OutG 1 9 st.h st.c v (strs ((sv.take i).map Lib.itoa))
theorem app_vs {h : Heap} {c n : Nat} {ys vs : List Int} (hn : h n = some ⟨1, nums ys, some 3⟩) (hne : vs ≠ []) (hl : ys.length + vs.length ≤ 1000000) :
    appendA Tryz.prog 30 h c (.sl n 1 0 ys.length) (.ro false (nums vs)) = some (.sl c 1 0 (ys ++ vs).length, (h.put n none).put c (some ⟨1, nums (ys ++ vs), some 3⟩), c + 1) := by
  unfold appendA
  have h1 : slT Tryz.prog 30 = some 3 := by simp
  have h2 : szT Tryz.prog 3 = some 1 := by simp
  have h3 : byT Tryz.prog 3 = some 8 := by simp
  have h4 : zeT Tryz.prog 3 = some [I 0] := by kernel_rfl
  have hh : AM.hd (nums vs) 1 = true := by cases vs <;> simp [AM.hd]
  have hx : srcA h (.ro false (nums vs)) = some (nums vs) := rfl
  have hel : els h (.sl n 1 0 ys.length) = some (nums ys) := by
    simp only [els, hn, Option.bind_some, List.drop_zero, Nat.zero_add]
    rw [if_pos (by simp), List.take_of_length_le (by simp)]
  have he : (nums vs).isEmpty = false := by cases vs with | nil => exact absurd rfl hne | cons => rfl
  have hr : (ys.length + (nums vs).length) * 8 ≤ room ∧ ys.length + (nums vs).length ≤ room := by
    have : (room : Nat) = 140737488355328 := rfl
    rw [this]
    simp
    omega
  simp only [h1, h2, h3, h4, hx, Option.bind_some, hh, List.length_cons, List.length_nil, Nat.zero_add, and_self, if_true, he, Bool.false_eq_true, if_false, hel]
  rw [if_pos ⟨trivial, hr⟩, hn]
  simp [tyK]
theorem save_ev (F : FrzC code) (V : ValidP names code) (R : RunOk names code r) : SvOut (saveP r) (run Tryz.prog mZ 20 [progV nb cb names code, r.av] Heap.none 0) := by
  rw [run_eq (show mZ 20 = some .pure from rfl) rfl, Tryz.func20]
  have e33 := fun h c => fits_c (nb := nb) (cb := cb) F V R h c
  have hne := vs_ne V R
  have hvl := R.vl
  have hn16 := V.n16
  have hrng := valsS_rng V R
  have hvS : valsS r = [(r.at_ : Int), r.x, r.y, if r.z then 1 else 0] ++ r.vs := rfl
  have e4 := app_vs (h := ((Heap.none.put 0 (some (pgB nb cb names code))).put 1 (some ⟨5, [[I r.at_, .ro false (nums r.vs), I r.x, I r.y, B r.z]], some 32⟩)).put 2 (some ⟨1, nums [(r.at_ : Int), r.x, r.y, if r.z then 1 else 0], some 3⟩)) (c := 3) (n := 2) (ys := [(r.at_ : Int), r.x, r.y, if r.z then 1 else 0]) (by simp) hne (by simp; omega)
  rw [← hvS] at e4
  have hlen : (valsS r).length ≤ 20 := by rw [hvS]; simp; omega
  generalize hvv : valsS r = sv at *
  have hsave : saveP r = Lib.join (sv.map Lib.itoa) [32] := by unfold saveP; rw [hvv]
  rw [hsave]
  have hs0 : sv ≠ [] := fun e => by rw [e] at hvS; cases hvS
  obtain ⟨at0, vs, x, y, z⟩ := r
  simp only at hne hvl e4
  cases z
  · simp only [Bool.false_eq_true, if_false, nums, List.map_cons, List.map_nil, List.length_cons, List.length_nil] at e4
    simp -implicitDefEqProofs [Tryz.f20, e33, -appendA, e4, Option.bind_assoc, -decide_eq_true_eq, -decide_eq_false_iff_not, -List.any_eq_true, -List.any_eq_false, -bne_iff_ne, -beq_iff_eq, -beq_eq_false_iff_ne, -bne_eq_false_iff_eq]
    refine loop_to (R := SvOut _) (SVI sv 3) (fun e st => e = .exit 0 ∧ ∃ v, st.t 8 = v ∧ OutG 1 9 st.h st.c v (strs (sv.map Lib.itoa))) ?_ ?_ sv.length _ ?_
    · rintro kk ⟨t, h, c⟩ ⟨i, v, rfl, hi, a8, a29, a30, a31, b3, hc, hnv, O⟩
      simp only at a8 a29 a30 a31 b3 hc O
      by_cases g : i < sv.length
      · have g1 : decide (i < sv.length) = true := by simp [g]
        have w2 : IntKind.i64.wrap ((i : Int) + 1) = ((i + 1 : Nat) : Int) := wrap_succ (by omega)
        obtain ⟨q, hq⟩ : ∃ q, sv[i]? = some q := ⟨sv[i], by simp [g]⟩
        have hy : sv[i]'g = q := (List.getElem?_eq_some_iff.1 hq).2
        obtain ⟨r1, r2⟩ := hrng q (List.mem_of_getElem? hq)
        have e40 := fun h c => itoa_c (md := mZ) rfl (orc := run Tryz.prog mZ) q (by omega) (by omega) h c
        have htk : (sv.take (i + 1)).map Lib.itoa = (sv.take i).map Lib.itoa ++ [Lib.itoa q] := by
          rw [List.take_add_one, hq]
          simp
        obtain ⟨v', h', c', e, O2, G⟩ := outG_one (t := 23) (sz := 1) (by_ := 16) (z := [.val (.string ⟨#[]⟩)]) O [S (Lib.itoa q)] (some 9) rfl (by simp) (by simp) (by simp) (by simp) rfl (by simp; omega) (by simp; omega)
        have O3 : OutG 1 9 h' c' v' (strs ((sv.take (i + 1)).map Lib.itoa)) := by rw [htk]; simpa using O2
        obtain ⟨q1, q2, q3⟩ := O2.nopan
        have G1 := G.le
        have gk : h' 3 = some ⟨1, nums sv, some 3⟩ := by rw [G.get 3 (by omega) (fun e => by have := hnv 3 e; omega), b3]
        simp -implicitDefEqProofs [a8, a29, a30, a31, b3, g, g1, hq, hy, e40, w2, -appendA, e, q1, q2, q3, to_normal, to_exit, to_ret, -decide_eq_true_eq, -decide_eq_false_iff_not, -List.any_eq_true, -List.any_eq_false, -bne_iff_ne, -beq_iff_eq, -beq_eq_false_iff_ne, -bne_eq_false_iff_eq]
        exact ⟨sv.length - (i + 1), by omega, i + 1, v', rfl, by omega, by simp, by simp [a29], by simp [a30], by simp, gk, by simp only; omega, fun m hm => by
          rcases G.new m hm with h3 | h3
          · exact hnv m h3
          · omega, O3⟩
      · have g1 : decide (i < sv.length) = false := by simp; omega
        rw [List.take_of_length_le (by omega)] at O
        simp -implicitDefEqProofs [a8, a29, a30, a31, g1, to_normal, to_exit, to_ret, -decide_eq_true_eq, -decide_eq_false_iff_not, -List.any_eq_true, -List.any_eq_false, -bne_iff_ne, -beq_iff_eq, -beq_eq_false_iff_ne, -bne_eq_false_iff_eq]
        simpa using O
    · rintro e ⟨t, h, c⟩ ⟨rfl, v, a8, O⟩
      simp only at a8 O
      rcases O with ⟨rfl, hem⟩ | ⟨m, rfl, _, _, hm⟩
      · exact absurd (by simpa using hem) hs0
      · have hjl := join_len (sv.map Lib.itoa) fun x hx => by
          obtain ⟨n, hn, rfl⟩ := List.mem_map.1 hx
          exact itoa_len (hrng n hn).1 (hrng n hn).2
        have e41 := join_c (h := h) (c := c) hm (by simpa using hs0) (by simp; omega) (by simp at hjl ⊢; omega) (run Tryz.prog mZ)
        simp only [List.length_map] at e41 a8
        simp -implicitDefEqProofs [a8, e41, -decide_eq_true_eq, -decide_eq_false_iff_not, -List.any_eq_true, -List.any_eq_false, -bne_iff_ne, -beq_iff_eq, -beq_eq_false_iff_ne, -bne_eq_false_iff_eq]
        exact ⟨_, _, rfl⟩
    · exact ⟨0, .ro true [], by simp, by simp, by simp, by simp, by simp, by simp, by simp, by simp, fun m hm => (by cases hm), .inl ⟨rfl, by simp⟩⟩
  · simp only [if_true, nums, List.map_cons, List.map_nil, List.length_cons, List.length_nil] at e4
    simp -implicitDefEqProofs [Tryz.f20, e33, -appendA, e4, Option.bind_assoc, -decide_eq_true_eq, -decide_eq_false_iff_not, -List.any_eq_true, -List.any_eq_false, -bne_iff_ne, -beq_iff_eq, -beq_eq_false_iff_ne, -bne_eq_false_iff_eq]
    refine loop_to (R := SvOut _) (SVI sv 3) (fun e st => e = .exit 0 ∧ ∃ v, st.t 8 = v ∧ OutG 1 9 st.h st.c v (strs (sv.map Lib.itoa))) ?_ ?_ sv.length _ ?_
    · rintro kk ⟨t, h, c⟩ ⟨i, v, rfl, hi, a8, a29, a30, a31, b3, hc, hnv, O⟩
      simp only at a8 a29 a30 a31 b3 hc O
      by_cases g : i < sv.length
      · have g1 : decide (i < sv.length) = true := by simp [g]
        have w2 : IntKind.i64.wrap ((i : Int) + 1) = ((i + 1 : Nat) : Int) := wrap_succ (by omega)
        obtain ⟨q, hq⟩ : ∃ q, sv[i]? = some q := ⟨sv[i], by simp [g]⟩
        have hy : sv[i]'g = q := (List.getElem?_eq_some_iff.1 hq).2
        obtain ⟨r1, r2⟩ := hrng q (List.mem_of_getElem? hq)
        have e40 := fun h c => itoa_c (md := mZ) rfl (orc := run Tryz.prog mZ) q (by omega) (by omega) h c
        have htk : (sv.take (i + 1)).map Lib.itoa = (sv.take i).map Lib.itoa ++ [Lib.itoa q] := by
          rw [List.take_add_one, hq]
          simp
        obtain ⟨v', h', c', e, O2, G⟩ := outG_one (t := 23) (sz := 1) (by_ := 16) (z := [.val (.string ⟨#[]⟩)]) O [S (Lib.itoa q)] (some 9) rfl (by simp) (by simp) (by simp) (by simp) rfl (by simp; omega) (by simp; omega)
        have O3 : OutG 1 9 h' c' v' (strs ((sv.take (i + 1)).map Lib.itoa)) := by rw [htk]; simpa using O2
        obtain ⟨q1, q2, q3⟩ := O2.nopan
        have G1 := G.le
        have gk : h' 3 = some ⟨1, nums sv, some 3⟩ := by rw [G.get 3 (by omega) (fun e => by have := hnv 3 e; omega), b3]
        simp -implicitDefEqProofs [a8, a29, a30, a31, b3, g, g1, hq, hy, e40, w2, -appendA, e, q1, q2, q3, to_normal, to_exit, to_ret, -decide_eq_true_eq, -decide_eq_false_iff_not, -List.any_eq_true, -List.any_eq_false, -bne_iff_ne, -beq_iff_eq, -beq_eq_false_iff_ne, -bne_eq_false_iff_eq]
        exact ⟨sv.length - (i + 1), by omega, i + 1, v', rfl, by omega, by simp, by simp [a29], by simp [a30], by simp, gk, by simp only; omega, fun m hm => by
          rcases G.new m hm with h3 | h3
          · exact hnv m h3
          · omega, O3⟩
      · have g1 : decide (i < sv.length) = false := by simp; omega
        rw [List.take_of_length_le (by omega)] at O
        simp -implicitDefEqProofs [a8, a29, a30, a31, g1, to_normal, to_exit, to_ret, -decide_eq_true_eq, -decide_eq_false_iff_not, -List.any_eq_true, -List.any_eq_false, -bne_iff_ne, -beq_iff_eq, -beq_eq_false_iff_ne, -bne_eq_false_iff_eq]
        simpa using O
    · rintro e ⟨t, h, c⟩ ⟨rfl, v, a8, O⟩
      simp only at a8 O
      rcases O with ⟨rfl, hem⟩ | ⟨m, rfl, _, _, hm⟩
      · exact absurd (by simpa using hem) hs0
      · have hjl := join_len (sv.map Lib.itoa) fun x hx => by
          obtain ⟨n, hn, rfl⟩ := List.mem_map.1 hx
          exact itoa_len (hrng n hn).1 (hrng n hn).2
        have e41 := join_c (h := h) (c := c) hm (by simpa using hs0) (by simp; omega) (by simp at hjl ⊢; omega) (run Tryz.prog mZ)
        simp only [List.length_map] at e41 a8
        simp -implicitDefEqProofs [a8, e41, -decide_eq_true_eq, -decide_eq_false_iff_not, -List.any_eq_true, -List.any_eq_false, -bne_iff_ne, -beq_iff_eq, -beq_eq_false_iff_ne, -bne_eq_false_iff_eq]
        exact ⟨_, _, rfl⟩
    · exact ⟨0, .ro true [], by simp, by simp, by simp, by simp, by simp, by simp, by simp, by simp, fun m hm => (by cases hm), .inl ⟨rfl, by simp⟩⟩
theorem save_c (F : FrzC code) (V : ValidP names code) (R : RunOk names code r) (h : Heap) (c : Nat) : callA mZ (run Tryz.prog mZ) 20 [progV nb cb names code, r.av] h c = some (.tup [S (saveP r), E 0], h, c) := by
  obtain ⟨h', c', e⟩ := save_ev (nb := nb) (cb := cb) F V R
  exact call_of rfl rfl e rfl rfl
end
end Go.Proofs.YtmpcjfkfgjpebaaGreatDoor.AM
namespace Go.Proofs.YtmpcjfkfgjpebaaGreatDoor.AM
open Go Go.Proofs
attribute [local simp] fieldAddrA ld setCells stA skipV appendA hd makeA bnd kindA freshA killOk loadsAt edgesOn Region.binds newT empT lay_get allocA buildA buildRow lenA els indexAddrA isNil opA evA lit_int lit_bool lit_nil lit_nilf yldA binI unA pickA boolV intV fieldA mk eqs nilC mayP
theorem whole_n {n : Int} (h1 : -10000000000 < n) (h2 : n < 10000000000) (h : Heap) (c : Nat) : callA mZ (run Tryz.prog mZ) 43 [S (Lib.itoa n)] h c = some (.tup [I n, B true], h, c) := by
  have key : ∃ h c, run Tryz.prog mZ 43 [S (Lib.itoa n)] Heap.none 0 = some (.tup [I n, B true], h, c) := by
    rw [run_eq (show mZ 43 = some .pure from rfl) rfl, Tryz.func43]
    have hl := itoa_len h1 h2
    have e1 := fun h c => atoiV_c (md := mZ) rfl (orc := run Tryz.prog mZ) (Lib.itoa n) (by omega) h c
    rw [atoi_itoa h1 h2] at e1
    have e2 := fun h c => itoa_c (md := mZ) rfl (orc := run Tryz.prog mZ) n (by omega) (by omega) h c
    have g : (Lib.itoa n == Lib.itoa n) = true := by simp
    simp only at e1
    simp -implicitDefEqProofs [Tryz.f43, e1, e2, g, ifcA, -decide_eq_true_eq, -decide_eq_false_iff_not, -List.any_eq_true, -List.any_eq_false, -bne_iff_ne, -beq_iff_eq, -beq_eq_false_iff_ne, -bne_eq_false_iff_eq]
  obtain ⟨h', c', e⟩ := key
  exact call_of rfl rfl e rfl rfl
/-- What the text of several numbers begins with. -/
theorem idx_app (x r : Str) (hx : ∀ b ∈ x, b ≠ 32) : Lib.indexByte (x ++ 32 :: r) 32 = x.length := by
  induction x with
  | nil => rfl
  | cons b x ih =>
    have hb := hx b (by simp)
    have h1 := ih fun y hy => hx y (by simp [hy])
    show (if b == 32 then (0 : Int) else if Lib.indexByte (x ++ 32 :: r) 32 == -1 then -1 else Lib.indexByte (x ++ 32 :: r) 32 + 1) = _
    rw [if_neg (by simpa using hb), h1, if_neg (by simp)]
    simp
theorem idx_none (x : Str) (hx : ∀ b ∈ x, b ≠ 32) : Lib.indexByte x 32 = -1 := by
  induction x with
  | nil => rfl
  | cons b x ih =>
    have hb := hx b (by simp)
    have h1 := ih fun y hy => hx y (by simp [hy])
    show (if b == 32 then (0 : Int) else if Lib.indexByte x 32 == -1 then -1 else Lib.indexByte x 32 + 1) = _
    rw [if_neg (by simpa using hb), h1]
    rfl
theorem join_two (x y : Str) (r : List Str) : Lib.join (x :: y :: r) [32] = x ++ 32 :: Lib.join (y :: r) [32] := by
  rw [Lib.join_cons, Lib.join_cons]
  simp [Lib.joinTail]
end Go.Proofs.YtmpcjfkfgjpebaaGreatDoor.AM
namespace Go.Proofs.YtmpcjfkfgjpebaaGreatDoor.AM
open Go Go.Proofs
attribute [local simp] fieldAddrA ld setCells stA skipV appendA hd makeA bnd kindA freshA killOk loadsAt edgesOn Region.binds newT empT lay_get allocA buildA buildRow lenA els indexAddrA isNil opA evA lit_int lit_bool lit_nil lit_nilf yldA binI unA pickA boolV intV fieldA mk eqs nilC mayP
noncomputable def ldA : Code := ((Tryz.f21.body.bind rngOf).map (·.2.1)).getD .skip
noncomputable def ldB : Code := ((Tryz.f21.body.bind rngOf).map (·.2.2)).getD .skip
noncomputable abbrev LPl (t : Nat → AV) : LP := ⟨0, .normal, rngNt [20] ldA ldB, t, [20], ldA, ldB⟩
theorem LPl_ok (t : Nat → AV) : rndOk mZ (LPl t) = true := by kernel_rfl
theorem ldA_ev (t : Nat → AV) (h : Heap) (c : Nat) (x : Str) : exL Tryz.prog mZ ldA ⟨setP t [20] [S x], h, c⟩ = some (.normal, ⟨upd (upd t (some 20) (S x)) (some 8) (S x), h, c⟩) := by
  simp -implicitDefEqProofs [ldA, Tryz.f21, rngOf, setP]
theorem ldB_ev {t : Nat → AV} {h : Heap} {c : Nat} {n : Int} {v : AV} {l : List Int} (h1 : -10000000000 < n) (h2 : n < 10000000000) (h8 : t 8 = S (Lib.itoa n)) (h7 : t 7 = .ptr 3 0 0) (b3 : h 3 = some ⟨1, [[v]], some 30⟩) (hc : 3 < c) (O : OutG 1 3 h c v (nums l)) (hl : l.length ≤ 100) (hnv : nm v ≠ some 3) :
    ∃ t' h' c' v', exL Tryz.prog mZ ldB ⟨t, h, c⟩ = some (.normal, ⟨t', h'.put 3 (some ⟨1, [[v']], some 30⟩), c'⟩) ∧ OutG 1 3 h' c' v' (nums (l ++ [n])) ∧ Grown h c v h' c' v' := by
  have e43 := fun h c => whole_n h1 h2 h c
  obtain ⟨v', h', c', e, O2, G⟩ := push_c O.toS (by omega) n
  obtain ⟨q1, q2, q3⟩ := O2.nopan
  have b3' : h' 3 = some ⟨1, [[v]], some 30⟩ := by rw [G.get 3 hc hnv, b3]
  have key : ∃ t', exL Tryz.prog mZ ldB ⟨t, h, c⟩ = some (.normal, ⟨t', h'.put 3 (some ⟨1, [[v']], some 30⟩), c'⟩) := by
    simp -implicitDefEqProofs [ldB, Tryz.f21, rngOf, h8, h7, b3, e43, -appendA, e, q1, q2, q3, b3', -decide_eq_true_eq, -decide_eq_false_iff_not, -List.any_eq_true, -List.any_eq_false, -bne_iff_ne, -beq_iff_eq, -beq_eq_false_iff_ne, -bne_eq_false_iff_eq]
  obtain ⟨t', key⟩ := key
  exact ⟨t', h', c', v', key, O2, G⟩
/-- What Load's own cells hold while it goes through the text. -/
structure HL (B0 : Blk) (p : LP) (rest : Str) (h : Heap) (c : Nat) (l : List Int) : Prop where
  v : ∃ v, h 3 = some ⟨1, [[v]], some 30⟩ ∧ OutG 1 3 h c v (nums l) ∧ ∀ m, nm v = some m → 8 ≤ m
  b0 : h 0 = some B0
  b1 : h 1 = some ⟨5, [[I 0, .ro true [], I 0, I 0, B false]], some 32⟩
  b2 : h 2 = some ⟨1, [[E 0]], some 27⟩
  b4 : h 4 = some ⟨1, [[S rest]], some 9⟩
  b5 : h 5 = some ⟨1, [[S [32]]], some 9⟩
  b6 : h 6 = some ⟨1, [[I 0]], some 3⟩
  b7 : h 7 = some p.blk
  hc : 8 ≤ c
theorem HL.recd {B0 : Blk} {p : LP} {rest : Str} {h : Heap} {c : Nat} {l : List Int} (W : HL B0 p rest h c l) (p' : LP) : HL B0 p' rest (h.put 7 (some p'.blk)) c l := by
  obtain ⟨v, v1, v2, v3⟩ := W.v
  refine ⟨⟨v, by simpa using v1, v2.frame (Nat.le_refl _) fun m hm _ => ?_, v3⟩, by simpa using W.b0, by simpa using W.b1, by simpa using W.b2, by simpa using W.b4, by simpa using W.b5, by simpa using W.b6, by simp, W.hc⟩
  have := v3 m hm
  rw [put_get, if_neg (by omega)]
theorem round_l {B0 : Blk} {t : Nat → AV} {rest : Str} {h : Heap} {c : Nat} {l : List Int} {n : Int} (W : HL B0 (LPl t) rest h c l) (h7 : t 7 = .ptr 3 0 0) (h1 : -10000000000 < n) (h2 : n < 10000000000) (hl : l.length ≤ 100) :
    ∃ h' c', run Tryz.prog mZ rndF [.yld 7, S (Lib.itoa n)] h c = some (B true, h', c') ∧ HL B0 (LPl t) rest h' c' (l ++ [n]) := by
  rw [run_rnd md_rnd]
  unfold rndA
  simp only [W.b7, lpOf_blk, Option.bind_some]
  rw [if_pos ⟨rfl, LPl_ok t⟩, ldA_ev, Option.bind_some]
  unfold begR
  simp only [W.b7, lpOf_blk, Option.bind_some, if_true]
  have W1 := W.recd { LPl t with st := 1 }
  obtain ⟨v, v1, v2, v3⟩ := W1.v
  have hc := W1.hc
  obtain ⟨t', h', c', v', e, O2, G⟩ := ldB_ev (t := upd (upd t (some 20) (S (Lib.itoa n))) (some 8) (S (Lib.itoa n))) h1 h2 (by simp) (by simpa using h7) v1 (by omega) v2 hl (fun e => by have := v3 3 e; omega)
  rw [e, Option.bind_some]
  have hk : ∀ m, m < 8 → h' m = (h.put 7 (some { LPl t with st := 1 }.blk)) m := fun m hm => G.get m (by omega) fun e => by have := v3 m e; omega
  have G1 := G.le
  have vn : ∀ m, nm v' = some m → 8 ≤ m := fun m hm => by
    rcases G.new m hm with q | q
    · exact v3 m q
    · omega
  have W2 : HL B0 { LPl t with st := 1 } rest (h'.put 3 (some ⟨1, [[v']], some 30⟩)) c' (l ++ [n]) := by
    refine ⟨⟨v', by simp, O2.frame (Nat.le_refl _) fun m hm _ => ?_, vn⟩, ?_, ?_, ?_, ?_, ?_, ?_, ?_, by omega⟩
    · have := vn m hm
      rw [put_get, if_neg (by omega)]
    · rw [put_get, if_neg (by omega), hk 0 (by omega)]; exact W1.b0
    · rw [put_get, if_neg (by omega), hk 1 (by omega)]; exact W1.b1
    · rw [put_get, if_neg (by omega), hk 2 (by omega)]; exact W1.b2
    · rw [put_get, if_neg (by omega), hk 4 (by omega)]; exact W1.b4
    · rw [put_get, if_neg (by omega), hk 5 (by omega)]; exact W1.b5
    · rw [put_get, if_neg (by omega), hk 6 (by omega)]; exact W1.b6
    · rw [put_get, if_neg (by omega), hk 7 (by omega)]; exact W1.b7
  unfold endR
  simp only [W2.b7, lpOf_blk, Option.map_some]
  exact ⟨_, _, rfl, W2.recd (LPl t)⟩
end Go.Proofs.YtmpcjfkfgjpebaaGreatDoor.AM
namespace Go.Proofs.YtmpcjfkfgjpebaaGreatDoor.AM
open Go Go.Proofs
attribute [local simp] fieldAddrA ld setCells stA skipV appendA hd makeA bnd kindA freshA killOk loadsAt edgesOn Region.binds newT empT lay_get allocA buildA buildRow lenA els indexAddrA isNil opA evA lit_int lit_bool lit_nil lit_nilf yldA binI unA pickA boolV intV fieldA mk eqs nilC mayP
theorem index32_c (orc : Orc) (s : Str) (h : Heap) (c : Nat) : callA mZ orc 110 [S s, S [32]] h c = some (I (Lib.indexByte s 32), h, c) := extA (g := gIndex) rfl (fun _ => rfl) rfl rfl h c
theorem HL.rest {B0 : Blk} {p : LP} {rest : Str} {h : Heap} {c : Nat} {l : List Int} (W : HL B0 p rest h c l) (rest' : Str) : HL B0 p rest' (h.put 4 (some ⟨1, [[S rest']], some 9⟩)) c l := by
  obtain ⟨v, v1, v2, v3⟩ := W.v
  refine ⟨⟨v, by simpa using v1, v2.frame (Nat.le_refl _) fun m hm _ => ?_, v3⟩, by simpa using W.b0, by simpa using W.b1, by simpa using W.b2, by simp, by simpa using W.b5, by simpa using W.b6, by simpa using W.b7, W.hc⟩
  have := v3 m hm
  rw [put_get, if_neg (by omega)]
abbrev txt (ns : List Int) : Str := Lib.join (ns.map Lib.itoa) [32]
def LdO (B0 : Blk) (t : Nat → AV) (l : List Int) (o : Option (AV × Heap × Nat)) : Prop := ∃ rest h' c', o = some (.tup [], h', c') ∧ HL B0 (LPl t) rest h' c' l
theorem iter_l {B0 : Blk} {t : Nat → AV} {h : Heap} {c : Nat} {ns : List Int} (W : HL B0 (LPl t) (txt ns) h c []) (h7 : t 7 = .ptr 3 0 0) (hne : ns ≠ []) (hr : ∀ n ∈ ns, -10000000000 < n ∧ n < 10000000000) (hl : ns.length ≤ 100) :
    LdO B0 t ns (run Tryz.prog mZ 108 [.yld 7, .ptr 5 0 0, .ptr 4 0 0, .ptr 6 0 0] h c) := by
  rw [run_eq (show mZ 108 = some .heap from rfl) rfl, Tryz.func108]
  have b5 := W.b5
  simp -implicitDefEqProofs [Tryz.f108, b5, Option.bind_assoc, -decide_eq_true_eq, -decide_eq_false_iff_not, -List.any_eq_true, -List.any_eq_false, -bne_iff_ne, -beq_iff_eq, -beq_eq_false_iff_ne, -bne_eq_false_iff_eq]
  refine loop_to (R := LdO B0 t ns) (fun kk st => ∃ (dn : List Int) (n : Int) (r : List Int), kk = r.length ∧ ns = dn ++ n :: r ∧ st.t 0 = .yld 7 ∧ st.t 1 = .ptr 5 0 0 ∧ st.t 2 = .ptr 4 0 0 ∧ st.t 3 = .ptr 6 0 0 ∧ HL B0 (LPl t) (txt (n :: r)) st.h st.c dn)
    (fun e st => e = .exit 2 ∧ ∃ (dn : List Int) (n : Int), ns = dn ++ [n] ∧ st.t 0 = .yld 7 ∧ st.t 2 = .ptr 4 0 0 ∧ HL B0 (LPl t) (Lib.itoa n) st.h st.c dn) ?_ ?_ (ns.length - 1) _ ?_
  · rintro kk ⟨t1, h1, c1⟩ ⟨dn, n, r, rfl, hns, a0, a1, a2, a3, W1⟩
    simp only at a0 a1 a2 a3 W1
    have b4 := W1.b4
    have b5 := W1.b5
    have b6 := W1.b6
    have e110 := fun s h c => index32_c (run Tryz.prog mZ) s h c
    obtain ⟨r1, r2⟩ := hr n (by rw [hns]; simp)
    cases r with
    | nil =>
      have hj : txt [n] = Lib.itoa n := Lib.join_one _ _
      rw [hj] at b4 W1
      have hi := idx_none (Lib.itoa n) itoa_digit
      simp -implicitDefEqProofs [a0, a1, a2, a3, b4, b5, b6, e110, hi, to_normal, to_exit, to_ret, -decide_eq_true_eq, -decide_eq_false_iff_not, -List.any_eq_true, -List.any_eq_false, -bne_iff_ne, -beq_iff_eq, -beq_eq_false_iff_ne, -bne_eq_false_iff_eq]
      exact ⟨dn, n, hns, W1⟩
    | cons m r =>
      have hj : txt (n :: m :: r) = Lib.itoa n ++ 32 :: txt (m :: r) := join_two _ _ _
      rw [hj] at b4 W1
      have hi := idx_app (Lib.itoa n) (txt (m :: r)) itoa_digit
      have hlen := itoa_len r1 r2
      obtain ⟨k, hk⟩ : ∃ k, k = (Lib.itoa n).length := ⟨_, rfl⟩
      rw [← hk] at hi hlen
      have w0 : IntKind.i64.wrap (k : Int) = (k : Int) := wrap_id (by omega) (by omega)
      have w1 : IntKind.i64.wrap ((k : Int) + 1) = ((k + 1 : Nat) : Int) := wrap_succ (by omega)
      have ht : (Lib.itoa n ++ 32 :: txt (m :: r)).take k = Lib.itoa n := by rw [hk]; simp
      have hd : (Lib.itoa n ++ 32 :: txt (m :: r)).drop (k + 1) = txt (m :: r) := by rw [hk, ← List.drop_drop]; simp
      have hL : k ≤ (Lib.itoa n ++ 32 :: txt (m :: r)).length := by rw [hk]; simp
      have hL1 : k + 1 ≤ (Lib.itoa n ++ 32 :: txt (m :: r)).length := by rw [hk]; simp
      obtain ⟨h2, c2, e2, W2⟩ := round_l W1 h7 r1 r2 (by rw [hns] at hl; simp at hl; omega)
      generalize Lib.itoa n ++ 32 :: txt (m :: r) = T at *
      have b4' := W2.b4
      have b5' := W2.b5
      have g0 : decide ((k : Int) < 0) = false := by simp
      have gk1 : (0 : Int) ≤ (k : Int) + 1 := by omega
      have hLi : (k : Int) ≤ (T.length : Int) := by omega
      have hLi1 : (k : Int) + 1 ≤ (T.length : Int) := by omega
      simp -implicitDefEqProofs [a0, a1, a2, a3, b4, b5, b6, e110, hi, w0, w1, ht, hd, hL, hL1, hLi, hLi1, g0, gk1, md_rnd, e2, b4', b5', to_normal, to_exit, to_ret, -decide_eq_true_eq, -decide_eq_false_iff_not, -List.any_eq_true, -List.any_eq_false, -bne_iff_ne, -beq_iff_eq, -beq_eq_false_iff_ne, -bne_eq_false_iff_eq]
      exact ⟨r.length, by simp, dn ++ [n], m, r, rfl, by rw [hns]; simp, W2.rest _⟩
  · rintro e ⟨t1, h1, c1⟩ ⟨rfl, dn, n, hns, a0, a2, W1⟩
    simp only at a0 a2 W1
    have b4 := W1.b4
    obtain ⟨r1, r2⟩ := hr n (by rw [hns]; simp)
    obtain ⟨h2, c2, e2, W2⟩ := round_l W1 h7 r1 r2 (by rw [hns] at hl; simp at hl; omega)
    simp -implicitDefEqProofs [a0, a2, b4, md_rnd, e2, -decide_eq_true_eq, -decide_eq_false_iff_not, -List.any_eq_true, -List.any_eq_false, -bne_iff_ne, -beq_iff_eq, -beq_eq_false_iff_ne, -bne_eq_false_iff_eq]
    rw [hns]
    exact ⟨_, _, _, rfl, W2⟩
  · obtain ⟨n, r, rfl⟩ : ∃ n r, ns = n :: r := by
      cases ns with
      | nil => exact absurd rfl hne
      | cons n r => exact ⟨n, r, rfl⟩
    exact ⟨[], n, r, by simp, by simp, by simp, by simp, by simp, by simp, W⟩
end Go.Proofs.YtmpcjfkfgjpebaaGreatDoor.AM
namespace Go.Proofs.YtmpcjfkfgjpebaaGreatDoor.AM
open Go Go.Proofs
attribute [local simp] fieldAddrA ld setCells stA skipV appendA hd makeA bnd kindA freshA killOk loadsAt edgesOn Region.binds newT empT lay_get allocA buildA buildRow lenA els indexAddrA isNil opA evA lit_int lit_bool lit_nil lit_nilf yldA binI unA pickA boolV intV fieldA mk eqs nilC mayP
def QL (B0 : Blk) (t : Nat → AV) (ns : List Int) (y : Ex × St) : Prop := y.1 = .normal ∧ y.2.t = t ∧ 8 ≤ y.2.c ∧ y.2.h 0 = some B0 ∧ y.2.h 1 = some ⟨5, [[I 0, .ro true [], I 0, I 0, B false]], some 32⟩ ∧ y.2.h 2 = some ⟨1, [[E 0]], some 27⟩ ∧ ∃ v, y.2.h 3 = some ⟨1, [[v]], some 30⟩ ∧ OutG 1 3 y.2.h y.2.c v (nums ns) ∧ ∀ m, nm v = some m → 8 ≤ m
theorem rng_l {B0 : Blk} {t : Nat → AV} {h : Heap} {ns : List Int} (W : HL B0 (LPl t) (txt ns) (h.put 7 (some (LPl t).blk)) 8 []) (h7 : t 7 = .ptr 3 0 0) (hne : ns ≠ []) (hr : ∀ n ∈ ns, -10000000000 < n ∧ n < 10000000000) (hl : ns.length ≤ 100) :
    ∃ y, rngA mZ (run Tryz.prog mZ) (.fn 108 [.ptr 5 0 0, .ptr 4 0 0, .ptr 6 0 0]) [20] ldA ldB ⟨t, h, 7⟩ = some y ∧ QL B0 t ns y := by
  rw [rngA_fn rfl]
  obtain ⟨rest, h', c', e, W'⟩ := iter_l W h7 hne hr hl
  simp only
  rw [e, Option.bind_some]
  simp only [W'.b7, lpOf_blk, Option.bind_some, isPan_tup, Bool.false_eq_true, if_false]
  rw [if_neg (by simp [Ex.isPan])]
  obtain ⟨v, v1, v2, v3⟩ := W'.v
  refine ⟨_, rfl, rfl, rfl, W'.hc, by simpa using W'.b0, by simpa using W'.b1, by simpa using W'.b2, v, by simpa using v1, v2.frame (Nat.le_refl _) fun m hm _ => ?_, v3⟩
  have := v3 m hm
  simp only
  rw [put_get, if_neg (by omega)]
end Go.Proofs.YtmpcjfkfgjpebaaGreatDoor.AM
namespace Go.Proofs.YtmpcjfkfgjpebaaGreatDoor.AM
open Go Go.Proofs
attribute [local simp] fieldAddrA ld setCells stA skipV appendA hd makeA bnd kindA freshA killOk loadsAt edgesOn Region.binds newT empT lay_get allocA buildA buildRow lenA els indexAddrA isNil opA evA lit_int lit_bool lit_nil lit_nilf yldA binI unA pickA boolV intV fieldA mk eqs nilC mayP
section
variable {nb cb : Bool} {names : List Str} {code : List Ln} {r : Rn}
def LoadO (r : Rn) (o : Option (AV × Heap × Nat)) : Prop := ∃ v h c, o = some (.tup [v, E 0], h, c) ∧ frz h 11 v = some r.av
theorem load_ev (F : FrzC code) (V : ValidP names code) (R : RunOk names code r) : LoadO r (run Tryz.prog mZ 21 [progV nb cb names code, S (saveP r)] Heap.none 0) := by
  rw [run_eq (show mZ 21 = some .pure from rfl) rfl, Tryz.func21]
  have e9 := fun h c => validate_c (nb := nb) (cb := cb) F V h c
  have e42 : ∀ (s : Str) (h : Heap) (c : Nat), callA mZ (run Tryz.prog mZ) 42 [S s, S [32]] h c = some (.fn 108 [.ptr (c + 1) 0 0, .ptr c 0 0, .ptr (c + 2) 0 0], ((h.put c (some ⟨1, [[S s]], some 9⟩)).put (c + 1) (some ⟨1, [[S [32]]], some 9⟩)).put (c + 2) (some ⟨1, [[I 0]], some 3⟩), c + 3) := by
    intro s h c
    have e74 : callA mZ (run Tryz.prog mZ) 74 [S s, S [32], I 0] h c = some (.fn 108 [.ptr (c + 1) 0 0, .ptr c 0 0, .ptr (c + 2) 0 0], ((h.put c (some ⟨1, [[S s]], some 9⟩)).put (c + 1) (some ⟨1, [[S [32]]], some 9⟩)).put (c + 2) (some ⟨1, [[I 0]], some 3⟩), c + 3) := by
      rw [call_heap rfl, run_eq (show mZ 74 = some .heap from rfl) rfl, Tryz.func74]
      simp -implicitDefEqProofs [Tryz.f74, -decide_eq_true_eq, -decide_eq_false_iff_not, -List.any_eq_true, -List.any_eq_false, -bne_iff_ne, -beq_iff_eq, -beq_eq_false_iff_ne, -bne_eq_false_iff_eq]
    rw [call_heap rfl, run_eq (show mZ 42 = some .heap from rfl) rfl, Tryz.func42]
    simp -implicitDefEqProofs [Tryz.f42, e74, -decide_eq_true_eq, -decide_eq_false_iff_not, -List.any_eq_true, -List.any_eq_false, -bne_iff_ne, -beq_iff_eq, -beq_eq_false_iff_ne, -bne_eq_false_iff_eq]
  have hrng := valsS_rng V R
  simp -implicitDefEqProofs [Tryz.f21, e9, e42, Option.bind_assoc, -decide_eq_true_eq, -decide_eq_false_iff_not, -List.any_eq_true, -List.any_eq_false, -bne_iff_ne, -beq_iff_eq, -beq_eq_false_iff_ne, -bne_eq_false_iff_eq]
  have hne : valsS r ≠ [] := by unfold valsS; simp
  have hvl := R.vl
  have hn16 := V.n16
  have hl : (valsS r).length ≤ 100 := by unfold valsS; simp; omega
  refine bind_to (QL (pgB nb cb names code) _ (valsS r)) (rng_l ⟨⟨.ro true [], by simp, .inl ⟨rfl, rfl⟩, fun m hm => by cases hm⟩, by simp, by simp, by simp, by simp [saveP], by simp, by simp, by simp, by omega⟩ (by simp) hne hrng hl) ?_
  rintro ⟨e, t, h, c⟩ ⟨rfl, rfl, hc, b0, b1, b2, v, b3, O, hv⟩
  simp only at hc b0 b1 b2 b3 O
  rcases O with ⟨_, he⟩ | ⟨n, rfl, _, hnc, hb⟩
  · simp [valsS] at he
  have hn8 : 8 ≤ n := hv n rfl
  have e33 : ∀ (h' : Heap) (c' : Nat) (X : AV), frz h' 11 X = some (.ro false (nums r.vs)) → callA mZ (run Tryz.prog mZ) 33 [progV nb cb names code, .agg [I r.at_, X, I r.x, I r.y, B r.z]] h' c' = some (E 0, h', c') := by
    intro h' c' X hX
    obtain ⟨h2, c2, e⟩ := fits_ev (nb := nb) (cb := cb) F V R
    refine call_of (vs := [progV nb cb names code, r.av]) rfl ?_ e rfl rfl
    have q : frz h' depth (.agg [I r.at_, X, I r.x, I r.y, B r.z]) = some r.av := by
      show (([I r.at_, X, I r.x, I r.y, B r.z] : List AV).mapM (frz h' 11)).map AV.agg = _
      simp only [List.mapM_cons, List.mapM_nil, hX]
      rfl
    simp only [List.mapM_cons, List.mapM_nil, q]
    rfl
  obtain ⟨at0, vs, x, y, z⟩ := r
  simp only [valsS, nums, List.map_cons, List.length_cons, List.length_map] at b3 hb e33
  have u0 : (0 : Nat) ≠ c := by omega
  have u1 : (1 : Nat) ≠ c := by omega
  have u2 : (2 : Nat) ≠ c := by omega
  have u3 : (3 : Nat) ≠ c := by omega
  have u4 : (n : Nat) ≠ c := by omega
  have u5 : (n : Nat) ≠ 1 := by omega
  have u6 : (n : Nat) ≠ 2 := by omega
  have x0 : (c : Nat) ≠ 0 := by omega
  have x1 : (c : Nat) ≠ 1 := by omega
  have x2 : (c : Nat) ≠ 2 := by omega
  have x3 : (c : Nat) ≠ 3 := by omega
  have x4 : (c : Nat) ≠ n := by omega
  have x5 : (1 : Nat) ≠ n := by omega
  have x6 : (2 : Nat) ≠ n := by omega
  cases vs with
  | nil =>
    have eE := fun h' c' => e33 h' c' (.ro false []) rfl
    cases z
    · simp -implicitDefEqProofs [b0, b1, b2, b3, hb, eE, sliceA, u0, u1, u2, u3, u4, u5, u6, x0, x1, x2, x3, x4, x5, x6, -decide_eq_true_eq, -decide_eq_false_iff_not, -List.any_eq_true, -List.any_eq_false, -bne_iff_ne, -beq_iff_eq, -beq_eq_false_iff_ne, -bne_eq_false_iff_eq]
      exact ⟨_, _, _, rfl, rfl⟩
    · simp -implicitDefEqProofs [b0, b1, b2, b3, hb, eE, sliceA, u0, u1, u2, u3, u4, u5, u6, x0, x1, x2, x3, x4, x5, x6, -decide_eq_true_eq, -decide_eq_false_iff_not, -List.any_eq_true, -List.any_eq_false, -bne_iff_ne, -beq_iff_eq, -beq_eq_false_iff_ne, -bne_eq_false_iff_eq]
      exact ⟨_, _, _, rfl, rfl⟩
  | cons v0 vs =>
    obtain ⟨L, hL⟩ : ∃ L, L = (v0 :: vs).length + 1 + 1 + 1 + 1 := ⟨_, rfl⟩
    rw [← hL] at b3
    simp only [List.length_cons] at hL
    have eX : ∀ (h' : Heap) (d : Nat), h' n = h n → frz h' (d + 2) (.sl n 1 4 (L - 4)) = some (.ro false (nums (v0 :: vs))) := by
      intro h' d hh
      have hel : els h' (.sl n 1 4 (L - 4)) = some (nums (v0 :: vs)) := by
        rw [show L - 4 = vs.length + 1 by omega]
        simp [els, hh, hb]
        exact ⟨by omega, List.take_of_length_le (by simp)⟩
      show ((els h' (.sl n 1 4 (L - 4))).bind fun es => (es.mapM fun (e : List AV) => e.mapM (frz h' (d + 1))).map (AV.ro false)) = _
      rw [hel, Option.bind_some, frzN]
      rfl
    have eE := fun h' c' hh => e33 h' c' (.sl n 1 4 (L - 4)) (eX h' 9 hh)
    have kl : decide ((L : Int) < 4) = false := by simp; omega
    have p0 : 0 < L := by omega
    have p1 : (1 : Int) < (L : Int) := by omega
    have p2 : (2 : Int) < (L : Int) := by omega
    have p3 : (3 : Int) < (L : Int) := by omega
    have p4 : (4 : Int) ≤ (L : Int) := by omega
    have p5 : 4 < L := by omega
    clear hL
    cases z
    · simp -implicitDefEqProofs [b0, b1, b2, b3, hb, eE, sliceA, kl, p0, p1, p2, p3, p4, p5, u0, u1, u2, u3, u4, u5, u6, x0, x1, x2, x3, x4, x5, x6, -decide_eq_true_eq, -decide_eq_false_iff_not, -List.any_eq_true, -List.any_eq_false, -bne_iff_ne, -beq_iff_eq, -beq_eq_false_iff_ne, -bne_eq_false_iff_eq]
      refine ⟨_, _, _, rfl, ?_⟩
      rw [frz_agg]
      simp only [List.mapM_cons, List.mapM_nil]
      rw [eX _ 8 (by simp [u0, u1, u2, u3, u4, u5, u6, x4, x5, x6])]
      rfl
    · simp -implicitDefEqProofs [b0, b1, b2, b3, hb, eE, sliceA, kl, p0, p1, p2, p3, p4, p5, u0, u1, u2, u3, u4, u5, u6, x0, x1, x2, x3, x4, x5, x6, -decide_eq_true_eq, -decide_eq_false_iff_not, -List.any_eq_true, -List.any_eq_false, -bne_iff_ne, -beq_iff_eq, -beq_eq_false_iff_ne, -bne_eq_false_iff_eq]
      refine ⟨_, _, _, rfl, ?_⟩
      rw [frz_agg]
      simp only [List.mapM_cons, List.mapM_nil]
      rw [eX _ 8 (by simp [u0, u1, u2, u3, u4, u5, u6, x4, x5, x6])]
      rfl
theorem load_c (F : FrzC code) (V : ValidP names code) (R : RunOk names code r) (h : Heap) (c : Nat) : callA mZ (run Tryz.prog mZ) 21 [progV nb cb names code, S (saveP r)] h c = some (.tup [r.av, E 0], h, c) := by
  obtain ⟨v, h', c', e, f⟩ := load_ev (nb := nb) (cb := cb) F V R
  have q : frz h' depth (.tup [v, E 0]) = some (.tup [r.av, E 0]) := by
    show (([v, E 0] : List AV).mapM (frz h' 11)).map AV.tup = _
    simp only [List.mapM_cons, List.mapM_nil, f]
    rfl
  exact call_fz rfl rfl rfl e q
end
end Go.Proofs.YtmpcjfkfgjpebaaGreatDoor.AM
namespace Go.Proofs.YtmpcjfkfgjpebaaGreatDoor.AM
open Go Go.Proofs
attribute [local simp] fieldAddrA ld setCells stA skipV appendA hd makeA bnd kindA freshA killOk loadsAt edgesOn Region.binds newT empT lay_get allocA buildA buildRow lenA els indexAddrA isNil opA evA lit_int lit_bool lit_nil lit_nilf yldA binI unA pickA boolV intV fieldA mk eqs nilC mayP
section
variable {nb cb : Bool} {names : List Str} {code : List Ln} {r : Rn}
def LC (nb cb : Bool) (names : List Str) (code : List Ln) (b1 b2 : Bool) (xs ys : List Int) (n : Int) (kk : Nat) (st : St) : Prop := ∃ (i g s : Nat) (r r0 : Rn), kk = 60 - i ∧ i ≤ 60 ∧ g ≤ i ∧ s ≤ 100000 ∧ RunOk names code r ∧ RunOk names code r0 ∧ Path code r0 s r ∧ st.t 1 = .ro b1 (nums xs) ∧ st.t 2 = .ro b2 (nums ys) ∧ st.t 3 = .val (.int .u8 n) ∧ st.t 9 = .ptr 0 0 0 ∧ st.t 12 = .ptr 1 0 0 ∧ st.t 14 = .ptr 2 0 0 ∧ st.t 16 = I s ∧ st.t 17 = I g ∧ st.t 18 = I i ∧
  st.h 0 = some (pgB nb cb names code) ∧ st.h 1 = some (rvB r) ∧ st.h 2 = some (rvB r0) ∧ 3 ≤ st.c
theorem scut_ev (s : Str) (b1 b2 : Bool) (xs ys : List Int) (n : Int) (hn : 0 ≤ n ∧ n < 256) : TOut (run Tryz.prog mZ 5 [S s, .ro b1 (nums xs), .ro b2 (nums ys), .val (.int .u8 n)] Heap.none 0) := by
  rw [run_eq (show mZ 5 = some .pure from rfl) rfl, Tryz.func5]
  have e6 := known_z
  cases g0 : decide (30000 < (s.length : Int))
  rotate_left
  · simp -implicitDefEqProofs [Tryz.f5, g0, e6, -decide_eq_true_eq, -decide_eq_false_iff_not, -List.any_eq_true, -List.any_eq_false, -bne_iff_ne, -beq_iff_eq, -beq_eq_false_iff_ne, -bne_eq_false_iff_eq]
    exact ⟨_, _, rfl⟩
  cases g1 : decide (300 < (xs.length : Int))
  rotate_left
  · simp -implicitDefEqProofs [Tryz.f5, g0, g1, e6, -decide_eq_true_eq, -decide_eq_false_iff_not, -List.any_eq_true, -List.any_eq_false, -bne_iff_ne, -beq_iff_eq, -beq_eq_false_iff_ne, -bne_eq_false_iff_eq]
    exact ⟨_, _, rfl⟩
  cases g2 : decide (300 < (ys.length : Int))
  rotate_left
  · simp -implicitDefEqProofs [Tryz.f5, g0, g1, g2, e6, -decide_eq_true_eq, -decide_eq_false_iff_not, -List.any_eq_true, -List.any_eq_false, -bne_iff_ne, -beq_iff_eq, -beq_eq_false_iff_ne, -bne_eq_false_iff_eq]
    exact ⟨_, _, rfl⟩
  have g0' : s.length ≤ 30000 := by rw [decide_eq_false_iff_not] at g0; omega
  have hxs : xs.length ≤ 300 := by rw [decide_eq_false_iff_not] at g1; omega
  have hys : ys.length ≤ 300 := by rw [decide_eq_false_iff_not] at g2; omega
  obtain ⟨o, hC, e7⟩ := compile_c s (by omega)
  obtain ⟨pv, line, e, rfl, H⟩ := hC
  rcases H with ⟨he, rfl⟩ | ⟨rfl, nb, cb, names, code, rfl, F, V⟩
  · have k1 : (e != 0) = true := by simpa using he
    simp -implicitDefEqProofs [Tryz.f5, g0, g1, g2, e6, e7, k1, -decide_eq_true_eq, -decide_eq_false_iff_not, -List.any_eq_true, -List.any_eq_false, -bne_iff_ne, -beq_iff_eq, -beq_eq_false_iff_ne, -bne_eq_false_iff_eq]
    exact ⟨_, _, rfl⟩
  have e8 := fun h c => start_c (nb := nb) (cb := cb) F V h c
  have hcv : ∀ h, convA Tryz.prog 5 3 h (.val (.int .u8 n)) = some (I n) := by
    intro h
    have w : IntKind.i64.wrap n = n := wrap_id (by omega) (by omega)
    simp [convA, w]
  simp -implicitDefEqProofs [Tryz.f5, g0, g1, g2, e6, e7, e8, Option.bind_assoc, -decide_eq_true_eq, -decide_eq_false_iff_not, -List.any_eq_true, -List.any_eq_false, -bne_iff_ne, -beq_iff_eq, -beq_eq_false_iff_ne, -bne_eq_false_iff_eq]
  refine loop_to (R := TOut) (LC nb cb names code b1 b2 xs ys n) (fun e st => e = .exit 0 ∨ (e = .ret ∧ st.t 8 = B true)) ?_ ?_ 60 _ ?_
  · rintro kk ⟨t, h, c⟩ ⟨i, g, s, r, r0, rfl, hi, hgi, hs, R, R0, P, a1, a2, a3, a9, a12, a14, a16, a17, a18, y0, y1, y2, hc⟩
    simp only at a1 a2 a3 a9 a12 a14 a16 a17 a18 y0 y1 y2 hc
    have hm0 : 0 ≤ n.tmod 60 := Int.tmod_nonneg _ hn.1
    have hm1 : n.tmod 60 < 60 := Int.tmod_lt_of_pos _ (by omega)
    by_cases gi : (i : Int) < n.tmod 60
    rotate_left
    · have k1 : decide ((i : Int) < n.tmod 60) = false := by simpa using gi
      simp -implicitDefEqProofs [a1, a2, a3, a9, a12, a14, a16, a17, a18, hcv, k1, to_normal, to_exit, to_ret, -decide_eq_true_eq, -decide_eq_false_iff_not, -List.any_eq_true, -List.any_eq_false, -bne_iff_ne, -beq_iff_eq, -beq_eq_false_iff_ne, -bne_eq_false_iff_eq]
    have k1 : decide ((i : Int) < n.tmod 60) = true := by simpa using gi
    have w1 : IntKind.i64.wrap ((i : Int) + 1) = ((i + 1 : Nat) : Int) := wrap_succ (by omega)
    have w2 : IntKind.i64.wrap ((g : Int) + 1) = ((g + 1 : Nat) : Int) := wrap_succ (by omega)
    have w3 : IntKind.i64.wrap (100000 - (s : Int)) = 100000 - (s : Int) := wrap_id (by omega) (by omega)
    obtain ⟨v, e11⟩ := number_c b1 xs hxs i (by omega)
    obtain ⟨w, e11'⟩ := number_c b2 ys hys g (by omega)
    have v0 : (c : Nat) ≠ c + 1 := by omega
    have v1 : (c : Nat) ≠ c + 1 + 1 := by omega
    have v2 : (c : Nat) ≠ c + 1 + 1 + 1 := by omega
    have v3 : (c + 1 : Nat) ≠ c := by omega
    have v4 : (c + 1 : Nat) ≠ c + 1 + 1 := by omega
    have v5 : (c + 1 : Nat) ≠ c + 1 + 1 + 1 := by omega
    have v6 : (c + 1 + 1 : Nat) ≠ c := by omega
    have v7 : (c + 1 + 1 : Nat) ≠ c + 1 := by omega
    have v8 : (c + 1 + 1 : Nat) ≠ c + 1 + 1 + 1 := by omega
    have v9 : (c + 1 + 1 + 1 : Nat) ≠ c := by omega
    have v10 : (c + 1 + 1 + 1 : Nat) ≠ c + 1 := by omega
    have v11 : (c + 1 + 1 + 1 : Nat) ≠ c + 1 + 1 := by omega
    have v12 : (c : Nat) ≠ 0 := by omega
    have v13 : (c : Nat) ≠ 1 := by omega
    have v14 : (c : Nat) ≠ 2 := by omega
    have v15 : (c + 1 : Nat) ≠ 0 := by omega
    have v16 : (c + 1 : Nat) ≠ 1 := by omega
    have v17 : (c + 1 : Nat) ≠ 2 := by omega
    have v18 : (c + 1 + 1 : Nat) ≠ 0 := by omega
    have v19 : (c + 1 + 1 : Nat) ≠ 1 := by omega
    have v20 : (c + 1 + 1 : Nat) ≠ 2 := by omega
    have v21 : (c + 1 + 1 + 1 : Nat) ≠ 0 := by omega
    have v22 : (c + 1 + 1 + 1 : Nat) ≠ 1 := by omega
    have v23 : (c + 1 + 1 + 1 : Nat) ≠ 2 := by omega
    have z0 : (0 : Nat) ≠ c := by omega
    have z1 : (1 : Nat) ≠ c := by omega
    have z2 : (2 : Nat) ≠ c := by omega
    have z3 : (0 : Nat) ≠ c + 1 := by omega
    have z4 : (1 : Nat) ≠ c + 1 := by omega
    have z5 : (2 : Nat) ≠ c + 1 := by omega
    have z6 : (0 : Nat) ≠ c + 1 + 1 := by omega
    have z7 : (1 : Nat) ≠ c + 1 + 1 := by omega
    have z8 : (2 : Nat) ≠ c + 1 + 1 := by omega
    have z9 : (0 : Nat) ≠ c + 1 + 1 + 1 := by omega
    have z10 : (1 : Nat) ≠ c + 1 + 1 + 1 := by omega
    have z11 : (2 : Nat) ≠ c + 1 + 1 + 1 := by omega
    have cz : c ≠ 0 := by omega
    have lz : ¬ (c + 1 ≤ c) := by omega
    by_cases hv : 0 ≤ v ∧ v ≤ 100000
    rotate_left
    · have hv' : v < 0 ∨ 100000 < v := by omega
      have e13 := fun h c => go_bad (nb := nb) (cb := cb) F V R v hv' h c
      simp -implicitDefEqProofs [a1, a2, a3, a9, a12, a14, a16, a17, a18, y0, y1, y2, hcv, k1, w1, e11, e13, v0, v1, v2, v3, v4, v5, v6, v7, v8, v9, v10, v11, v12, v13, v14, v15, v16, v17, v18, v19, v20, v21, v22, v23, z0, z1, z2, z3, z4, z5, z6, z7, z8, z9, z10, z11, lz, to_normal, to_exit, to_ret, -decide_eq_true_eq, -decide_eq_false_iff_not, -List.any_eq_true, -List.any_eq_false, -bne_iff_ne, -beq_iff_eq, -beq_eq_false_iff_ne, -bne_eq_false_iff_eq]
      exact ⟨60 - (i + 1), by omega, i + 1, g, s, r, r0, rfl, by omega, by omega, hs, R, R0, P, by simp [a1], by simp [a2], by simp [a3], by simp [a9], by simp [a12], by simp [a14], by simp [a16], by simp [a17], by simp, by simp [v0, v1, v2, v3, v4, v5, v6, v7, v8, v9, v10, v11, v12, v13, v14, v15, v16, v17, v18, v19, v20, v21, v22, v23, z0, z1, z2, z3, z4, z5, z6, z7, z8, z9, z10, z11, lz, cz, y0], by simp [v0, v1, v2, v3, v4, v5, v6, v7, v8, v9, v10, v11, v12, v13, v14, v15, v16, v17, v18, v19, v20, v21, v22, v23, z0, z1, z2, z3, z4, z5, z6, z7, z8, z9, z10, z11, lz, cz, y1], by simp [v0, v1, v2, v3, v4, v5, v6, v7, v8, v9, v10, v11, v12, v13, v14, v15, v16, v17, v18, v19, v20, v21, v22, v23, z0, z1, z2, z3, z4, z5, z6, z7, z8, z9, z10, z11, lz, cz, y2], by simp only; omega⟩
    obtain ⟨tN, rfl⟩ : ∃ tN : Nat, v = tN := ⟨v.toNat, by omega⟩
    obtain ⟨f2, e13⟩ := go_c (nb := nb) (cb := cb) F V R tN (by omega)
    obtain ⟨R', hy'⟩ := goF_ok V (t := tN) R
    have hlen := goF_len V tN r
    obtain ⟨hle, hP⟩ := goF_piece V (t := tN) R P
    obtain ⟨r', hr'⟩ : ∃ r', (goF code tN r).1 = r' := ⟨_, rfl⟩
    obtain ⟨e', he'⟩ : ∃ e', (goF code tN r).2.1 = e' := ⟨_, rfl⟩
    obtain ⟨s', hs'⟩ : ∃ s', (goF code tN r).2.2 = s' := ⟨_, rfl⟩
    simp only [hr', he', hs'] at R' hy' e13 hlen hle hP
    have hn16 := V.n16
    have hvl' := R'.vl
    have q1 : decide (tN < s') = false := by simp; omega
    have q2 : decide ((s' : Int) < 0) = false := by simp
    by_cases hq : 100000 - (s : Int) < (s' : Int)
    · have q3 : decide (100000 - (s : Int) < (s' : Int)) = true := by simpa using hq
      simp -implicitDefEqProofs [a1, a2, a3, a9, a12, a14, a16, a17, a18, y0, y1, y2, hcv, k1, w1, w3, e6, e11, e13, q1, q2, q3, v0, v1, v2, v3, v4, v5, v6, v7, v8, v9, v10, v11, v12, v13, v14, v15, v16, v17, v18, v19, v20, v21, v22, v23, z0, z1, z2, z3, z4, z5, z6, z7, z8, z9, z10, z11, lz, to_normal, to_exit, to_ret, -decide_eq_true_eq, -decide_eq_false_iff_not, -List.any_eq_true, -List.any_eq_false, -bne_iff_ne, -beq_iff_eq, -beq_eq_false_iff_ne, -bne_eq_false_iff_eq]
    have q3 : decide (100000 - (s : Int) < (s' : Int)) = false := by simpa using hq
    obtain ⟨S, hS⟩ : ∃ S : Nat, S = s + s' := ⟨_, rfl⟩
    have w4 : IntKind.i64.wrap ((s : Int) + (s' : Int)) = (S : Int) := by rw [wrap_id (by omega) (by omega)]; omega
    rw [← hS] at hP
    have e20 := fun h c => save_c (nb := nb) (cb := cb) F V R' h c
    have e21 := fun h c => load_c (nb := nb) (cb := cb) F V R' h c
    rcases hP with ⟨hk0, P'⟩ | ⟨hk0, hG⟩
    · have hk : (e'.k == 0) = true := by simpa using hk0
      simp -implicitDefEqProofs [a1, a2, a3, a9, a12, a14, a16, a17, a18, y0, y1, y2, hcv, k1, w1, w3, w4, e6, e11, e13, e20, e21, q1, q2, q3, hk, v0, v1, v2, v3, v4, v5, v6, v7, v8, v9, v10, v11, v12, v13, v14, v15, v16, v17, v18, v19, v20, v21, v22, v23, z0, z1, z2, z3, z4, z5, z6, z7, z8, z9, z10, z11, lz, to_normal, to_exit, to_ret, -decide_eq_true_eq, -decide_eq_false_iff_not, -List.any_eq_true, -List.any_eq_false, -bne_iff_ne, -beq_iff_eq, -beq_eq_false_iff_ne, -bne_eq_false_iff_eq]
      exact ⟨60 - (i + 1), by omega, i + 1, g, S, r', r0, rfl, by omega, by omega, by omega, R', R0, P', by simp [a1], by simp [a2], by simp [a3], by simp [a9], by simp [a12], by simp [a14], by simp, by simp [a17], by simp, by simp [v0, v1, v2, v3, v4, v5, v6, v7, v8, v9, v10, v11, v12, v13, v14, v15, v16, v17, v18, v19, v20, v21, v22, v23, z0, z1, z2, z3, z4, z5, z6, z7, z8, z9, z10, z11, lz, cz, y0], by simp [v0, v1, v2, v3, v4, v5, v6, v7, v8, v9, v10, v11, v12, v13, v14, v15, v16, v17, v18, v19, v20, v21, v22, v23, z0, z1, z2, z3, z4, z5, z6, z7, z8, z9, z10, z11, lz, cz, y1], by simp [v0, v1, v2, v3, v4, v5, v6, v7, v8, v9, v10, v11, v12, v13, v14, v15, v16, v17, v18, v19, v20, v21, v22, v23, z0, z1, z2, z3, z4, z5, z6, z7, z8, z9, z10, z11, lz, cz, y2], by simp only; omega⟩
    have hk : (e'.k == 0) = false := by rw [beq_eq_false_iff_ne]; exact hk0
    obtain ⟨f3, e13'⟩ := go_c (nb := nb) (cb := cb) F V R0 S (by omega)
    rw [hG] at e13'
    simp only at e13'
    have e14 := fun h c => srun_c r' (by omega) h c
    have e15 := fun h c => sev_c e' f2 f3 (by omega) h c
    by_cases hkk : e'.k = 1 ∨ e'.k = 2
    · have hy := hy' hkk
      have R2 := give_ok R' hy w
      have e16 := fun h c => give_c (nb := nb) (cb := cb) F V R' hy w h c
      generalize giveR code r' w = r2 at *
      have hk1 : (e'.k == 1) = true ∨ ((e'.k == 1) = false ∧ (e'.k == 2) = true) := by
        rcases hkk with h | h <;> simp [h]
      rcases hk1 with hk1 | ⟨hk1, hk2⟩
      · simp -implicitDefEqProofs [a1, a2, a3, a9, a12, a14, a16, a17, a18, y0, y1, y2, hcv, k1, w1, w2, w3, w4, e6, e11, e11', e13, e13', e14, e15, e16, e20, e21, q1, q2, q3, hk, hk1, v0, v1, v2, v3, v4, v5, v6, v7, v8, v9, v10, v11, v12, v13, v14, v15, v16, v17, v18, v19, v20, v21, v22, v23, z0, z1, z2, z3, z4, z5, z6, z7, z8, z9, z10, z11, lz, to_normal, to_exit, to_ret, -decide_eq_true_eq, -decide_eq_false_iff_not, -List.any_eq_true, -List.any_eq_false, -bne_iff_ne, -beq_iff_eq, -beq_eq_false_iff_ne, -bne_eq_false_iff_eq]
        exact ⟨60 - (i + 1), by omega, i + 1, g + 1, 0, r2, r2, rfl, by omega, by omega, by omega, R2, R2, .nil _, by simp [a1], by simp [a2], by simp [a3], by simp [a9], by simp [a12], by simp [a14], by simp, by simp, by simp, by simp [v0, v1, v2, v3, v4, v5, v6, v7, v8, v9, v10, v11, v12, v13, v14, v15, v16, v17, v18, v19, v20, v21, v22, v23, z0, z1, z2, z3, z4, z5, z6, z7, z8, z9, z10, z11, lz, cz, y0], by simp [v0, v1, v2, v3, v4, v5, v6, v7, v8, v9, v10, v11, v12, v13, v14, v15, v16, v17, v18, v19, v20, v21, v22, v23, z0, z1, z2, z3, z4, z5, z6, z7, z8, z9, z10, z11, lz, cz, y1], by simp [v0, v1, v2, v3, v4, v5, v6, v7, v8, v9, v10, v11, v12, v13, v14, v15, v16, v17, v18, v19, v20, v21, v22, v23, z0, z1, z2, z3, z4, z5, z6, z7, z8, z9, z10, z11, lz, cz, y2], by simp only; omega⟩
      · simp -implicitDefEqProofs [a1, a2, a3, a9, a12, a14, a16, a17, a18, y0, y1, y2, hcv, k1, w1, w2, w3, w4, e6, e11, e11', e13, e13', e14, e15, e16, e20, e21, q1, q2, q3, hk, hk1, hk2, v0, v1, v2, v3, v4, v5, v6, v7, v8, v9, v10, v11, v12, v13, v14, v15, v16, v17, v18, v19, v20, v21, v22, v23, z0, z1, z2, z3, z4, z5, z6, z7, z8, z9, z10, z11, lz, to_normal, to_exit, to_ret, -decide_eq_true_eq, -decide_eq_false_iff_not, -List.any_eq_true, -List.any_eq_false, -bne_iff_ne, -beq_iff_eq, -beq_eq_false_iff_ne, -bne_eq_false_iff_eq]
        exact ⟨60 - (i + 1), by omega, i + 1, g + 1, 0, r2, r2, rfl, by omega, by omega, by omega, R2, R2, .nil _, by simp [a1], by simp [a2], by simp [a3], by simp [a9], by simp [a12], by simp [a14], by simp, by simp, by simp, by simp [v0, v1, v2, v3, v4, v5, v6, v7, v8, v9, v10, v11, v12, v13, v14, v15, v16, v17, v18, v19, v20, v21, v22, v23, z0, z1, z2, z3, z4, z5, z6, z7, z8, z9, z10, z11, lz, cz, y0], by simp [v0, v1, v2, v3, v4, v5, v6, v7, v8, v9, v10, v11, v12, v13, v14, v15, v16, v17, v18, v19, v20, v21, v22, v23, z0, z1, z2, z3, z4, z5, z6, z7, z8, z9, z10, z11, lz, cz, y1], by simp [v0, v1, v2, v3, v4, v5, v6, v7, v8, v9, v10, v11, v12, v13, v14, v15, v16, v17, v18, v19, v20, v21, v22, v23, z0, z1, z2, z3, z4, z5, z6, z7, z8, z9, z10, z11, lz, cz, y2], by simp only; omega⟩
    · have R2 := tick_ok R'
      have e16 := fun h c => tick_c (nb := nb) (cb := cb) F V R' h c
      generalize tickR r' = r2 at *
      have hk1 : (e'.k == 1) = false := by rw [beq_eq_false_iff_ne]; exact fun h => hkk (.inl h)
      have hk2 : (e'.k == 2) = false := by rw [beq_eq_false_iff_ne]; exact fun h => hkk (.inr h)
      simp -implicitDefEqProofs [a1, a2, a3, a9, a12, a14, a16, a17, a18, y0, y1, y2, hcv, k1, w1, w2, w3, w4, e6, e11, e11', e13, e13', e14, e15, e16, e20, e21, q1, q2, q3, hk, hk1, hk2, v0, v1, v2, v3, v4, v5, v6, v7, v8, v9, v10, v11, v12, v13, v14, v15, v16, v17, v18, v19, v20, v21, v22, v23, z0, z1, z2, z3, z4, z5, z6, z7, z8, z9, z10, z11, lz, to_normal, to_exit, to_ret, -decide_eq_true_eq, -decide_eq_false_iff_not, -List.any_eq_true, -List.any_eq_false, -bne_iff_ne, -beq_iff_eq, -beq_eq_false_iff_ne, -bne_eq_false_iff_eq]
      exact ⟨60 - (i + 1), by omega, i + 1, g, 0, r2, r2, rfl, by omega, by omega, by omega, R2, R2, .nil _, by simp [a1], by simp [a2], by simp [a3], by simp [a9], by simp [a12], by simp [a14], by simp, by simp [a17], by simp, by simp [v0, v1, v2, v3, v4, v5, v6, v7, v8, v9, v10, v11, v12, v13, v14, v15, v16, v17, v18, v19, v20, v21, v22, v23, z0, z1, z2, z3, z4, z5, z6, z7, z8, z9, z10, z11, lz, cz, y0], by simp [v0, v1, v2, v3, v4, v5, v6, v7, v8, v9, v10, v11, v12, v13, v14, v15, v16, v17, v18, v19, v20, v21, v22, v23, z0, z1, z2, z3, z4, z5, z6, z7, z8, z9, z10, z11, lz, cz, y1], by simp [v0, v1, v2, v3, v4, v5, v6, v7, v8, v9, v10, v11, v12, v13, v14, v15, v16, v17, v18, v19, v20, v21, v22, v23, z0, z1, z2, z3, z4, z5, z6, z7, z8, z9, z10, z11, lz, cz, y2], by simp only; omega⟩
  · rintro e ⟨t, h, c⟩ (rfl | ⟨rfl, h8⟩)
    · simp -implicitDefEqProofs [e6, -decide_eq_true_eq, -decide_eq_false_iff_not, -List.any_eq_true, -List.any_eq_false, -bne_iff_ne, -beq_iff_eq, -beq_eq_false_iff_ne, -bne_eq_false_iff_eq]
      exact ⟨_, _, rfl⟩
    · simp only at h8
      simp -implicitDefEqProofs [h8, -decide_eq_true_eq, -decide_eq_false_iff_not, -List.any_eq_true, -List.any_eq_false, -bne_iff_ne, -beq_iff_eq, -beq_eq_false_iff_ne, -bne_eq_false_iff_eq]
      exact ⟨_, _, rfl⟩
  · exact ⟨0, 0, 0, ⟨0, zeros names.length, 0, 0, false⟩, ⟨0, zeros names.length, 0, 0, false⟩, by simp, by simp, by simp, by simp, start_ok V, start_ok V, .nil _, by simp, by simp, by simp, by simp, by simp, by simp, by simp, by simp, by simp, by simp, by simp, by simp, by simp⟩
end
theorem pure5 (x0 x1 x2 x3 : AV) (h0 : TyArg Tryz.prog 8 9 x0) (h1 : TyArg Tryz.prog 8 30 x1) (h2 : TyArg Tryz.prog 8 30 x2) (h3 : TyArg Tryz.prog 8 5 x3) : ∃ h c, run Tryz.prog mZ 5 [x0, x1, x2, x3] Heap.none 0 = some (B true, h, c) := by
  obtain ⟨s, rfl⟩ := arg9 (n := 7) h0
  obtain ⟨b1, xs, rfl⟩ := arg30 (n := 5) h1
  obtain ⟨b2, ys, rfl⟩ := arg30 (n := 5) h2
  obtain ⟨n, rfl, hn⟩ := arg5 (n := 7) h3
  exact scut_ev s b1 b2 xs ys n hn
end Go.Proofs.YtmpcjfkfgjpebaaGreatDoor.AM
