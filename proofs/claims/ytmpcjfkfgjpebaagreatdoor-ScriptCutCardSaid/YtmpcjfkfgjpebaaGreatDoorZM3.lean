/- Parts of the proof: Z39, Z40, Z41, Z42, Z43, Z44. -/
import Derived.Test.YtmpcjfkfgjpebaaGreatDoorZ38
set_option maxHeartbeats 0
set_option maxRecDepth 8000
set_option linter.unusedSimpArgs false
set_option linter.unusedVariables false
set_option linter.unusedSectionVars false
namespace Go.Proofs.YtmpcjfkfgjpebaaGreatDoor.AM
open Go Go.Proofs
attribute [local simp] fieldAddrA ld setCells stA skipV appendA hd makeA bnd kindA freshA killOk loadsAt edgesOn Region.binds newT empT lay_get allocA buildA buildRow lenA els indexAddrA isNil opA evA lit_int lit_bool lit_nil lit_nilf yldA binI unA pickA boolV intV fieldA mk eqs nilC mayP
def inR (n : Int) : Prop := -2147483647 ≤ n ∧ n ≤ 2147483647
theorem kept_id {n : Int} (h : inR n) : kept n = n := by
  unfold kept inR at *
  split <;> split <;> omega
theorem kept_in (n : Int) : inR (kept n) := by
  unfold kept inR at *
  split <;> split <;> omega
theorem okV_in {l : List Int} (h : okV l) {n : Int} (hn : n ∈ l) : inR n := by
  have := kept_in n
  rw [h n hn] at this
  exact this
theorem inR_okV {l : List Int} (h : ∀ n ∈ l, inR n) : okV l := fun n hn => kept_id (h n hn)
theorem abs_in {n : Int} : inR n ↔ n.natAbs ≤ 2147483647 := by unfold inR; omega
theorem mul_b {a b : Int} (ha : inR a) (hb : inR b) : (a * b).natAbs ≤ 4611686014132420609 := by
  rw [abs_in] at ha hb
  rw [Int.natAbs_mul]
  exact Nat.mul_le_mul ha hb
theorem tdiv_in {a b : Int} (ha : inR a) : inR (a.tdiv b) := by
  rw [abs_in] at *
  rw [Int.natAbs_tdiv]
  exact Nat.le_trans (Nat.div_le_self _ _) ha
theorem tmod_in {a b : Int} (ha : inR a) : inR (a.tmod b) := by
  rw [abs_in] at *
  rw [Int.natAbs_tmod]
  exact Nat.le_trans (Nat.mod_le _ _) ha
/-- What two numbers make. -/
def twoP (k a b : Int) : Int := if k = 2 then kept (a + b) else if k = 3 then kept (a - b) else if k = 4 then kept (a * b) else if k = 5 then (if b = 0 then 0 else a.tdiv b) else if k = 6 then (if b = 0 then 0 else a.tmod b)
  else if k = 7 then (if a < b then 1 else 0) else if k = 8 then (if a = b then 1 else 0) else if k = 11 then (if b < a then b else a) else (if b > a then b else a)
theorem twoP_in {k a b : Int} (ha : inR a) (hb : inR b) : inR (twoP k a b) := by
  unfold twoP
  split
  · exact kept_in _
  split
  · exact kept_in _
  split
  · exact kept_in _
  split
  · split
    · unfold inR; omega
    · exact tdiv_in ha
  split
  · split
    · unfold inR; omega
    · exact tmod_in ha
  split
  · split <;> (unfold inR; omega)
  split
  · split <;> (unfold inR; omega)
  split
  · split <;> assumption
  · split <;> assumption
theorem truth3_ev (b : Bool) : ∃ h c, run Tryz.prog mZ 100 [B b] Heap.none 0 = some (I (if b = true then 1 else 0), h, c) := by
  rw [run_eq (show mZ 100 = some .pure from rfl) rfl, Tryz.func100]
  cases b <;> simp -implicitDefEqProofs [Tryz.f100, -decide_eq_true_eq, -decide_eq_false_iff_not, -List.any_eq_true, -List.any_eq_false, -bne_iff_ne, -beq_iff_eq, -beq_eq_false_iff_ne, -bne_eq_false_iff_eq]
theorem truth3_c (b : Bool) (h : Heap) (c : Nat) : callA mZ (run Tryz.prog mZ) 100 [B b] h c = some (I (if b = true then 1 else 0), h, c) := by
  obtain ⟨h', c', e⟩ := truth3_ev b
  exact call_of rfl rfl e rfl rfl
theorem skept_ev (n : Int) : ∃ h c, run Tryz.prog mZ 38 [I n] Heap.none 0 = some (I (kept n), h, c) := by
  rw [run_eq (show mZ 38 = some .pure from rfl) rfl, Tryz.func38]
  simp -implicitDefEqProofs [Tryz.f38, kept, -decide_eq_true_eq, -decide_eq_false_iff_not, -List.any_eq_true, -List.any_eq_false, -bne_iff_ne, -beq_iff_eq, -beq_eq_false_iff_ne, -bne_eq_false_iff_eq]
theorem skept_c (n : Int) (h : Heap) (c : Nat) : callA mZ (run Tryz.prog mZ) 38 [I n] h c = some (I (kept n), h, c) := by
  obtain ⟨h', c', e⟩ := skept_ev n
  exact call_of rfl rfl e rfl rfl
theorem bound_ev (n : Int) : ∃ h c, run Tryz.prog mZ 39 [I n] Heap.none 0 = some (I (kept n), h, c) := by
  rw [run_eq (show mZ 39 = some .pure from rfl) rfl, Tryz.func39]
  have e : (if n < 2147483647 then n else (2147483647 : Int)) = (if 2147483647 < n then (2147483647 : Int) else n) := by split <;> split <;> omega
  simp -implicitDefEqProofs [Tryz.f39, kept, e, -decide_eq_true_eq, -decide_eq_false_iff_not, -List.any_eq_true, -List.any_eq_false, -bne_iff_ne, -beq_iff_eq, -beq_eq_false_iff_ne, -bne_eq_false_iff_eq]
theorem bound_c (n : Int) (h : Heap) (c : Nat) : callA mZ (run Tryz.prog mZ) 39 [I n] h c = some (I (kept n), h, c) := by
  obtain ⟨h', c', e⟩ := bound_ev n
  exact call_of rfl rfl e rfl rfl
/-- The kinds that take two numbers. -/
def twoK (k : Int) : Prop := k = 2 ∨ k = 3 ∨ k = 4 ∨ k = 5 ∨ k = 6 ∨ k = 7 ∨ k = 8 ∨ k = 11 ∨ k = 12
section
variable {k a b : Int}
theorem two_ev (hk : twoK k) (ha : inR a) (hb : inR b) : ∃ r h c, run Tryz.prog mZ 102 [I k, I a, I b] Heap.none 0 = some (I r, h, c) ∧ kept r = twoP k a b := by
  rw [run_eq (show mZ 102 = some .pure from rfl) rfl, Tryz.func102]
  have hm := mul_b ha hb
  have t1 := tdiv_in (b := b) ha
  have t2 := tmod_in (b := b) ha
  have e100 := fun (b : Bool) (h : Heap) (c : Nat) => truth3_c b h c
  have w1 : IntKind.i64.wrap (a + b) = a + b := by unfold inR at *; exact wrap_id (by omega) (by omega)
  have w2 : IntKind.i64.wrap (a - b) = a - b := by unfold inR at *; exact wrap_id (by omega) (by omega)
  have w3 : IntKind.i64.wrap (a * b) = a * b := wrap_id (by omega) (by omega)
  have w4 : IntKind.i64.wrap (a.tdiv b) = a.tdiv b := by unfold inR at t1; exact wrap_id (by omega) (by omega)
  rcases hk with rfl | rfl | rfl | rfl | rfl | rfl | rfl | rfl | rfl
  · simp -implicitDefEqProofs [Tryz.f102, w1, -decide_eq_true_eq, -decide_eq_false_iff_not, -List.any_eq_true, -List.any_eq_false, -bne_iff_ne, -beq_iff_eq, -beq_eq_false_iff_ne, -bne_eq_false_iff_eq]
    rfl
  · simp -implicitDefEqProofs [Tryz.f102, w2, -decide_eq_true_eq, -decide_eq_false_iff_not, -List.any_eq_true, -List.any_eq_false, -bne_iff_ne, -beq_iff_eq, -beq_eq_false_iff_ne, -bne_eq_false_iff_eq]
    rfl
  · simp -implicitDefEqProofs [Tryz.f102, w3, -decide_eq_true_eq, -decide_eq_false_iff_not, -List.any_eq_true, -List.any_eq_false, -bne_iff_ne, -beq_iff_eq, -beq_eq_false_iff_ne, -bne_eq_false_iff_eq]
    rfl
  · by_cases hb0 : b = 0
    · have hb1 : (b == 0) = true := by simpa using hb0
      simp -implicitDefEqProofs [Tryz.f102, hb1, -decide_eq_true_eq, -decide_eq_false_iff_not, -List.any_eq_true, -List.any_eq_false, -bne_iff_ne, -beq_iff_eq, -beq_eq_false_iff_ne, -bne_eq_false_iff_eq]
      simp [twoP, hb0, kept]
    · have hb1 : (b == 0) = false := by simpa using hb0
      simp -implicitDefEqProofs [Tryz.f102, hb1, hb0, w4, -decide_eq_true_eq, -decide_eq_false_iff_not, -List.any_eq_true, -List.any_eq_false, -bne_iff_ne, -beq_iff_eq, -beq_eq_false_iff_ne, -bne_eq_false_iff_eq]
      simp [twoP, hb0, kept_id t1]
  · by_cases hb0 : b = 0
    · have hb1 : (b == 0) = true := by simpa using hb0
      simp -implicitDefEqProofs [Tryz.f102, hb1, -decide_eq_true_eq, -decide_eq_false_iff_not, -List.any_eq_true, -List.any_eq_false, -bne_iff_ne, -beq_iff_eq, -beq_eq_false_iff_ne, -bne_eq_false_iff_eq]
      simp [twoP, hb0, kept]
    · have hb1 : (b == 0) = false := by simpa using hb0
      simp -implicitDefEqProofs [Tryz.f102, hb1, hb0, -decide_eq_true_eq, -decide_eq_false_iff_not, -List.any_eq_true, -List.any_eq_false, -bne_iff_ne, -beq_iff_eq, -beq_eq_false_iff_ne, -bne_eq_false_iff_eq]
      simp [twoP, hb0, kept_id t2]
  · simp -implicitDefEqProofs [Tryz.f102, e100, -decide_eq_true_eq, -decide_eq_false_iff_not, -List.any_eq_true, -List.any_eq_false, -bne_iff_ne, -beq_iff_eq, -beq_eq_false_iff_ne, -bne_eq_false_iff_eq]
    unfold twoP
    simp
    split <;> rfl
  · simp -implicitDefEqProofs [Tryz.f102, e100, -decide_eq_true_eq, -decide_eq_false_iff_not, -List.any_eq_true, -List.any_eq_false, -bne_iff_ne, -beq_iff_eq, -beq_eq_false_iff_ne, -bne_eq_false_iff_eq]
    unfold twoP
    simp
    split <;> rfl
  · simp -implicitDefEqProofs [Tryz.f102, -decide_eq_true_eq, -decide_eq_false_iff_not, -List.any_eq_true, -List.any_eq_false, -bne_iff_ne, -beq_iff_eq, -beq_eq_false_iff_ne, -bne_eq_false_iff_eq]
    unfold twoP
    simp
    split <;> exact kept_id (by assumption)
  · simp -implicitDefEqProofs [Tryz.f102, -decide_eq_true_eq, -decide_eq_false_iff_not, -List.any_eq_true, -List.any_eq_false, -bne_iff_ne, -beq_iff_eq, -beq_eq_false_iff_ne, -bne_eq_false_iff_eq]
    unfold twoP
    simp
    split <;> exact kept_id (by assumption)
theorem rtwo_ev (hk : twoK k) (ha : inR a) (hb : inR b) : ∃ h c, run Tryz.prog mZ 67 [I k, I a, I b] Heap.none 0 = some (I (twoP k a b), h, c) := by
  rw [run_eq (show mZ 67 = some .pure from rfl) rfl, Tryz.func67]
  have hm := mul_b ha hb
  have t1 := tdiv_in (b := b) ha
  have e39 := fun (n : Int) (h : Heap) (c : Nat) => bound_c n h c
  have w1 : IntKind.i64.wrap (a + b) = a + b := by unfold inR at *; exact wrap_id (by omega) (by omega)
  have w2 : IntKind.i64.wrap (a - b) = a - b := by unfold inR at *; exact wrap_id (by omega) (by omega)
  have w3 : IntKind.i64.wrap (a * b) = a * b := wrap_id (by omega) (by omega)
  have w4 : IntKind.i64.wrap (a.tdiv b) = a.tdiv b := by unfold inR at t1; exact wrap_id (by omega) (by omega)
  rcases hk with rfl | rfl | rfl | rfl | rfl | rfl | rfl | rfl | rfl
  · simp -implicitDefEqProofs [Tryz.f67, w1, e39, twoP, -decide_eq_true_eq, -decide_eq_false_iff_not, -List.any_eq_true, -List.any_eq_false, -bne_iff_ne, -beq_iff_eq, -beq_eq_false_iff_ne, -bne_eq_false_iff_eq]
  · simp -implicitDefEqProofs [Tryz.f67, w2, e39, twoP, -decide_eq_true_eq, -decide_eq_false_iff_not, -List.any_eq_true, -List.any_eq_false, -bne_iff_ne, -beq_iff_eq, -beq_eq_false_iff_ne, -bne_eq_false_iff_eq]
  · simp -implicitDefEqProofs [Tryz.f67, w3, e39, twoP, -decide_eq_true_eq, -decide_eq_false_iff_not, -List.any_eq_true, -List.any_eq_false, -bne_iff_ne, -beq_iff_eq, -beq_eq_false_iff_ne, -bne_eq_false_iff_eq]
  · by_cases hb0 : b = 0
    · have hb1 : (b == 0) = true := by simpa using hb0
      simp -implicitDefEqProofs [Tryz.f67, hb1, twoP, hb0, -decide_eq_true_eq, -decide_eq_false_iff_not, -List.any_eq_true, -List.any_eq_false, -bne_iff_ne, -beq_iff_eq, -beq_eq_false_iff_ne, -bne_eq_false_iff_eq]
    · have hb1 : (b == 0) = false := by simpa using hb0
      simp -implicitDefEqProofs [Tryz.f67, hb1, hb0, w4, twoP, -decide_eq_true_eq, -decide_eq_false_iff_not, -List.any_eq_true, -List.any_eq_false, -bne_iff_ne, -beq_iff_eq, -beq_eq_false_iff_ne, -bne_eq_false_iff_eq]
  · by_cases hb0 : b = 0
    · have hb1 : (b == 0) = true := by simpa using hb0
      simp -implicitDefEqProofs [Tryz.f67, hb1, twoP, hb0, -decide_eq_true_eq, -decide_eq_false_iff_not, -List.any_eq_true, -List.any_eq_false, -bne_iff_ne, -beq_iff_eq, -beq_eq_false_iff_ne, -bne_eq_false_iff_eq]
    · have hb1 : (b == 0) = false := by simpa using hb0
      simp -implicitDefEqProofs [Tryz.f67, hb1, hb0, twoP, -decide_eq_true_eq, -decide_eq_false_iff_not, -List.any_eq_true, -List.any_eq_false, -bne_iff_ne, -beq_iff_eq, -beq_eq_false_iff_ne, -bne_eq_false_iff_eq]
  · cases g : decide (a < b)
    · have g' : ¬ a < b := by simpa using g
      simp -implicitDefEqProofs [Tryz.f67, g, g', twoP, -decide_eq_true_eq, -decide_eq_false_iff_not, -List.any_eq_true, -List.any_eq_false, -bne_iff_ne, -beq_iff_eq, -beq_eq_false_iff_ne, -bne_eq_false_iff_eq]
    · have g' : a < b := by simpa using g
      simp -implicitDefEqProofs [Tryz.f67, g, g', twoP, -decide_eq_true_eq, -decide_eq_false_iff_not, -List.any_eq_true, -List.any_eq_false, -bne_iff_ne, -beq_iff_eq, -beq_eq_false_iff_ne, -bne_eq_false_iff_eq]
  · cases g : (a == b)
    · have g' : ¬ a = b := by simpa using g
      simp -implicitDefEqProofs [Tryz.f67, g, g', twoP, -decide_eq_true_eq, -decide_eq_false_iff_not, -List.any_eq_true, -List.any_eq_false, -bne_iff_ne, -beq_iff_eq, -beq_eq_false_iff_ne, -bne_eq_false_iff_eq]
    · have g' : a = b := by simpa using g
      simp -implicitDefEqProofs [Tryz.f67, g, g', twoP, -decide_eq_true_eq, -decide_eq_false_iff_not, -List.any_eq_true, -List.any_eq_false, -bne_iff_ne, -beq_iff_eq, -beq_eq_false_iff_ne, -bne_eq_false_iff_eq]
  · simp -implicitDefEqProofs [Tryz.f67, twoP, -decide_eq_true_eq, -decide_eq_false_iff_not, -List.any_eq_true, -List.any_eq_false, -bne_iff_ne, -beq_iff_eq, -beq_eq_false_iff_ne, -bne_eq_false_iff_eq]
  · simp -implicitDefEqProofs [Tryz.f67, twoP, -decide_eq_true_eq, -decide_eq_false_iff_not, -List.any_eq_true, -List.any_eq_false, -bne_iff_ne, -beq_iff_eq, -beq_eq_false_iff_ne, -bne_eq_false_iff_eq]
theorem two_c (hk : twoK k) (ha : inR a) (hb : inR b) : ∃ r, (∀ h c, callA mZ (run Tryz.prog mZ) 102 [I k, I a, I b] h c = some (I r, h, c)) ∧ kept r = twoP k a b := by
  obtain ⟨r, h', c', e, hr⟩ := two_ev hk ha hb
  exact ⟨r, fun h c => call_of rfl rfl e rfl rfl, hr⟩
theorem rtwo_c (hk : twoK k) (ha : inR a) (hb : inR b) (h : Heap) (c : Nat) : callA mZ (run Tryz.prog mZ) 67 [I k, I a, I b] h c = some (I (twoP k a b), h, c) := by
  obtain ⟨h', c', e⟩ := rtwo_ev hk ha hb
  exact call_of rfl rfl e rfl rfl
end
end Go.Proofs.YtmpcjfkfgjpebaaGreatDoor.AM
namespace Go.Proofs.YtmpcjfkfgjpebaaGreatDoor.AM
open Go Go.Proofs
attribute [local simp] fieldAddrA ld setCells stA skipV appendA hd makeA bnd kindA freshA killOk loadsAt edgesOn Region.binds newT empT lay_get allocA buildA buildRow lenA els indexAddrA isNil opA evA lit_int lit_bool lit_nil lit_nilf yldA binI unA pickA boolV intV fieldA mk eqs nilC mayP
/-- What a step does to the numbers that wait. -/
def stepP (vs : List Int) (st : List Int) (q : Int × Int) : List Int :=
  if q.1 = 0 then st ++ [q.2] else if q.1 = 1 then st ++ [vs.getD q.2.toNat 0] else
  if q.1 = 9 then st.take (st.length - 3) ++ [if st.getD (st.length - 3) 0 = 0 then st.getD (st.length - 1) 0 else st.getD (st.length - 2) 0] else
  st.take (st.length - 2) ++ [twoP q.1 (st.getD (st.length - 2) 0) (st.getD (st.length - 1) 0)]
def evS (vs : List Int) (b : List (Int × Int)) : List Int := b.foldl (stepP vs) []
/-- What a body comes to. -/
def evB (vs : List Int) (b : List (Int × Int)) : Int := (evS vs b).getD 0 0
theorem stepP_len {na : Nat} {vs st : List Int} {q : Int × Int} (hp : popsP q.1 ≤ st.length) : (stepP vs st q).length = st.length + 1 - popsP q.1 := by
  unfold stepP popsP at *
  by_cases h0 : q.1 = 0
  · simp [h0]
  by_cases h1 : q.1 = 1
  · simp [h0, h1]
  by_cases h9 : q.1 = 9
  · simp [h9] at hp ⊢
    omega
  · simp [h0, h1, h9] at hp ⊢
    omega
theorem getD_in {l : List Int} (h : ∀ n ∈ l, inR n) (i : Nat) : inR (l.getD i 0) := by
  rw [List.getD_eq_getElem?_getD]
  cases g : l[i]? with
  | none => unfold inR; simp
  | some x => exact h x (List.mem_of_getElem? g)
theorem known_two {na : Nat} {q : Int × Int} (h : knownP na q = true) (h0 : q.1 ≠ 0) (h1 : q.1 ≠ 1) (h9 : q.1 ≠ 9) : twoK q.1 := by
  have h10 := known_10 h
  unfold knownP at h
  simp only [if_neg h0, if_neg h1, if_neg h10, Bool.and_eq_true, decide_eq_true_eq] at h
  unfold twoK
  omega
theorem stepP_in {na : Nat} {vs st : List Int} {q : Int × Int} (hk : knownP na q = true) (hv : okV vs) (hs : ∀ n ∈ st, inR n) : ∀ n ∈ stepP vs st q, inR n := by
  have hvs : ∀ n ∈ vs, inR n := fun n hn => okV_in hv hn
  unfold stepP
  by_cases h0 : q.1 = 0
  · rw [if_pos h0]
    intro n hn
    rcases List.mem_append.1 hn with h | h
    · exact hs n h
    · simp at h
      subst h
      unfold knownP at hk
      simp [h0] at hk
      exact hk
  rw [if_neg h0]
  by_cases h1 : q.1 = 1
  · rw [if_pos h1]
    intro n hn
    rcases List.mem_append.1 hn with h | h
    · exact hs n h
    · simp only [List.mem_singleton] at h
      subst h
      exact getD_in hvs _
  rw [if_neg h1]
  by_cases h9 : q.1 = 9
  · rw [if_pos h9]
    intro n hn
    rcases List.mem_append.1 hn with h | h
    · exact hs n (List.mem_of_mem_take h)
    · simp only [List.mem_singleton] at h
      subst h
      split <;> exact getD_in hs _
  rw [if_neg h9]
  intro n hn
  rcases List.mem_append.1 hn with h | h
  · exact hs n (List.mem_of_mem_take h)
  · simp only [List.mem_singleton] at h
    subst h
    exact twoP_in (getD_in hs _) (getD_in hs _)
theorem take_step {vs : List Int} {b : List (Int × Int)} {i : Nat} {q : Int × Int} (hq : b[i]? = some q) : evS vs (b.take (i + 1)) = stepP vs (evS vs (b.take i)) q := by
  unfold evS
  rw [List.take_add_one, hq]
  simp
/-- A number more on a row. -/
theorem push_c {h : Heap} {c : Nat} {v : AV} {st : List Int} (O : OutS 1 3 h c v (nums st)) (hl : st.length ≤ 1000) (x : Int) : ∃ v' h' c', appendA Tryz.prog 30 (h.put c (some ⟨1, [[I x]], some 3⟩)) (c + 1) v (.sl c 1 0 1) = some (v', h', c') ∧ OutG 1 3 h' c' v' (nums (st ++ [x])) ∧ Grown h c v h' c' v' := by
  obtain ⟨v', h', c', e, O2, G⟩ := outS_one (t := 30) (sz := 1) (by_ := 8) (z := [I 0]) O [I x] (some 3) rfl (by simp) (by simp) (by simp) (by kernel_rfl) rfl (by simp; omega) (by simp; omega)
  exact ⟨v', h', c', e, by simpa using O2, G⟩
/-- A row's head. -/
theorem OutG.cut {h : Heap} {c : Nat} {v : AV} {st : List Int} (O : OutG 1 3 h c v (nums st)) (k : Nat) (hk : k < st.length) : ∃ n, v = .sl n 1 0 st.length ∧ n < c ∧ h n = some ⟨1, nums st, some 3⟩ ∧ OutS 1 3 h c (.sl n 1 0 k) (nums (st.take k)) := by
  rcases O with ⟨_, h1⟩ | ⟨n, rfl, h1, h2, h3⟩
  · have : st = [] := by simpa using h1
    subst this
    simp at hk
  · refine ⟨n, by simp, h2, h3, .inr ⟨n, nums (st.drop k), by simp; omega, h2, ?_⟩⟩
    rw [h3]
    simp only [nums]
    rw [← List.map_append, List.take_append_drop]
def IOut (x : Int) (o : Option (AV × Heap × Nat)) : Prop := ∃ h c, o = some (I x, h, c)
section
variable {na : Nat} {b : List (Int × Int)} {vs : List Int} {b1 b2 : Bool}
def RV (b1 b2 : Bool) (na : Nat) (b : List (Int × Int)) (vs : List Int) (kk : Nat) (st : St) : Prop := ∃ (i : Nat) (v : AV), kk = b.length - i ∧ i ≤ b.length ∧ st.t 0 = .ro b1 (opsE b) ∧ st.t 1 = .ro b2 (nums vs) ∧ st.t 5 = v ∧ st.t 6 = I i ∧ OutG 1 3 st.h st.c v (nums (evS vs (b.take i))) ∧ (evS vs (b.take i)).length ≤ i ∧ hgt na (b.drop i) (evS vs (b.take i)).length = some 1 ∧ ∀ n ∈ evS vs (b.take i), inR n
def RVE (vs : List Int) (b : List (Int × Int)) (e : Ex) (st : St) : Prop := e = .exit 0 ∧ ∃ v, st.t 5 = v ∧ OutG 1 3 st.h st.c v (nums (evS vs b)) ∧ (evS vs b).length = 1
theorem rvalue_ev (hB : Bal na b) (hl : b.length ≤ 60) (hv : okV vs) (hvl : vs.length = na) (hna : na ≤ 1000) : IOut (evB vs b) (run Tryz.prog mZ 32 [.ro b1 (opsE b), .ro b2 (nums vs)] Heap.none 0) := by
  rw [run_eq (show mZ 32 = some .pure from rfl) rfl, Tryz.func32]
  simp -implicitDefEqProofs [Tryz.f32, Option.bind_assoc, -decide_eq_true_eq, -decide_eq_false_iff_not, -List.any_eq_true, -List.any_eq_false, -bne_iff_ne, -beq_iff_eq, -beq_eq_false_iff_ne, -bne_eq_false_iff_eq]
  refine loop_to (R := IOut (evB vs b)) (RV b1 b2 na b vs) (RVE vs b) ?_ ?_ b.length _ ?_
  · rintro kk ⟨t, h, c⟩ ⟨i, v, rfl, hi, a0, a1, a5, a6, O, hsi, H, hin⟩
    simp only at a0 a1 a5 a6 O
    by_cases g : i < b.length
    · have g1 : decide (i < b.length) = true := by simp [g]
      have w2 : IntKind.i64.wrap ((i : Int) + 1) = ((i + 1 : Nat) : Int) := wrap_succ (by omega)
      obtain ⟨q, hq⟩ : ∃ q, b[i]? = some q := ⟨b[i], by simp [g]⟩
      obtain ⟨k1, k2, k3⟩ := hgt_drop hq H
      have hst := take_step (vs := vs) hq
      have hlen := stepP_len (na := na) (vs := vs) k2
      have hin2 := stepP_in k1 hv hin
      rw [← hst] at hlen hin2
      rw [← hlen] at k3
      have p0 : 0 ≤ popsP q.1 := by omega
      have hsi2 : (evS vs (b.take (i + 1))).length ≤ i + 1 := by rw [hlen]; omega
      have hlenv : ∀ (h : Heap) (c : Nat), builtinA Tryz.prog .len [30] h c [v] = some (I ((evS vs (b.take i)).length : Nat), h, c) := by
        intro h c
        rcases O with ⟨rfl, h1⟩ | ⟨n, rfl, _⟩
        · have : evS vs (b.take i) = [] := by simpa using h1
          rw [this]; rfl
        · simp
      have fin : ∀ (t' : Nat → AV) (h' : Heap) (c' : Nat) (v' : AV), t' 0 = .ro b1 (opsE b) → t' 1 = .ro b2 (nums vs) → t' 5 = v' → t' 6 = I ((i + 1 : Nat) : Int) → OutG 1 3 h' c' v' (nums (evS vs (b.take (i + 1)))) → ∃ k', k' < b.length - i ∧ RV b1 b2 na b vs k' ⟨t', h', c'⟩ := by
        intro t' h' c' v' x0 x1 x5 x6 O'
        exact ⟨b.length - (i + 1), by omega, i + 1, v', rfl, by omega, x0, x1, x5, x6, O', hsi2, k3, hin2⟩
      obtain ⟨st, hste⟩ : ∃ st, st = evS vs (b.take i) := ⟨_, rfl⟩
      rw [← hste] at O hsi H hin hst hlen hlenv k2
      obtain ⟨k, w⟩ := q
      simp only at k1 k2 hlen
      by_cases h0 : k = 0
      · subst h0
        obtain ⟨v', h', c', e, O2, G⟩ := push_c O.toS (by omega) w
        obtain ⟨q1, q2, q3⟩ := O2.nopan
        have hs : evS vs (b.take (i + 1)) = st ++ [w] := by rw [hst]; simp [stepP]
        rw [hs] at fin
        simp -implicitDefEqProofs [a0, a1, a5, a6, g1, hq, hlenv, w2, -appendA, e, q1, q2, q3, to_normal, to_exit, to_ret, -decide_eq_true_eq, -decide_eq_false_iff_not, -List.any_eq_true, -List.any_eq_false, -bne_iff_ne, -beq_iff_eq, -beq_eq_false_iff_ne, -bne_eq_false_iff_eq]
        exact fin _ _ _ v' (by simp [a0]) (by simp [a1]) (by simp) (by simp) O2
      have b0 : (k == 0) = false := by simpa using h0
      by_cases h1 : k = 1
      · subst h1
        obtain ⟨m, hm, hw⟩ : ∃ m : Nat, w = m ∧ m < vs.length := by
          unfold knownP at k1
          simp at k1
          exact ⟨w.toNat, by omega, by omega⟩
        subst hm
        obtain ⟨x, hx⟩ : ∃ x, vs[m]? = some x := ⟨vs[m], by simp [hw]⟩
        obtain ⟨v', h', c', e, O2, G⟩ := push_c O.toS (by omega) x
        obtain ⟨q1, q2, q3⟩ := O2.nopan
        have hs : evS vs (b.take (i + 1)) = st ++ [x] := by rw [hst]; simp [stepP, hx]
        rw [hs] at fin
        simp -implicitDefEqProofs [a0, a1, a5, a6, g1, hq, hx, hlenv, w2, -appendA, e, q1, q2, q3, to_normal, to_exit, to_ret, -decide_eq_true_eq, -decide_eq_false_iff_not, -List.any_eq_true, -List.any_eq_false, -bne_iff_ne, -beq_iff_eq, -beq_eq_false_iff_ne, -bne_eq_false_iff_eq]
        exact fin _ _ _ v' (by simp [a0]) (by simp [a1]) (by simp) (by simp) O2
      have b1' : (k == 1) = false := by simpa using h1
      by_cases h9 : k = 9
      · subst h9
        have hp3 : 3 ≤ st.length := k2
        obtain ⟨n, hn, hnc, hb, OS⟩ := O.cut (st.length - 3) (by omega)
        subst hn
        obtain ⟨x1, hx1⟩ : ∃ x, st[st.length - 1]? = some x := ⟨st[st.length - 1], by simp⟩
        obtain ⟨x2, hx2⟩ : ∃ x, st[st.length - 2]? = some x := ⟨st[st.length - 2], by simp⟩
        obtain ⟨x3, hx3⟩ : ∃ x, st[st.length - 3]? = some x := ⟨st[st.length - 3], by simp⟩
        have n1 : IntKind.i64.wrap ((st.length : Int) - 1) = ((st.length - 1 : Nat) : Int) := by rw [wrap_id (by omega) (by omega)]; omega
        have n2 : IntKind.i64.wrap ((st.length : Int) - 2) = ((st.length - 2 : Nat) : Int) := by rw [wrap_id (by omega) (by omega)]; omega
        have n3 : IntKind.i64.wrap ((st.length : Int) - 3) = ((st.length - 3 : Nat) : Int) := by rw [wrap_id (by omega) (by omega)]; omega
        obtain ⟨v', h', c', e, O2, G⟩ := push_c OS (by simp; omega) (if x3 = 0 then x1 else x2)
        obtain ⟨q1, q2, q3⟩ := O2.nopan
        have hs : evS vs (b.take (i + 1)) = st.take (st.length - 3) ++ [if x3 = 0 then x1 else x2] := by rw [hst]; simp [stepP, hx1, hx2, hx3]
        rw [hs] at fin
        have l1 : st.length - 1 < st.length := by omega
        have l2 : st.length - 2 < st.length := by omega
        have l3 : st.length - 3 < st.length := by omega
        have y1 : st[st.length - 1]'l1 = x1 := (List.getElem?_eq_some_iff.1 hx1).2
        have y2 : st[st.length - 2]'l2 = x2 := (List.getElem?_eq_some_iff.1 hx2).2
        have y3 : st[st.length - 3]'l3 = x3 := (List.getElem?_eq_some_iff.1 hx3).2
        have m3 : st.length - 3 ≤ st.length := by omega
        have m3' : ((st.length - 3 : Nat) : Int) ≤ (st.length : Int) := by omega
        by_cases hx0 : x3 = 0
        · have hx0' : (x3 != 0) = false := by simpa using hx0
          rw [if_pos hx0] at e O2 fin
          simp -implicitDefEqProofs [a0, a1, a5, a6, g1, hq, hlenv, w2, hb, n1, n2, n3, hx1, hx2, hx3, y1, y2, y3, hx0', l1, l2, l3, m3, m3', sliceA, -appendA, e, q1, q2, q3, to_normal, to_exit, to_ret, -decide_eq_true_eq, -decide_eq_false_iff_not, -List.any_eq_true, -List.any_eq_false, -bne_iff_ne, -beq_iff_eq, -beq_eq_false_iff_ne, -bne_eq_false_iff_eq]
          exact fin _ _ _ v' (by simp [a0]) (by simp [a1]) (by simp) (by simp) O2
        · have hx0' : (x3 != 0) = true := by simpa using hx0
          rw [if_neg hx0] at e O2 fin
          simp -implicitDefEqProofs [a0, a1, a5, a6, g1, hq, hlenv, w2, hb, n1, n2, n3, hx1, hx2, hx3, y1, y2, y3, hx0', l1, l2, l3, m3, m3', sliceA, -appendA, e, q1, q2, q3, to_normal, to_exit, to_ret, -decide_eq_true_eq, -decide_eq_false_iff_not, -List.any_eq_true, -List.any_eq_false, -bne_iff_ne, -beq_iff_eq, -beq_eq_false_iff_ne, -bne_eq_false_iff_eq]
          exact fin _ _ _ v' (by simp [a0]) (by simp [a1]) (by simp) (by simp) O2
      have b9 : (k == 9) = false := by simpa using h9
      have hp2 : 2 ≤ st.length := by unfold popsP at k2; simp [h0, h1, h9] at k2; omega
      have hk2 := known_two k1 h0 h1 h9
      obtain ⟨n, hn, hnc, hb, OS⟩ := O.cut (st.length - 2) (by omega)
      subst hn
      obtain ⟨x1, hx1⟩ : ∃ x, st[st.length - 1]? = some x := ⟨st[st.length - 1], by simp⟩
      obtain ⟨x2, hx2⟩ : ∃ x, st[st.length - 2]? = some x := ⟨st[st.length - 2], by simp⟩
      have n1 : IntKind.i64.wrap ((st.length : Int) - 1) = ((st.length - 1 : Nat) : Int) := by rw [wrap_id (by omega) (by omega)]; omega
      have n2 : IntKind.i64.wrap ((st.length : Int) - 2) = ((st.length - 2 : Nat) : Int) := by rw [wrap_id (by omega) (by omega)]; omega
      obtain ⟨v', h', c', e, O2, G⟩ := push_c OS (by simp; omega) (twoP k x2 x1)
      obtain ⟨q1, q2, q3⟩ := O2.nopan
      have hs : evS vs (b.take (i + 1)) = st.take (st.length - 2) ++ [twoP k x2 x1] := by rw [hst]; simp [stepP, h0, h1, h9, hx1, hx2]
      rw [hs] at fin
      have l1 : st.length - 1 < st.length := by omega
      have l2 : st.length - 2 < st.length := by omega
      have y1 : st[st.length - 1]'l1 = x1 := (List.getElem?_eq_some_iff.1 hx1).2
      have y2 : st[st.length - 2]'l2 = x2 := (List.getElem?_eq_some_iff.1 hx2).2
      have m2 : st.length - 2 ≤ st.length := by omega
      have m2' : ((st.length - 2 : Nat) : Int) ≤ (st.length : Int) := by omega
      have e2 := fun h c => rtwo_c hk2 (hin x2 (List.mem_of_getElem? hx2)) (hin x1 (List.mem_of_getElem? hx1)) h c
      simp -implicitDefEqProofs [a0, a1, a5, a6, g1, hq, b0, b1', b9, hlenv, w2, hb, n1, n2, hx1, hx2, y1, y2, l1, l2, m2, m2', e2, sliceA, -appendA, e, q1, q2, q3, to_normal, to_exit, to_ret, -decide_eq_true_eq, -decide_eq_false_iff_not, -List.any_eq_true, -List.any_eq_false, -bne_iff_ne, -beq_iff_eq, -beq_eq_false_iff_ne, -bne_eq_false_iff_eq]
      exact fin _ _ _ v' (by simp [a0]) (by simp [a1]) (by simp) (by simp) O2
    · have g1 : decide (i < b.length) = false := by simp; omega
      rw [List.take_of_length_le (by omega)] at O H hin
      rw [List.drop_eq_nil_of_le (by omega)] at H
      simp -implicitDefEqProofs [a0, a1, a5, a6, g1, to_normal, to_exit, to_ret, -decide_eq_true_eq, -decide_eq_false_iff_not, -List.any_eq_true, -List.any_eq_false, -bne_iff_ne, -beq_iff_eq, -beq_eq_false_iff_ne, -bne_eq_false_iff_eq]
      exact ⟨rfl, v, by simp [a5], O, by simpa [hgt] using H⟩
  · rintro e ⟨t, h, c⟩ ⟨rfl, v, a5, O, hl1⟩
    simp only at a5 O
    obtain ⟨x, hx⟩ : ∃ x, evS vs b = [x] := List.length_eq_one_iff.1 hl1
    have hx2 : evB vs b = x := by unfold evB; rw [hx]; rfl
    rw [hx] at O
    rw [hx2]
    obtain ⟨n, hn, hnc, hb, _⟩ := O.cut 0 (by simp)
    subst hn
    simp -implicitDefEqProofs [a5, hb, -decide_eq_true_eq, -decide_eq_false_iff_not, -List.any_eq_true, -List.any_eq_false, -bne_iff_ne, -beq_iff_eq, -beq_eq_false_iff_ne, -bne_eq_false_iff_eq]
    exact ⟨_, _, rfl⟩
  · exact ⟨0, .ro true [], by simp, by simp, by simp, by simp, by simp, by simp, .inl ⟨rfl, rfl⟩, by simp [evS], by simpa [evS] using hB 0, by simp [evS]⟩
theorem rvalue_c (hB : Bal na b) (hl : b.length ≤ 60) (hv : okV vs) (hvl : vs.length = na) (hna : na ≤ 1000) {h : Heap} {c : Nat} {x : AV} (hx : frz h depth x = some (.ro b2 (nums vs))) : callA mZ (run Tryz.prog mZ) 32 [.ro b1 (opsE b), x] h c = some (I (evB vs b), h, c) := by
  obtain ⟨h', c', e⟩ := rvalue_ev (b1 := b1) (b2 := b2) hB hl hv hvl hna
  refine call_of rfl ?_ e rfl rfl
  have h1 : frz h depth (.ro b1 (opsE b)) = some (.ro b1 (opsE b)) := rfl
  simp only [List.mapM_cons, List.mapM_nil, h1, hx]
  rfl
end
end Go.Proofs.YtmpcjfkfgjpebaaGreatDoor.AM
namespace Go.Proofs.YtmpcjfkfgjpebaaGreatDoor.AM
open Go Go.Proofs
attribute [local simp] fieldAddrA ld setCells stA skipV appendA hd makeA bnd kindA freshA killOk loadsAt edgesOn Region.binds newT empT lay_get allocA buildA buildRow lenA els indexAddrA isNil opA evA lit_int lit_bool lit_nil lit_nilf yldA binI unA pickA boolV intV fieldA mk eqs nilC mayP
abbrev mcB (bud : Int) : Blk := ⟨3, [[.ro true [], .ro false [], I bud]], some 103⟩
theorem pay_c {m : Nat} {h : Heap} {c : Nat} {k w bud : Int} (hm : h m = some (mcB bud)) (hmc : m < c) (hk : k ≠ 10) (hb : 1 ≤ bud) (hb2 : bud ≤ 1000000) :
    ∃ h' c', callA mZ (run Tryz.prog mZ) 99 [.ptr m 0 0, .agg [I k, I w]] h c = some (B true, h', c') ∧ h' m = some (mcB (bud - 1)) ∧ c ≤ c' ∧ ∀ j, j < c → j ≠ m → h' j = h j := by
  rw [call_heap rfl, run_eq (show mZ 99 = some .heap from rfl) rfl, Tryz.func99]
  have hn : m ≠ c := by omega
  have hk' : (k == 10) = false := by simpa using hk
  have g1 : decide (bud < 1) = false := by simp; omega
  have w1 : IntKind.i64.wrap (bud - 1) = bud - 1 := wrap_id (by omega) (by omega)
  have e : callA mZ (run Tryz.prog mZ) 99 [.ptr m 0 0, .agg [I k, I w]] h c = some (B true, (h.put c (some ⟨2, [[I k, I w]], some 108⟩)).put m (some (mcB (bud - 1))), c + 1) := by
    rw [call_heap rfl, run_eq (show mZ 99 = some .heap from rfl) rfl, Tryz.func99]
    simp -implicitDefEqProofs [Tryz.f99, hk', hm, hn, g1, w1, -decide_eq_true_eq, -decide_eq_false_iff_not, -List.any_eq_true, -List.any_eq_false, -bne_iff_ne, -beq_iff_eq, -beq_eq_false_iff_ne, -bne_eq_false_iff_eq]
  rw [call_heap rfl, run_eq (show mZ 99 = some .heap from rfl) rfl, Tryz.func99] at e
  refine ⟨_, _, e, by simp, by omega, fun j hj hjm => ?_⟩
  have : j ≠ c := by omega
  simp [hjm, this]
/-- A row of numbers that may be asked. -/
def RowV (h : Heap) (c : Nat) (v : AV) (l : List Int) : Prop := (l = [] ∧ (v = .ro true [] ∨ v = .emp)) ∨ ∃ n, v = .sl n 1 0 l.length ∧ n < c ∧ h n = some ⟨1, nums l, some 3⟩
theorem eqn_t : binA Tryz.prog .eql 30 (.ro true []) (.ro true []) = some (B true) := by kernel_rfl
theorem slT30 : (slT Tryz.prog 30).isSome = true := by kernel_rfl
theorem eqn_f (es : List (List AV)) : binA Tryz.prog .eql 30 (.ro false es) (.ro true []) = some (B false) := by
  cases es <;> simp [binA, slT30, isNil, boolV]
theorem eqn_s (n z off len : Nat) : binA Tryz.prog .eql 30 (.sl n z off len) (.ro true []) = some (B false) := by
  simp [binA, slT30, isNil, boolV]
theorem app_emp {h : Heap} {c : Nat} {x : AV} {l : List Int} (hl : l.length ≤ 1000000) (hx : srcA h x = some (nums l)) :
    ∃ v' h' c', appendA Tryz.prog 30 h c .emp x = some (v', h', c') ∧ RowV h' c' v' l ∧ c ≤ c' ∧ (∀ j, j < c → h' j = h j) ∧ (l ≠ [] → v' = .sl c 1 0 l.length) := by
  unfold appendA
  have h1 : slT Tryz.prog 30 = some 3 := by simp
  have h2 : szT Tryz.prog 3 = some 1 := by simp
  have h3 : byT Tryz.prog 3 = some 8 := by simp
  have h4 : zeT Tryz.prog 3 = some [I 0] := by kernel_rfl
  have hh : AM.hd (nums l) 1 = true := by cases l <;> simp [AM.hd]
  simp only [h1, h2, h3, h4, hx, Option.bind_some, hh, List.length_cons, List.length_nil, Nat.zero_add, and_self, if_true]
  cases l with
  | nil => exact ⟨.emp, h, c, rfl, .inl ⟨rfl, .inr rfl⟩, Nat.le_refl _, fun _ _ => rfl, fun h => absurd rfl h⟩
  | cons y l =>
    have g : (nums (y :: l)).length = (y :: l).length := by simp
    have hr : (nums (y :: l)).length * 8 ≤ room ∧ (nums (y :: l)).length ≤ room := by
      rw [g]
      have : (room : Nat) = 140737488355328 := rfl
      rw [this]
      omega
    have he : (nums (y :: l)).isEmpty = false := rfl
    rw [if_neg (by simp), if_pos hr, g]
    exact ⟨_, _, _, rfl, .inr ⟨c, rfl, by omega, by simp⟩, by omega, fun j hj => by rw [put_get, if_neg (by omega)], fun _ => rfl⟩
theorem clone_c {h : Heap} {c : Nat} {x : AV} {l : List Int} (hl : l.length ≤ 1000000) (hx : (x = .ro true [] ∧ l = []) ∨ x = .ro false (nums l) ∨ (∃ n off, x = .sl n 1 off l.length ∧ els h x = some (nums l))) :
    ∃ v' h' c', callA mZ (run Tryz.prog mZ) 34 [x] h c = some (v', h', c') ∧ RowV h' c' v' l ∧ c ≤ c' ∧ (∀ j, j < c → h' j = h j) ∧ (l ≠ [] → v' = .sl c 1 0 l.length) := by
  rw [call_heap rfl, run_eq (show mZ 34 = some .heap from rfl) rfl, Tryz.func34]
  have np : ∀ {h : Heap} {c : Nat} {v : AV}, RowV h c v l → v.isPan = false ∧ okc v = true ∧ v.cells = [v] := by
    intro h c v H
    rcases H with ⟨_, rfl | rfl⟩ | ⟨n, rfl, _⟩ <;> exact ⟨rfl, rfl, rfl⟩
  have e1 := eqn_t
  have e2 := eqn_f
  have e3 := eqn_s
  rcases hx with ⟨rfl, rfl⟩ | rfl | ⟨n, off, rfl, he⟩
  · refine ⟨.ro true [], h, c, ?_, .inl ⟨rfl, .inl rfl⟩, Nat.le_refl _, fun _ _ => rfl, fun h => absurd rfl h⟩
    simp -implicitDefEqProofs [Tryz.f34, e1, -decide_eq_true_eq, -decide_eq_false_iff_not, -List.any_eq_true, -List.any_eq_false, -bne_iff_ne, -beq_iff_eq, -beq_eq_false_iff_ne, -bne_eq_false_iff_eq]
  · obtain ⟨v', h', c', e, R, hc, hf, hs⟩ := app_emp (h := h) (c := c) (x := .ro false (nums l)) hl rfl
    obtain ⟨q1, q2, q3⟩ := np R
    refine ⟨v', h', c', ?_, R, hc, hf, hs⟩
    simp -implicitDefEqProofs [Tryz.f34, e2, -appendA, e, q1, q2, q3, -decide_eq_true_eq, -decide_eq_false_iff_not, -List.any_eq_true, -List.any_eq_false, -bne_iff_ne, -beq_iff_eq, -beq_eq_false_iff_ne, -bne_eq_false_iff_eq]
  · have hs : srcA h (.sl n 1 off l.length) = some (nums l) := by
      rw [← he]; rfl
    obtain ⟨v', h', c', e, R, hc, hf, hs⟩ := app_emp (h := h) (c := c) hl hs
    obtain ⟨q1, q2, q3⟩ := np R
    refine ⟨v', h', c', ?_, R, hc, hf, hs⟩
    simp -implicitDefEqProofs [Tryz.f34, e3, -appendA, e, q1, q2, q3, -decide_eq_true_eq, -decide_eq_false_iff_not, -List.any_eq_true, -List.any_eq_false, -bne_iff_ne, -beq_iff_eq, -beq_eq_false_iff_ne, -bne_eq_false_iff_eq]
end Go.Proofs.YtmpcjfkfgjpebaaGreatDoor.AM
namespace Go.Proofs.YtmpcjfkfgjpebaaGreatDoor.AM
open Go Go.Proofs
attribute [local simp] fieldAddrA ld setCells stA skipV appendA hd makeA bnd kindA freshA killOk loadsAt edgesOn Region.binds newT empT lay_get allocA buildA buildRow lenA els indexAddrA isNil opA evA lit_int lit_bool lit_nil lit_nilf yldA binI unA pickA boolV intV fieldA mk eqs nilC mayP
theorem drop2 {st : List Int} {x2 x1 : Int} (h2 : st[st.length - 2]? = some x2) (h1 : st[st.length - 1]? = some x1) (hp : 2 ≤ st.length) : st.drop (st.length - 2) = [x2, x1] := by
  apply List.ext_getElem?
  intro i
  rw [List.getElem?_drop]
  match i with
  | 0 => simpa using h2
  | 1 => rw [show st.length - 2 + 1 = st.length - 1 by omega, h1]; rfl
  | i + 2 => rw [List.getElem?_eq_none (by omega)]; simp
theorem drop3 {st : List Int} {x3 x2 x1 : Int} (h3 : st[st.length - 3]? = some x3) (h2 : st[st.length - 2]? = some x2) (h1 : st[st.length - 1]? = some x1) (hp : 3 ≤ st.length) : st.drop (st.length - 3) = [x3, x2, x1] := by
  apply List.ext_getElem?
  intro i
  rw [List.getElem?_drop]
  match i with
  | 0 => simpa using h3
  | 1 => rw [show st.length - 3 + 1 = st.length - 2 by omega, h2]; rfl
  | 2 => rw [show st.length - 3 + 2 = st.length - 1 by omega, h1]; rfl
  | i + 3 => rw [List.getElem?_eq_none (by omega)]; simp
theorem RowV.np {h : Heap} {c : Nat} {v : AV} {l : List Int} (H : RowV h c v l) : v.isPan = false ∧ okc v = true ∧ v.cells = [v] := by
  rcases H with ⟨_, rfl | rfl⟩ | ⟨n, rfl, _⟩ <;> exact ⟨rfl, rfl, rfl⟩
theorem cuts_c {h : Heap} {c : Nat} {v : AV} {st : List Int} (O : OutG 1 3 h c v (nums st)) (r : Nat) (hr : r ≤ st.length) : ∃ x y, sliceA Tryz.prog 30 v (some (I r)) none none = some x ∧ sliceA Tryz.prog 30 v none (some (I r)) none = some y ∧
    ((x = .ro true [] ∧ st.drop r = []) ∨ x = .ro false (nums (st.drop r)) ∨ (∃ n off, x = .sl n 1 off (st.drop r).length ∧ ∀ h', (∀ m, nm v = some m → h' m = h m) → els h' x = some (nums (st.drop r)))) ∧ OutS 1 3 h c y (nums (st.take r)) ∧ (nm y = none ∨ nm y = nm v) := by
  rcases O with ⟨rfl, h1⟩ | ⟨n, rfl, h1, h2, h3⟩
  · have : st = [] := by simpa using h1
    subst this
    have : r = 0 := by simpa using hr
    subst this
    refine ⟨.ro true [], .ro true [], by simp [sliceA], by simp [sliceA], .inl ⟨rfl, by simp⟩, .inl ⟨rfl, by simp⟩, .inl rfl⟩
  · have k1 : (r : Int) ≤ (st.length : Int) := by omega
    have e2 : sliceA Tryz.prog 30 (.sl n 1 0 (nums st).length) none (some (I r)) none = some (.sl n 1 0 r) := by
      simp [sliceA, k1, hr]
    have hS : OutS 1 3 h c (.sl n 1 0 r) (nums (st.take r)) := by
      refine .inr ⟨n, nums (st.drop r), by simp; omega, h2, ?_⟩
      rw [h3]
      simp only [nums]
      rw [← List.map_append, List.take_append_drop]
    have hel : ∀ h' : Heap, (∀ m, nm (.sl n 1 0 (nums st).length) = some m → h' m = h m) → els h' (.sl n 1 r (st.length - r)) = some (nums (st.drop r)) := by
      intro h' hh
      simp only [els, hh n rfl, h3, Option.bind_some]
      rw [if_pos (by simp; omega)]
      congr 1
      simp only [nums, ← List.map_drop, ← List.map_take]
      rw [List.take_of_length_le (by simp)]
    by_cases g : r < st.length ∨ r = 0
    · refine ⟨.sl n 1 r (st.length - r), .sl n 1 0 r, ?_, e2, .inr (.inr ⟨n, r, by simp, hel⟩), hS, .inr rfl⟩
      simp [sliceA, k1, hr, g]
    · refine ⟨.ro false [], .sl n 1 0 r, ?_, e2, .inr (.inl ?_), hS, .inr rfl⟩
      · simp [sliceA, k1, hr, g]
      · rw [List.drop_eq_nil_of_le (by omega)]
        rfl
end Go.Proofs.YtmpcjfkfgjpebaaGreatDoor.AM
namespace Go.Proofs.YtmpcjfkfgjpebaaGreatDoor.AM
open Go Go.Proofs
attribute [local simp] fieldAddrA ld setCells stA skipV appendA hd makeA bnd kindA freshA killOk loadsAt edgesOn Region.binds newT empT lay_get allocA buildA buildRow lenA els indexAddrA isNil opA evA lit_int lit_bool lit_nil lit_nilf yldA binI unA pickA boolV intV fieldA mk eqs nilC mayP
section
variable {na : Nat} {b : List (Int × Int)} {vs : List Int} {b1 b2 : Bool}
def MV (m : Nat) (bud : Int) (b1 b2 : Bool) (na : Nat) (b : List (Int × Int)) (vs : List Int) (kk : Nat) (st : St) : Prop := ∃ (i : Nat) (v : AV), kk = b.length - i ∧ i ≤ b.length ∧ st.t 0 = .ptr m 0 0 ∧ st.t 2 = .ro b2 (nums vs) ∧ st.t 8 = v ∧ st.t 13 = .ro b1 (opsE b) ∧ st.t 14 = I b.length ∧ st.t 15 = I i ∧ OutG 1 3 st.h st.c v (nums (evS vs (b.take i))) ∧ (evS vs (b.take i)).length ≤ i ∧ hgt na (b.drop i) (evS vs (b.take i)).length = some 1 ∧ (∀ n ∈ evS vs (b.take i), inR n) ∧ st.h m = some (mcB (bud - i)) ∧ m < st.c
def MVE (m : Nat) (bud : Int) (vs : List Int) (b : List (Int × Int)) (e : Ex) (st : St) : Prop := e = .exit 0 ∧ ∃ v, st.t 8 = v ∧ OutG 1 3 st.h st.c v (nums (evS vs b)) ∧ (evS vs b).length = 1 ∧ st.h m = some (mcB (bud - b.length))
def MROut (m : Nat) (x bud : Int) (o : Option (AV × Heap × Nat)) : Prop := ∃ h c, o = some (.tup [I x, B true], h, c) ∧ h m = some (mcB bud)
theorem mrun_ev {m : Nat} {bud : Int} {h0 : Heap} {c0 : Nat} (hm0 : h0 m = some (mcB bud)) (hmc0 : m < c0) (hbl : b.length ≤ bud) (hbu : bud ≤ 100000) (hB : Bal na b) (hl : b.length ≤ 60) (hv : okV vs) (hvl : vs.length = na) (hna : na ≤ 1000) :
    MROut m (evB vs b) (bud - b.length) (callA mZ (run Tryz.prog mZ) 63 [.ptr m 0 0, .ro b1 (opsE b), .ro b2 (nums vs)] h0 c0) := by
  rw [call_heap rfl, run_eq (show mZ 63 = some .heap from rfl) rfl, Tryz.func63]
  simp -implicitDefEqProofs [Tryz.f63, Option.bind_assoc, -decide_eq_true_eq, -decide_eq_false_iff_not, -List.any_eq_true, -List.any_eq_false, -bne_iff_ne, -beq_iff_eq, -beq_eq_false_iff_ne, -bne_eq_false_iff_eq]
  refine loop_to (R := MROut m (evB vs b) (bud - b.length)) (MV m bud b1 b2 na b vs) (MVE m bud vs b) ?_ ?_ b.length _ ?_
  · rintro kk ⟨t, h, c⟩ ⟨i, v, rfl, hi, a0, a2, a8, a13, a14, a15, O, hsi, H, hin, hm, hmc⟩
    simp only at a0 a2 a8 a13 a14 a15 O hm hmc
    by_cases g : i < b.length
    · have g1 : decide (i < b.length) = true := by simp [g]
      have w2 : IntKind.i64.wrap ((i : Int) + 1) = ((i + 1 : Nat) : Int) := wrap_succ (by omega)
      obtain ⟨q, hq⟩ : ∃ q, b[i]? = some q := ⟨b[i], by simp [g]⟩
      obtain ⟨k1, k2, k3⟩ := hgt_drop hq H
      have hst := take_step (vs := vs) hq
      have hlen := stepP_len (na := na) (vs := vs) k2
      have hin2 := stepP_in k1 hv hin
      rw [← hst] at hlen hin2
      rw [← hlen] at k3
      have hsi2 : (evS vs (b.take (i + 1))).length ≤ i + 1 := by rw [hlen]; omega
      have hlenv : ∀ (h : Heap) (c : Nat), builtinA Tryz.prog .len [30] h c [v] = some (I ((evS vs (b.take i)).length : Nat), h, c) := by
        intro h c
        rcases O with ⟨rfl, h1⟩ | ⟨n, rfl, _⟩
        · have : evS vs (b.take i) = [] := by simpa using h1
          rw [this]; rfl
        · simp
      have fin : ∀ (t' : Nat → AV) (h' : Heap) (c' : Nat) (v' : AV), t' 0 = .ptr m 0 0 → t' 2 = .ro b2 (nums vs) → t' 8 = v' → t' 13 = .ro b1 (opsE b) → t' 14 = I b.length → t' 15 = I ((i + 1 : Nat) : Int) → OutG 1 3 h' c' v' (nums (evS vs (b.take (i + 1)))) → h' m = some (mcB (bud - i - 1)) → m < c' → ∃ k', k' < b.length - i ∧ MV m bud b1 b2 na b vs k' ⟨t', h', c'⟩ := by
        intro t' h' c' v' x0 x2 x8 x13 x14 x15 O' hm' hc'
        exact ⟨b.length - (i + 1), by omega, i + 1, v', rfl, by omega, x0, x2, x8, x13, x14, x15, O', hsi2, k3, hin2, by show h' m = _; rw [hm']; congr 2; omega, hc'⟩
      have k10 := known_10 k1
      obtain ⟨st, hste⟩ : ∃ st, st = evS vs (b.take i) := ⟨_, rfl⟩
      rw [← hste] at O hsi H hin hst hlen hlenv k2
      obtain ⟨k, w⟩ := q
      simp only at k1 k2 hlen k10
      have hmn : nm v ≠ some m := fun e => by
        obtain ⟨_, y, hy, ht⟩ := O.ty e
        rw [hm] at hy
        cases hy
        cases ht
      have hmc' : m ≠ c := by omega
      -- the price
      obtain ⟨h1, c1, e1, hm1, hc1, hf1⟩ := pay_c (h := (h.put c (some ⟨2, [[I 0, I 0]], some 108⟩)).put c (some ⟨2, [[I k, I w]], some 108⟩)) (c := c + 1) (m := m) (k := k) (w := w) (bud := bud - i) (by simp [hmc', hm]) (by omega) k10 (by omega) (by omega)
      have hcel : h1 c = some ⟨2, [[I k, I w]], some 108⟩ := by rw [hf1 c (by omega) (by omega)]; simp
      have O1 : OutG 1 3 h1 c1 v (nums st) := O.frame (by omega) fun j hj hjc => by
        have : j ≠ m := fun e => hmn (by rw [hj, e])
        rw [hf1 j (by omega) this]
        have : j ≠ c := by omega
        simp [this]
      have e2 := fun h c => pops_c (k, w) k10 h c
      simp only at e2
      obtain ⟨x, y, s1, s2, hx, OS, hny⟩ := cuts_c O1 (st.length - popsP k) (by omega)
      have n0 : IntKind.i64.wrap ((st.length : Int) - (popsP k : Int)) = ((st.length - popsP k : Nat) : Int) := by rw [wrap_id (by omega) (by omega)]; omega
      obtain ⟨v2, h2, c2, e3, R2, hc2, hf2, hs2⟩ := clone_c (h := h1) (c := c1) (x := x) (l := st.drop (st.length - popsP k)) (by simp; omega) (by
        rcases hx with ⟨a, b⟩ | a | ⟨n, off, a, b⟩
        · exact .inl ⟨a, b⟩
        · exact .inr (.inl a)
        · exact .inr (.inr ⟨n, off, a, b h1 fun _ _ => rfl⟩))
      obtain ⟨r1, r2, r3⟩ := R2.np
      have hmy : nm y ≠ some m := by
        rcases hny with hy | hy
        · rw [hy]; simp
        · rw [hy]; exact hmn
      have OS2 : OutS 1 3 h2 c2 y (nums (st.take (st.length - popsP k))) := OS.frame hc2 fun j hj hjc => hf2 j hjc
      have hm2 : h2 m = some (mcB (bud - i - 1)) := by rw [hf2 m (by omega), hm1]
      have hcel2 : h2 c = some ⟨2, [[I k, I w]], some 108⟩ := by rw [hf2 c (by omega), hcel]
      obtain ⟨y1, y2, y3⟩ := OS2.nopan
      have xnp : x.isPan = false ∧ okc x = true ∧ x.cells = [x] := by
        rcases hx with ⟨rfl, _⟩ | rfl | ⟨n, off, rfl, _⟩ <;> exact ⟨rfl, rfl, rfl⟩
      obtain ⟨x1', x2', x3'⟩ := xnp
      have psh := fun z => push_c OS2 (by simp; omega) z
      have hpm : ∀ {h' : Heap} {c' : Nat} {v' : AV}, Grown h2 c2 y h' c' v' → h' m = some (mcB (bud - i - 1)) := fun G => by rw [G.get m (by omega) hmy, hm2]
      by_cases h0 : k = 0
      · subst h0
        obtain ⟨v', h', c', e, O2, G⟩ := psh w
        have G1 := G.le
        obtain ⟨q1, q2, q3⟩ := O2.nopan
        have hs : evS vs (b.take (i + 1)) = st ++ [w] := by rw [hst]; simp [stepP]
        have hpp : st.take (st.length - popsP 0) = st := by simp [popsP]
        rw [hpp] at O2
        rw [hs] at fin
        simp -implicitDefEqProofs [a0, a2, a8, a13, a14, a15, g1, hq, e1, e2, e3, hm1, hm2, hcel, hcel2, n0, s1, s2, putV_np, r1, r2, r3, x1', x2', x3', y1, y2, y3, hlenv, w2, -appendA, e, q1, q2, q3, to_normal, to_exit, to_ret, -decide_eq_true_eq, -decide_eq_false_iff_not, -List.any_eq_true, -List.any_eq_false, -bne_iff_ne, -beq_iff_eq, -beq_eq_false_iff_ne, -bne_eq_false_iff_eq]
        exact fin _ _ _ v' (by simp [a0]) (by simp [a2]) (by simp) (by simp [a13]) (by simp [a14]) (by simp) O2 (hpm G) (by omega)
      have b0 : (k == 0) = false := by simpa using h0
      by_cases h1k : k = 1
      · subst h1k
        obtain ⟨j, hj, hw⟩ : ∃ j : Nat, w = j ∧ j < vs.length := by
          unfold knownP at k1
          simp at k1
          exact ⟨w.toNat, by omega, by omega⟩
        subst hj
        obtain ⟨z, hz⟩ : ∃ z, vs[j]? = some z := ⟨vs[j], by simp [hw]⟩
        obtain ⟨v', h', c', e, O2, G⟩ := psh z
        have G1 := G.le
        obtain ⟨q1, q2, q3⟩ := O2.nopan
        have hs : evS vs (b.take (i + 1)) = st ++ [z] := by rw [hst]; simp [stepP, hz]
        have hpp : st.take (st.length - popsP 1) = st := by simp [popsP]
        rw [hpp] at O2
        rw [hs] at fin
        simp -implicitDefEqProofs [a0, a2, a8, a13, a14, a15, g1, hq, e1, e2, e3, hm1, hm2, hcel, hcel2, n0, s1, s2, putV_np, r1, r2, r3, x1', x2', x3', y1, y2, y3, hlenv, w2, -appendA, e, q1, q2, q3, hz, to_normal, to_exit, to_ret, -decide_eq_true_eq, -decide_eq_false_iff_not, -List.any_eq_true, -List.any_eq_false, -bne_iff_ne, -beq_iff_eq, -beq_eq_false_iff_ne, -bne_eq_false_iff_eq]
        exact fin _ _ _ v' (by simp [a0]) (by simp [a2]) (by simp) (by simp [a13]) (by simp [a14]) (by simp) O2 (hpm G) (by omega)
      have b1' : (k == 1) = false := by simpa using h1k
      have e100 := fun (b : Bool) (h : Heap) (c : Nat) => truth3_c b h c
      by_cases h9 : k = 9
      · subst h9
        have hp3 : 3 ≤ st.length := k2
        have p9 : popsP 9 = 3 := rfl
        rw [p9] at e2 n0 s1 s2 R2 OS OS2 psh
        have n0 : IntKind.i64.wrap ((st.length : Int) - 3) = ((st.length - 3 : Nat) : Int) := n0
        obtain ⟨z1, hz1⟩ : ∃ x, st[st.length - 1]? = some x := ⟨st[st.length - 1], by simp⟩
        obtain ⟨z2, hz2⟩ : ∃ x, st[st.length - 2]? = some x := ⟨st[st.length - 2], by simp⟩
        obtain ⟨z3, hz3⟩ : ∃ x, st[st.length - 3]? = some x := ⟨st[st.length - 3], by simp⟩
        rw [drop3 hz3 hz2 hz1 hp3] at R2
        rcases R2 with ⟨hno, _⟩ | ⟨n2, rfl, hn2, hb2⟩
        · cases hno
        obtain ⟨v', h', c', e, O2, G⟩ := psh (if z3 = 0 then z1 else z2)
        have G1 := G.le
        obtain ⟨q1, q2, q3⟩ := O2.nopan
        have hs : evS vs (b.take (i + 1)) = st.take (st.length - 3) ++ [if z3 = 0 then z1 else z2] := by rw [hst]; simp [stepP, hz1, hz2, hz3]
        rw [hs] at fin
        have u0 : IntKind.i64.wrap (2 - 0) = 2 := by kernel_rfl
        have u1 : IntKind.i64.wrap (2 - 1) = 1 := by kernel_rfl
        have u2 : IntKind.i64.wrap 2 = 2 := by kernel_rfl
        have u3 : IntKind.i64.wrap 1 = 1 := by kernel_rfl
        by_cases hx0 : z3 = 0
        · have hx0' : (z3 != 0) = false := by simpa using hx0
          rw [if_pos hx0] at e O2 fin
          simp -implicitDefEqProofs [a0, a2, a8, a13, a14, a15, g1, hq, e1, e2, e3, hm1, hm2, hcel, hcel2, n0, s1, s2, putV_np, r1, r2, r3, x1', x2', x3', y1, y2, y3, hlenv, w2, -appendA, e, q1, q2, q3, b0, b1', hb2, hx0', e100, u0, u1, u2, u3, to_normal, to_exit, to_ret, -decide_eq_true_eq, -decide_eq_false_iff_not, -List.any_eq_true, -List.any_eq_false, -bne_iff_ne, -beq_iff_eq, -beq_eq_false_iff_ne, -bne_eq_false_iff_eq]
          exact fin _ _ _ v' (by simp [a0]) (by simp [a2]) (by simp) (by simp [a13]) (by simp [a14]) (by simp) O2 (hpm G) (by omega)
        · have hx0' : (z3 != 0) = true := by simpa using hx0
          rw [if_neg hx0] at e O2 fin
          simp -implicitDefEqProofs [a0, a2, a8, a13, a14, a15, g1, hq, e1, e2, e3, hm1, hm2, hcel, hcel2, n0, s1, s2, putV_np, r1, r2, r3, x1', x2', x3', y1, y2, y3, hlenv, w2, -appendA, e, q1, q2, q3, b0, b1', hb2, hx0', e100, u0, u1, u2, u3, to_normal, to_exit, to_ret, -decide_eq_true_eq, -decide_eq_false_iff_not, -List.any_eq_true, -List.any_eq_false, -bne_iff_ne, -beq_iff_eq, -beq_eq_false_iff_ne, -bne_eq_false_iff_eq]
          exact fin _ _ _ v' (by simp [a0]) (by simp [a2]) (by simp) (by simp [a13]) (by simp [a14]) (by simp) O2 (hpm G) (by omega)
      have b9 : (k == 9) = false := by simpa using h9
      have b10 : (k == 10) = false := by simpa using k10
      have p2 : popsP k = 2 := by unfold popsP; simp [h0, h1k, h9]
      have hp2 : 2 ≤ st.length := by omega
      have hk2 := known_two k1 h0 h1k h9
      rw [p2] at e2 n0 s1 s2 R2 OS OS2 psh
      have n0 : IntKind.i64.wrap ((st.length : Int) - 2) = ((st.length - 2 : Nat) : Int) := n0
      obtain ⟨z1, hz1⟩ : ∃ x, st[st.length - 1]? = some x := ⟨st[st.length - 1], by simp⟩
      obtain ⟨z2, hz2⟩ : ∃ x, st[st.length - 2]? = some x := ⟨st[st.length - 2], by simp⟩
      rw [drop2 hz2 hz1 hp2] at R2
      rcases R2 with ⟨hno, _⟩ | ⟨n2, rfl, hn2, hb2⟩
      · cases hno
      obtain ⟨v', h', c', e, O2, G⟩ := psh (twoP k z2 z1)
      have G1 := G.le
      obtain ⟨q1, q2, q3⟩ := O2.nopan
      have hs : evS vs (b.take (i + 1)) = st.take (st.length - 2) ++ [twoP k z2 z1] := by rw [hst]; simp [stepP, h0, h1k, h9, hz1, hz2]
      rw [hs] at fin
      obtain ⟨r, er, hr⟩ := two_c hk2 (hin z2 (List.mem_of_getElem? hz2)) (hin z1 (List.mem_of_getElem? hz1))
      have ek := fun h c => kept_c r h c
      rw [hr] at ek
      rcases OS2 with ⟨rfl, hemp⟩ | ⟨ny, rest, rfl, hny1, hny2⟩
      · simp -implicitDefEqProofs [a0, a2, a8, a13, a14, a15, g1, hq, e1, e2, e3, hm1, hm2, hcel, hcel2, n0, s1, s2, putV_np, r1, r2, r3, x1', x2', x3', y1, y2, y3, hlenv, w2, lay_put, -appendA, e, q1, q2, q3, b0, b1', b9, b10, hb2, er, ek, to_normal, to_exit, to_ret, -decide_eq_true_eq, -decide_eq_false_iff_not, -List.any_eq_true, -List.any_eq_false, -bne_iff_ne, -beq_iff_eq, -beq_eq_false_iff_ne, -bne_eq_false_iff_eq]
        exact fin _ _ _ v' (by simp [a0]) (by simp [a2]) (by simp) (by simp [a13]) (by simp [a14]) (by simp) O2 (hpm G) (by omega)
      · have hmin : min (st.length - 2) st.length = st.length - 2 := by omega
        simp only [List.length_map, List.length_take, hmin] at e s2
        simp -implicitDefEqProofs [a0, a2, a8, a13, a14, a15, g1, hq, e1, e2, e3, hm1, hm2, hcel, hcel2, n0, s1, s2, putV_np, r1, r2, r3, x1', x2', x3', y1, y2, y3, hlenv, w2, lay_put, -appendA, e, q1, q2, q3, b0, b1', b9, b10, hb2, er, ek, to_normal, to_exit, to_ret, -decide_eq_true_eq, -decide_eq_false_iff_not, -List.any_eq_true, -List.any_eq_false, -bne_iff_ne, -beq_iff_eq, -beq_eq_false_iff_ne, -bne_eq_false_iff_eq]
        exact fin _ _ _ v' (by simp [a0]) (by simp [a2]) (by simp) (by simp [a13]) (by simp [a14]) (by simp) O2 (hpm G) (by omega)
    · have g1 : decide (i < b.length) = false := by simp; omega
      rw [List.take_of_length_le (by omega)] at O H hin
      rw [List.drop_eq_nil_of_le (by omega)] at H
      simp -implicitDefEqProofs [a0, a2, a8, a13, a14, a15, g1, to_normal, to_exit, to_ret, -decide_eq_true_eq, -decide_eq_false_iff_not, -List.any_eq_true, -List.any_eq_false, -bne_iff_ne, -beq_iff_eq, -beq_eq_false_iff_ne, -bne_eq_false_iff_eq]
      exact ⟨rfl, v, by simp [a8], O, by simpa [hgt] using H, by show h m = _; rw [hm]; congr 2; omega⟩
  · rintro e ⟨t, h, c⟩ ⟨rfl, v, a8, O, hl1, hm⟩
    simp only at a8 O hm
    obtain ⟨x, hx⟩ : ∃ x, evS vs b = [x] := List.length_eq_one_iff.1 hl1
    have hx2 : evB vs b = x := by unfold evB; rw [hx]; rfl
    rw [hx] at O
    rw [hx2]
    obtain ⟨n, hn, hnc, hb, _⟩ := O.cut 0 (by simp)
    subst hn
    simp -implicitDefEqProofs [a8, hb, -decide_eq_true_eq, -decide_eq_false_iff_not, -List.any_eq_true, -List.any_eq_false, -bne_iff_ne, -beq_iff_eq, -beq_eq_false_iff_ne, -bne_eq_false_iff_eq]
    exact ⟨_, _, rfl, hm⟩
  · exact ⟨0, .ro true [], by simp, by simp, by simp, by simp, by simp, by simp, by simp, by simp, .inl ⟨rfl, rfl⟩, by simp [evS], by simpa [evS] using hB 0, by simp [evS], by simpa using hm0, by simpa using hmc0⟩
end
end Go.Proofs.YtmpcjfkfgjpebaaGreatDoor.AM
namespace Go.Proofs.YtmpcjfkfgjpebaaGreatDoor.AM
open Go Go.Proofs
attribute [local simp] fieldAddrA ld setCells stA skipV appendA hd makeA bnd kindA freshA killOk loadsAt edgesOn Region.binds newT empT lay_get allocA buildA buildRow lenA els indexAddrA isNil opA evA lit_int lit_bool lit_nil lit_nilf yldA binI unA pickA boolV intV fieldA mk eqs nilC mayP
section
variable {na : Nat} {b : List (Int × Int)} {vs : List Int} {b1 b2 : Bool}
theorem trunG_ev (hB : Bal na b) (hl : b.length ≤ 60) (hv : okV vs) (hvl : vs.length = na) (hna : na ≤ 1000) :
    ∃ h c, run Tryz.prog mZ 27 [.ro true [], .ro b1 (opsE b), .ro b2 (nums vs), I 100000] Heap.none 0 = some (.tup [I (evB vs b), I b.length, B true, E 0], h, c) := by
  rw [run_eq (show mZ 27 = some .pure from rfl) rfl, Tryz.func27]
  have e1 := fun h c => check_c h c
  have e2 := fun h c => sound_c b1 vs.length b (by rw [hvl]; exact hB) hl h c
  have e3 := fun h c => vals_c b2 vs (by omega) hv h c
  have e4 := fun h c => costs_c h c
  obtain ⟨h', c', e5, e6⟩ := mrun_ev (m := 0) (bud := 100000) (h0 := Heap.none.put 0 (some (mcB 100000))) (c0 := 1) (b1 := b1) (b2 := b2) (by simp) (by omega) (by omega) (by omega) hB hl hv hvl hna
  have w0 : IntKind.i64.wrap (100000 - (100000 - (b.length : Int))) = (b.length : Int) := by rw [wrap_id (by omega) (by omega)]; omega
  simp -implicitDefEqProofs [Tryz.f27, e1, e2, e3, e4, e5, e6, w0, -decide_eq_true_eq, -decide_eq_false_iff_not, -List.any_eq_true, -List.any_eq_false, -bne_iff_ne, -beq_iff_eq, -beq_eq_false_iff_ne, -bne_eq_false_iff_eq]
theorem trunG_c (hB : Bal na b) (hl : b.length ≤ 60) (hv : okV vs) (hvl : vs.length = na) (hna : na ≤ 1000) (h : Heap) (c : Nat) :
    callA mZ (run Tryz.prog mZ) 27 [.ro true [], .ro b1 (opsE b), .ro b2 (nums vs), I 100000] h c = some (.tup [I (evB vs b), I b.length, B true, E 0], h, c) := by
  obtain ⟨h', c', e⟩ := trunG_ev (b1 := b1) (b2 := b2) hB hl hv hvl hna
  exact call_of rfl rfl e rfl rfl
end
abbrev valsP (vs : List Int) (l : Ln) : List Int := l.bodies.map (evB vs)
def sumL (bs : List (List (Int × Int))) : Nat := (bs.map List.length).foldr (· + ·) 0
def costP (l : Ln) : Nat := 1 + sumL l.bodies
section
variable {na : Nat} {l : Ln} {vs : List Int} {bb b2 : Bool}
def EV (b2 : Bool) (vs : List Int) (l : Ln) (bb : Bool) (kk : Nat) (st : St) : Prop := ∃ (i : Nat) (v : AV), kk = l.bodies.length - i ∧ i ≤ l.bodies.length ∧ st.t 1 = .ro b2 (nums vs) ∧ st.t 5 = v ∧ st.t 13 = .ro bb (bodR l.bodies) ∧ st.t 14 = I l.bodies.length ∧ st.t 15 = I i ∧ OutG 1 3 st.h st.c v (nums ((valsP vs l).take i))
def EVE (vs : List Int) (l : Ln) (e : Ex) (st : St) : Prop := e = .exit 0 ∧ ∃ v, st.t 5 = v ∧ OutG 1 3 st.h st.c v (nums (valsP vs l))
def EVO (vs : List Int) (l : Ln) (o : Option (AV × Heap × Nat)) : Prop := ∃ v h c, o = some (v, h, c) ∧ OutG 1 3 h c v (nums (valsP vs l))
theorem eval_ev (hv : l.pv = .ro bb (bodR l.bodies)) (hBo : BodOk na l.bodies) (hb6 : l.bodies.length ≤ 6) (hvs : okV vs) (hvl : vs.length = na) (hna : na ≤ 1000) : EVO vs l (run Tryz.prog mZ 69 [.agg l.row, .ro b2 (nums vs)] Heap.none 0) := by
  rw [run_eq (show mZ 69 = some .pure from rfl) rfl, Tryz.func69, row_ro hv]
  simp -implicitDefEqProofs [Tryz.f69, Option.bind_assoc, -decide_eq_true_eq, -decide_eq_false_iff_not, -List.any_eq_true, -List.any_eq_false, -bne_iff_ne, -beq_iff_eq, -beq_eq_false_iff_ne, -bne_eq_false_iff_eq]
  refine loop_to (R := EVO vs l) (EV b2 vs l bb) (EVE vs l) ?_ ?_ l.bodies.length _ ?_
  · rintro kk ⟨t, h, c⟩ ⟨i, v, rfl, hi, a1, a5, a13, a14, a15, O⟩
    simp only at a1 a5 a13 a14 a15 O
    by_cases g : i < l.bodies.length
    · have g1 : decide (i < l.bodies.length) = true := by simp [g]
      have w2 : IntKind.i64.wrap ((i : Int) + 1) = ((i + 1 : Nat) : Int) := wrap_succ (by omega)
      obtain ⟨q, hq⟩ : ∃ q, l.bodies[i]? = some q := ⟨l.bodies[i], by simp [g]⟩
      obtain ⟨B1, B2⟩ := hBo q (List.mem_of_getElem? hq)
      have e1 := fun h c => trunG_c (b1 := false) (b2 := b2) B1 B2 hvs hvl hna h c
      have htk : (valsP vs l).take (i + 1) = (valsP vs l).take i ++ [evB vs q] := by
        rw [List.take_add_one]
        simp [hq]
      obtain ⟨v', h', c', e, O2, G⟩ := push_c O.toS (by simp; omega) (evB vs q)
      rw [← htk] at O2
      obtain ⟨q1, q2, q3⟩ := O2.nopan
      simp only [opsE] at e1
      simp -implicitDefEqProofs [a1, a5, a13, a14, a15, g1, hq, e1, w2, -appendA, e, q1, q2, q3, to_normal, to_exit, to_ret, -decide_eq_true_eq, -decide_eq_false_iff_not, -List.any_eq_true, -List.any_eq_false, -bne_iff_ne, -beq_iff_eq, -beq_eq_false_iff_ne, -bne_eq_false_iff_eq]
      exact ⟨l.bodies.length - (i + 1), by omega, i + 1, v', rfl, by omega, by simp [a1], by simp, by simp [a13], by simp [a14], by simp, O2⟩
    · have g1 : decide (i < l.bodies.length) = false := by simp; omega
      rw [List.take_of_length_le (by simp; omega)] at O
      simp -implicitDefEqProofs [a1, a5, a13, a14, a15, g1, to_normal, to_exit, to_ret, -decide_eq_true_eq, -decide_eq_false_iff_not, -List.any_eq_true, -List.any_eq_false, -bne_iff_ne, -beq_iff_eq, -beq_eq_false_iff_ne, -bne_eq_false_iff_eq]
      exact ⟨rfl, v, by simp [a5], O⟩
  · rintro e ⟨t, h, c⟩ ⟨rfl, v, a5, O⟩
    simp only at a5 O
    obtain ⟨q1, q2, q3⟩ := O.nopan
    simp -implicitDefEqProofs [a5, q1, q2, q3, -decide_eq_true_eq, -decide_eq_false_iff_not, -List.any_eq_true, -List.any_eq_false, -bne_iff_ne, -beq_iff_eq, -beq_eq_false_iff_ne, -bne_eq_false_iff_eq]
    exact ⟨_, _, _, rfl, O⟩
  · exact ⟨0, .ro true [], by simp, by simp, by simp, by simp, by simp, by simp, by simp, .inl ⟨rfl, by simp⟩⟩
theorem okN {h : Heap} {n : Nat} (l : List Int) : ((nums l).all fun (e : List AV) => e.all (okO h (n + 1))) = true := by
  rw [List.all_eq_true]
  intro e he
  obtain ⟨p, _, rfl⟩ := List.mem_map.1 he
  rfl
theorem frz_nums {h : Heap} {c : Nat} {v : AV} {l : List Int} {n : Nat} (O : OutG 1 3 h c v (nums l)) : ∃ b, frz h (n + 2) v = some (.ro b (nums l)) ∧ okO h (n + 2) v = true := by
  obtain ⟨b, hb⟩ := frz_out (n := n + 1) O (frzN l) id
  refine ⟨b, hb, ?_⟩
  rcases O with ⟨rfl, h1⟩ | ⟨m, rfl, h1, h2, h3⟩
  · rfl
  · have hel : els h (.sl m 1 0 (nums l).length) = some (nums l) := by
      simp only [els, h3, Option.bind_some, List.drop_zero, Nat.zero_add]
      rw [if_pos (Nat.le_refl _), List.take_length]
    show (match els h (.sl m 1 0 (nums l).length) with | some es => es.all fun (e : List AV) => e.all (okO h (n + 1)) | none => false) = true
    rw [hel]
    exact okN l
theorem frz_row (hv : l.pv = .ro bb (bodR l.bodies)) (h : Heap) : frz h depth (.agg l.row) = some (.agg l.row) := by
  rw [row_ro hv]
  rfl
theorem eval_c (hv : l.pv = .ro bb (bodR l.bodies)) (hBo : BodOk na l.bodies) (hb6 : l.bodies.length ≤ 6) (hvs : okV vs) (hvl : vs.length = na) (hna : na ≤ 1000) : ∃ b', ∀ (h : Heap) (c : Nat) (x : AV), frz h depth x = some (.ro b2 (nums vs)) → callA mZ (run Tryz.prog mZ) 69 [.agg l.row, x] h c = some (.ro b' (nums (valsP vs l)), h, c) := by
  obtain ⟨v, h', c', e, O⟩ := eval_ev (b2 := b2) hv hBo hb6 hvs hvl hna
  obtain ⟨b', f1, f2⟩ := frz_nums (n := 10) O
  refine ⟨b', fun h c x hx => ?_⟩
  rw [call_pure _ _ _ _ _ _ rfl]
  have hm : ([.agg l.row, x] : List AV).mapM (frz h depth) = some [.agg l.row, .ro b2 (nums vs)] := by
    simp only [List.mapM_cons, List.mapM_nil, frz_row hv, hx]
    rfl
  rw [hm, Option.bind_some, e, Option.bind_some]
  have f1' : frz h' depth v = some (.ro b' (nums (valsP vs l))) := f1
  have f2' : okO h' depth v = true := f2
  simp only [f1', Option.bind_some, f2', Bool.or_true, if_true]
theorem sumL_take {bs : List (List (Int × Int))} {i : Nat} {q : List (Int × Int)} (hq : bs[i]? = some q) : sumL (bs.take (i + 1)) = sumL (bs.take i) + q.length := by
  rw [List.take_add_one, hq]
  unfold sumL
  simp only [Option.toList_some, List.map_append, List.map_cons, List.map_nil]
  induction (bs.take i).map List.length with
  | nil => simp
  | cons x r ih => simp only [List.cons_append, List.foldr_cons, ih]; omega
theorem sumL_le {bs : List (List (Int × Int))} (h : ∀ b ∈ bs, b.length ≤ 60) : sumL bs ≤ 60 * bs.length := by
  unfold sumL
  induction bs with
  | nil => simp
  | cons x r ih =>
    have := ih fun b hb => h b (by simp [hb])
    have h2 := h x (by simp)
    simp only [List.map_cons, List.foldr_cons, List.length_cons]
    omega
theorem cost_ev (hv : l.pv = .ro bb (bodR l.bodies)) (hB : ∀ b ∈ l.bodies, b.length ≤ 60) (hb6 : l.bodies.length ≤ 6) : IOut (costP l) (run Tryz.prog mZ 35 [.agg l.row] Heap.none 0) := by
  rw [run_eq (show mZ 35 = some .pure from rfl) rfl, Tryz.func35, row_ro hv]
  simp -implicitDefEqProofs [Tryz.f35, Option.bind_assoc, -decide_eq_true_eq, -decide_eq_false_iff_not, -List.any_eq_true, -List.any_eq_false, -bne_iff_ne, -beq_iff_eq, -beq_eq_false_iff_ne, -bne_eq_false_iff_eq]
  refine loop_to (R := IOut (costP l)) (fun kk st => ∃ i : Nat, kk = l.bodies.length - i ∧ i ≤ l.bodies.length ∧ st.t 3 = I (1 + sumL (l.bodies.take i) : Nat) ∧ st.t 7 = .ro bb (bodR l.bodies) ∧ st.t 8 = I l.bodies.length ∧ st.t 9 = I i)
    (fun e st => e = .exit 0 ∧ st.t 3 = I (costP l)) ?_ ?_ l.bodies.length _ ?_
  · rintro kk ⟨t, h, c⟩ ⟨i, rfl, hi, a3, a7, a8, a9⟩
    simp only at a3 a7 a8 a9
    by_cases g : i < l.bodies.length
    · have g1 : decide (i < l.bodies.length) = true := by simp [g]
      have w2 : IntKind.i64.wrap ((i : Int) + 1) = ((i + 1 : Nat) : Int) := wrap_succ (by omega)
      obtain ⟨q, hq⟩ : ∃ q, l.bodies[i]? = some q := ⟨l.bodies[i], by simp [g]⟩
      have hs := sumL_take hq
      have hle := sumL_le fun b hb => hB b (List.mem_of_mem_take (i := i) hb)
      have hql := hB q (List.mem_of_getElem? hq)
      have htl : (l.bodies.take i).length ≤ 6 := by simp; omega
      obtain ⟨s, hs0⟩ : ∃ s, s = 1 + sumL (l.bodies.take i) := ⟨_, rfl⟩
      rw [← hs0] at a3
      have w3 : IntKind.i64.wrap ((s : Int) + (q.length : Int)) = ((s + q.length : Nat) : Int) := by rw [wrap_id (by omega) (by omega)]; omega
      simp -implicitDefEqProofs [a3, a7, a8, a9, g1, hq, w2, w3, to_normal, to_exit, to_ret, -decide_eq_true_eq, -decide_eq_false_iff_not, -List.any_eq_true, -List.any_eq_false, -bne_iff_ne, -beq_iff_eq, -beq_eq_false_iff_ne, -bne_eq_false_iff_eq]
      exact ⟨l.bodies.length - (i + 1), by omega, i + 1, rfl, by omega, by omega, by omega⟩
    · have g1 : decide (i < l.bodies.length) = false := by simp; omega
      rw [List.take_of_length_le (by omega)] at a3
      simp -implicitDefEqProofs [a3, a7, a8, a9, g1, to_normal, to_exit, to_ret, -decide_eq_true_eq, -decide_eq_false_iff_not, -List.any_eq_true, -List.any_eq_false, -bne_iff_ne, -beq_iff_eq, -beq_eq_false_iff_ne, -bne_eq_false_iff_eq]
      simp [a3, costP]
  · rintro e ⟨t, h, c⟩ ⟨rfl, a3⟩
    simp only at a3
    simp -implicitDefEqProofs [a3, -decide_eq_true_eq, -decide_eq_false_iff_not, -List.any_eq_true, -List.any_eq_false, -bne_iff_ne, -beq_iff_eq, -beq_eq_false_iff_ne, -bne_eq_false_iff_eq]
    exact ⟨_, _, rfl⟩
  · exact ⟨0, by simp, by simp, by simp [sumL], by simp, by simp, by simp⟩
theorem cost_c (hv : l.pv = .ro bb (bodR l.bodies)) (hB : ∀ b ∈ l.bodies, b.length ≤ 60) (hb6 : l.bodies.length ≤ 6) (h : Heap) (c : Nat) : callA mZ (run Tryz.prog mZ) 35 [.agg l.row] h c = some (I (costP l), h, c) := by
  obtain ⟨h', c', e⟩ := cost_ev hv hB hb6
  refine call_of rfl ?_ e rfl rfl
  simp only [List.mapM_cons, List.mapM_nil, frz_row hv]
  rfl
end
end Go.Proofs.YtmpcjfkfgjpebaaGreatDoor.AM
