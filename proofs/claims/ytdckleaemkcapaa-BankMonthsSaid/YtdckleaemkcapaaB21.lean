/- Texts of the proof: part B21. -/
import Derived.Test.YtdckleaemkcapaaB20
set_option maxHeartbeats 0
set_option linter.unusedSimpArgs false
set_option linter.unusedVariables false
set_option linter.unusedSectionVars false
namespace Go.Proofs.Ytdckleaemkcapaa.AM
open Go Go.Proofs
attribute [local simp] AV.cells okc AV.isBad fieldAddrA ld setCells stA skipV appendA hd makeA bnd sliceA kindA freshA killOk loadsAt newT empT lay_get allocA buildA buildRow builtinA lenA els indexAddrA isNil opA evA lit yldA binA binI unA pickA boolV intV fieldA mk flat lf lf.lfs frz
theorem els_up {h h' : Heap} {v : AV} {es : List (List AV)} (H : ∀ l ∈ nm v, ∀ b, h l = some b → h' l = some b) (e : els h v = some es) : els h' v = some es := by
  cases v <;> try exact e
  case sl l s o n =>
    unfold els at e ⊢
    simp only at e ⊢
    obtain ⟨b, hb, e⟩ := Option.bind_eq_some_iff.mp e
    rw [H l (by simp) b hb]
    exact e
theorem Own.up {Q : Nat → Prop} {c : Nat} {h : Heap} {la : Nat} {v : AV} {accs : List Acc} {book : List Ent} {rows : List (List AV)} (O : Own Q c h la v accs book rows) {h' : Heap} (hh : ∀ l b, Q l → l < c → h l = some b → h' l = some b) : Own Q c h' la v accs book rows := by
  refine ⟨hh la _ O.sep4.1 O.sep4.2 O.hla, O.len, O.alen, fun i r a hr ha => ?_, ?_, O.bkv, O.sep1, O.sep2, O.sep3, O.sep4, O.fr⟩
  · obtain ⟨vp, vl, rfl, h1, h2⟩ := O.row i r a hr ha
    have key : ∀ (f : Nat) x, (rw5 a.opn a.cash a.loan vp vl)[f]? = some x → ∀ l ∈ nm x, ∀ b, h l = some b → h' l = some b := fun f x hx l hl b hb => hh l b (O.names (.inr (.inr ⟨i, f, _, x, hr, hx, hl⟩))).1 (O.names (.inr (.inr ⟨i, f, _, x, hr, hx, hl⟩))).2 hb
    exact ⟨vp, vl, rfl, els_up (key 3 vp rfl) h1, els_up (key 4 vl rfl) h2⟩
  · exact els_up (fun l hl b hb => hh l b (O.names (.inr (.inl hl))).1 (O.names (.inr (.inl hl))).2 hb) O.bk
theorem cut_none (h h' : Heap) (c : Nat) : (h'.cut c c).over h = h := by
  funext l
  show (if c ≤ l ∧ l < c then h' l else none).or (h l) = h l
  rw [if_neg (by omega)]
  rfl
theorem cut_put (h : Heap) (c : Nat) (b : Blk) : ((Heap.none.put c (some b)).cut c (c + 1)).over h = h.put c (some b) := by
  funext l
  show (if c ≤ l ∧ l < c + 1 then (if l = c then some b else none) else none).or (h l) = if l = c then some b else h l
  by_cases e : l = c
  · subst e; simp
  · rw [if_neg (by omega), if_neg e]; rfl
theorem call_own_mode {f : Nat} {args : List AV} {h h' : Heap} {c c' : Nat} {r : AV} (hm : mdT tblB f = some .own) (e : run Try.prog (mdT tblB) f args Heap.none c = some (r, h', c')) :
    callA (mdT tblB) (run Try.prog (mdT tblB)) f args h c = some (r, (h'.cut c c').over h, c') := by
  unfold callA
  rw [hm]
  simp only [e, Option.map_some]
@[simp] theorem hd_map3 {α : Type} (l : List α) (g : α → List AV) (n : Nat) (hg : ∀ a, (g a).length = n) : hd (l.map g) n = true := by
  cases l with
  | nil => rfl
  | cons x l => simp [hd, hg]
theorem hd_ints (l : List Int) : hd (ints l) 1 = true := hd_map3 l _ 1 fun _ => rfl
theorem hd_ents (l : List Ent) : hd (l.map Ent.cells) 3 = true := hd_map3 l _ 3 fun _ => rfl
theorem hd_accs (l : List Acc) : hd (l.map Acc.cells) 5 = true := hd_map3 l _ 5 fun _ => rfl
theorem clonea_c (z : Bool) (l : List Acc) (hz : z = true → l = []) (hb : l.length ≤ 1000000) (h : Heap) (c : Nat) : callA (mdT tblB) (run Try.prog (mdT tblB)) 88 [.ro z (l.map Acc.cells)] h c =
    bif l.isEmpty then some (bif z then .ro true [] else .emp, h, c) else some (.sl c 5 0 l.length, h.put c (some ⟨5, l.map Acc.cells⟩), c + 1) := by
  have hh := hd_accs l
  have r1 : l.length * 72 ≤ room := by unfold room; omega
  have r2 : l.length ≤ room := by unfold room; omega
  cases hl : l.isEmpty
  · have hz' : z = false := by cases z with | false => rfl | true => rw [hz rfl] at hl; simp at hl
    subst hz'
    have hl' : ¬ (l = []) := by simpa using hl
    have e : run Try.prog (mdT tblB) 88 [.ro false (l.map Acc.cells)] Heap.none c = some (.sl c 5 0 l.length, Heap.none.put c (some ⟨5, l.map Acc.cells⟩), c + 1) := by
      rw [run_eq, show mdT tblB 88 = some .own from rfl, Option.bind_some, Try.func88]
      simp -implicitDefEqProofs [-hd, Try.f88, hl, hl', hh, r1, r2]
    rw [call_own_mode rfl e, cut_put]
    rfl
  · have hl' : l = [] := by simpa using hl
    subst hl'
    cases z
    · have e : run Try.prog (mdT tblB) 88 [.ro false []] Heap.none c = some (.emp, Heap.none, c) := by
        rw [run_eq, show mdT tblB 88 = some .own from rfl, Option.bind_some, Try.func88]
        simp -implicitDefEqProofs [Try.f88]
      rw [List.map_nil, call_own_mode rfl e, cut_none]
      rfl
    · have e : run Try.prog (mdT tblB) 88 [.ro true []] Heap.none c = some (.ro true [], Heap.none, c) := by
        rw [run_eq, show mdT tblB 88 = some .own from rfl, Option.bind_some, Try.func88]
        simp -implicitDefEqProofs [Try.f88]
      rw [List.map_nil, call_own_mode rfl e, cut_none]
      rfl
theorem clonee_c (z : Bool) (l : List Ent) (hz : z = true → l = []) (hb : l.length ≤ 1000000) (h : Heap) (c : Nat) : callA (mdT tblB) (run Try.prog (mdT tblB)) 89 [.ro z (l.map Ent.cells)] h c =
    bif l.isEmpty then some (bif z then .ro true [] else .emp, h, c) else some (.sl c 3 0 l.length, h.put c (some ⟨3, l.map Ent.cells⟩), c + 1) := by
  have hh := hd_ents l
  have r1 : l.length * 24 ≤ room := by unfold room; omega
  have r2 : l.length ≤ room := by unfold room; omega
  cases hl : l.isEmpty
  · have hz' : z = false := by cases z with | false => rfl | true => rw [hz rfl] at hl; simp at hl
    subst hz'
    have hl' : ¬ (l = []) := by simpa using hl
    have e : run Try.prog (mdT tblB) 89 [.ro false (l.map Ent.cells)] Heap.none c = some (.sl c 3 0 l.length, Heap.none.put c (some ⟨3, l.map Ent.cells⟩), c + 1) := by
      rw [run_eq, show mdT tblB 89 = some .own from rfl, Option.bind_some, Try.func89]
      simp -implicitDefEqProofs [-hd, Try.f89, hl, hl', hh, r1, r2]
    rw [call_own_mode rfl e, cut_put]
    rfl
  · have hl' : l = [] := by simpa using hl
    subst hl'
    cases z
    · have e : run Try.prog (mdT tblB) 89 [.ro false []] Heap.none c = some (.emp, Heap.none, c) := by
        rw [run_eq, show mdT tblB 89 = some .own from rfl, Option.bind_some, Try.func89]
        simp -implicitDefEqProofs [Try.f89]
      rw [List.map_nil, call_own_mode rfl e, cut_none]
      rfl
    · have e : run Try.prog (mdT tblB) 89 [.ro true []] Heap.none c = some (.ro true [], Heap.none, c) := by
        rw [run_eq, show mdT tblB 89 = some .own from rfl, Option.bind_some, Try.func89]
        simp -implicitDefEqProofs [Try.f89]
      rw [List.map_nil, call_own_mode rfl e, cut_none]
      rfl
theorem clonei_c (z : Bool) (l : List Int) (hz : z = true → l = []) (hb : l.length ≤ 1000000) (h : Heap) (c : Nat) : callA (mdT tblB) (run Try.prog (mdT tblB)) 90 [.ro z (l.map (fun n => [I n]))] h c =
    bif l.isEmpty then some (bif z then .ro true [] else .emp, h, c) else some (.sl c 1 0 l.length, h.put c (some ⟨1, l.map (fun n => [I n])⟩), c + 1) := by
  have hh := hd_ints l
  have r1 : l.length * 8 ≤ room := by unfold room; omega
  have r2 : l.length ≤ room := by unfold room; omega
  cases hl : l.isEmpty
  · have hz' : z = false := by cases z with | false => rfl | true => rw [hz rfl] at hl; simp at hl
    subst hz'
    have hl' : ¬ (l = []) := by simpa using hl
    have e : run Try.prog (mdT tblB) 90 [.ro false (l.map (fun n => [I n]))] Heap.none c = some (.sl c 1 0 l.length, Heap.none.put c (some ⟨1, l.map (fun n => [I n])⟩), c + 1) := by
      rw [run_eq, show mdT tblB 90 = some .own from rfl, Option.bind_some, Try.func90]
      simp -implicitDefEqProofs [-hd, Try.f90, hl, hl', hh, r1, r2]
    rw [call_own_mode rfl e, cut_put]
    rfl
  · have hl' : l = [] := by simpa using hl
    subst hl'
    cases z
    · have e : run Try.prog (mdT tblB) 90 [.ro false []] Heap.none c = some (.emp, Heap.none, c) := by
        rw [run_eq, show mdT tblB 90 = some .own from rfl, Option.bind_some, Try.func90]
        simp -implicitDefEqProofs [Try.f90]
      rw [List.map_nil, call_own_mode rfl e, cut_none]
      rfl
    · have e : run Try.prog (mdT tblB) 90 [.ro true []] Heap.none c = some (.ro true [], Heap.none, c) := by
        rw [run_eq, show mdT tblB 90 = some .own from rfl, Option.bind_some, Try.func90]
        simp -implicitDefEqProofs [Try.f90]
      rw [List.map_nil, call_own_mode rfl e, cut_none]
      rfl
@[simp] theorem md_3 : mdT tblB 3 = some .pure := rfl
@[simp] theorem md_4 : mdT tblB 4 = some .pure := rfl
@[simp] theorem md_5 : mdT tblB 5 = some .pure := rfl
@[simp] theorem md_6 : mdT tblB 6 = some .pure := rfl
@[simp] theorem md_7 : mdT tblB 7 = some .pure := rfl
@[simp] theorem md_8 : mdT tblB 8 = some .pure := rfl
@[simp] theorem md_9 : mdT tblB 9 = some .pure := rfl
@[simp] theorem md_10 : mdT tblB 10 = some .pure := rfl
@[simp] theorem md_11 : mdT tblB 11 = some .pure := rfl
@[simp] theorem md_12 : mdT tblB 12 = some .pure := rfl
@[simp] theorem md_13 : mdT tblB 13 = some .pure := rfl
@[simp] theorem md_14 : mdT tblB 14 = some .pure := rfl
@[simp] theorem md_15 : mdT tblB 15 = some .pure := rfl
@[simp] theorem md_16 : mdT tblB 16 = some .pure := rfl
@[simp] theorem md_17 : mdT tblB 17 = some .pure := rfl
@[simp] theorem md_18 : mdT tblB 18 = some .pure := rfl
@[simp] theorem md_19 : mdT tblB 19 = some .pure := rfl
@[simp] theorem md_20 : mdT tblB 20 = some .pure := rfl
@[simp] theorem md_21 : mdT tblB 21 = some .pure := rfl
@[simp] theorem md_22 : mdT tblB 22 = some .pure := rfl
@[simp] theorem md_23 : mdT tblB 23 = some .pure := rfl
@[simp] theorem md_24 : mdT tblB 24 = some .pure := rfl
@[simp] theorem md_25 : mdT tblB 25 = some .pure := rfl
@[simp] theorem md_26 : mdT tblB 26 = some .pure := rfl
@[simp] theorem md_27 : mdT tblB 27 = some .pure := rfl
@[simp] theorem md_28 : mdT tblB 28 = some .pure := rfl
@[simp] theorem md_29 : mdT tblB 29 = some .pure := rfl
@[simp] theorem md_30 : mdT tblB 30 = some .pure := rfl
@[simp] theorem md_31 : mdT tblB 31 = some .pure := rfl
@[simp] theorem md_32 : mdT tblB 32 = some .pure := rfl
@[simp] theorem md_33 : mdT tblB 33 = some .pure := rfl
@[simp] theorem md_34 : mdT tblB 34 = some .pure := rfl
@[simp] theorem md_35 : mdT tblB 35 = some .pure := rfl
@[simp] theorem md_36 : mdT tblB 36 = some .own := rfl
@[simp] theorem md_37 : mdT tblB 37 = some .pure := rfl
@[simp] theorem md_38 : mdT tblB 38 = some .pure := rfl
@[simp] theorem md_39 : mdT tblB 39 = some .pure := rfl
@[simp] theorem md_40 : mdT tblB 40 = some .own := rfl
@[simp] theorem md_41 : mdT tblB 41 = some .pure := rfl
@[simp] theorem md_42 : mdT tblB 42 = some .pure := rfl
@[simp] theorem md_43 : mdT tblB 43 = some .pure := rfl
@[simp] theorem md_44 : mdT tblB 44 = some .pure := rfl
@[simp] theorem md_45 : mdT tblB 45 = some .pure := rfl
@[simp] theorem md_46 : mdT tblB 46 = some .pure := rfl
@[simp] theorem md_47 : mdT tblB 47 = some .pure := rfl
@[simp] theorem md_48 : mdT tblB 48 = some .pure := rfl
@[simp] theorem md_49 : mdT tblB 49 = some .pure := rfl
@[simp] theorem md_50 : mdT tblB 50 = some .pure := rfl
@[simp] theorem md_51 : mdT tblB 51 = some .pure := rfl
@[simp] theorem md_52 : mdT tblB 52 = some .pure := rfl
@[simp] theorem md_53 : mdT tblB 53 = some .pure := rfl
@[simp] theorem md_54 : mdT tblB 54 = some .pure := rfl
@[simp] theorem md_55 : mdT tblB 55 = some .pure := rfl
@[simp] theorem md_56 : mdT tblB 56 = some .pure := rfl
@[simp] theorem md_57 : mdT tblB 57 = some .pure := rfl
@[simp] theorem md_58 : mdT tblB 58 = some .pure := rfl
@[simp] theorem md_59 : mdT tblB 59 = some .pure := rfl
@[simp] theorem md_60 : mdT tblB 60 = some .pure := rfl
@[simp] theorem md_61 : mdT tblB 61 = some .pure := rfl
@[simp] theorem md_62 : mdT tblB 62 = some .pure := rfl
@[simp] theorem md_63 : mdT tblB 63 = some .pure := rfl
@[simp] theorem md_64 : mdT tblB 64 = some .pure := rfl
@[simp] theorem md_65 : mdT tblB 65 = some .pure := rfl
@[simp] theorem md_66 : mdT tblB 66 = some .pure := rfl
@[simp] theorem md_67 : mdT tblB 67 = some .own := rfl
@[simp] theorem md_68 : mdT tblB 68 = some .heap := rfl
@[simp] theorem md_69 : mdT tblB 69 = some .own := rfl
@[simp] theorem md_70 : mdT tblB 70 = some .own := rfl
@[simp] theorem md_71 : mdT tblB 71 = some .pure := rfl
@[simp] theorem md_72 : mdT tblB 72 = some .pure := rfl
@[simp] theorem md_73 : mdT tblB 73 = some .pure := rfl
@[simp] theorem md_74 : mdT tblB 74 = some .pure := rfl
@[simp] theorem md_75 : mdT tblB 75 = some .pure := rfl
@[simp] theorem md_76 : mdT tblB 76 = some .pure := rfl
@[simp] theorem md_77 : mdT tblB 77 = some .pure := rfl
@[simp] theorem md_78 : mdT tblB 78 = some .own := rfl
@[simp] theorem md_79 : mdT tblB 79 = some .heap := rfl
@[simp] theorem md_80 : mdT tblB 80 = some .pure := rfl
@[simp] theorem md_81 : mdT tblB 81 = some .heap := rfl
@[simp] theorem md_82 : mdT tblB 82 = some .heap := rfl
@[simp] theorem md_83 : mdT tblB 83 = some .heap := rfl
@[simp] theorem md_84 : mdT tblB 84 = some .pure := rfl
@[simp] theorem md_85 : mdT tblB 85 = some .pure := rfl
@[simp] theorem md_86 : mdT tblB 86 = some .pure := rfl
@[simp] theorem md_87 : mdT tblB 87 = some .pure := rfl
@[simp] theorem md_88 : mdT tblB 88 = some .own := rfl
@[simp] theorem md_89 : mdT tblB 89 = some .own := rfl
@[simp] theorem md_90 : mdT tblB 90 = some .own := rfl
@[simp] theorem md_91 : mdT tblB 91 = some .heap := rfl
@[simp] theorem md_92 : mdT tblB 92 = some .heap := rfl
end Go.Proofs.Ytdckleaemkcapaa.AM
