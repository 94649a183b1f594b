/- Operations on values alone. -/
import Derived.Test.YtbaoaodimbcebaaDoorAmOps2
import Derived.Lib.Builder
import Derived.Lib.UnsafeStr
import Derived.Laws.Pointers
import Derived.Laws.StructEq
import Derived.WalkSpells
import Derived.Laws.Concat
namespace Go.Proofs.YtbaoaodimbcebaaDoor.AM
open Go Go.RowKit
set_option linter.unusedVariables false

section
variable {P : Program} {ρ : Pls} {F : Nat → Prop} {w : World} {H : Array Obj}

theorem ev_sound {t : Nat → AV} {a : Act} (T : ∀ i, VR H F ρ (t i) (a.tmps.getD i undef)) (x : Operand) : VR H F ρ (evA t x) (a.eval x) := by
  cases x with
  | tmp i => exact T i
  | const v => exact lit_sound v
  | global g => exact .bad _ _
  | func f => exact .fn _ f [] #[] (fun _ => .nilFunc) rfl (fun i x h => by simp at h) (fun i x h => by simp at h)

theorem pick_sound {c a b v : AV} {cv av bv : Value} (hc : VR H F ρ c cv) (ha : VR H F ρ a av) (hb : VR H F ρ b bv) (e : pickA c a b = some v) :
    ∃ u, VR H F ρ v u ∧ (do pure (Next.value (if ← asBool cv then av else bv)) : Sem Next).run P w = .ok (.value u) w := by
  unfold pickA at e
  split at e
  · rename_i t
    cases hc
    cases e
    cases t
    · exact ⟨bv, hb, by simp [asBool]⟩
    · exact ⟨av, ha, by simp [asBool]⟩
  · cases e

theorem bin_int {op : BinOp} {k : IntKind} {a b : Int} {v : AV} {t : TypeId} {X Y : Operand} (e : binI op k a b = some v) :
    ∃ u, v = .val u ∧ u.oneCell' = true ∧ (do eqGuard op t X Y (.int k a) (.int k b); binOp op t (.int k a) (.int k b)).run P w = .ok u w := by
  unfold binI at e
  cases op <;> simp only [intV, boolV] at e
  all_goals (first
    | (cases e; done)
    | (cases e; refine ⟨_, rfl, rfl, ?_⟩; simp [eqGuard, binOp, Op.intArith, Op.intCmp]; done)
    | (split at e
       · cases e
       · rename_i h0; cases e; refine ⟨_, rfl, rfl, ?_⟩; simp [eqGuard, binOp, Op.intDiv, h0]))

theorem bin_str {op : BinOp} {a b : ByteArray} {v : AV} {t : TypeId} {X Y : Operand} (e : binS op a b = some v) :
    ∃ u, v = .val u ∧ u.oneCell' = true ∧ (do eqGuard op t X Y (.string a) (.string b); binOp op t (.string a) (.string b)).run P w = .ok u w := by
  unfold binS at e
  cases op <;> simp only [boolV] at e
  all_goals (first
    | (cases e; done)
    | (cases e; refine ⟨_, rfl, rfl, ?_⟩; simp [eqGuard, binOp, Op.stringOp]; done)
    | (split at e
       · rename_i hl; cases e; refine ⟨_, rfl, rfl, ?_⟩
         have h2 : ¬ ((a.size : Int) + (b.size : Int) > IntKind.i64.max) := by
           have : IntKind.i64.max = 9223372036854775807 := by decide
           omega
         simp [eqGuard, binOp, Op.stringOp]
         simpa using h2
       · cases e))

theorem eqFields_int {d : Nat} {xs ys : Array Value} : ∀ (fs : List Field) (k0 : Nat) (as bs : List AV) (r : Bool), (∀ p ∈ fs.zipIdx k0, p.1.name ≠ "_" ∧ p.1.offset = p.2 ∧ ∃ k, P.underlying p.1.type = some (.int k)) →
    as.length = fs.length → eqs as bs = some r → (∀ (j : Nat) x, as[j]? = some x → ∃ v, xs[k0 + j]? = some v ∧ VR H F ρ x v) → (∀ (j : Nat) x, bs[j]? = some x → ∃ v, ys[k0 + j]? = some v ∧ VR H F ρ x v) →
    (Op.eqFields (d + 1) xs ys fs).run P w = .ok r w
  | [], k0, as, bs, r, _, hl, he, _, _ => by
    have : as = [] := by simpa using hl
    subst this
    cases bs with
    | nil => cases he; rfl
    | cons => cases he
  | f :: fs, k0, as, bs, r, hf, hl, he, ha, hb => by
    cases as with
    | nil => simp at hl
    | cons x as =>
      cases bs with
      | nil => unfold eqs at he; split at he <;> simp_all
      | cons y bs =>
        unfold eqs at he
        split at he
        · simp_all
        · rename_i k a as' k' b bs' e1 e2
          cases e1
          cases e2
          obtain ⟨h1, h2, kk, h3⟩ := hf (f, k0) (by simp [List.zipIdx_cons])
          simp only at h1 h2 h3
          obtain ⟨u, hu, hru⟩ := ha 0 _ rfl
          obtain ⟨u', hu', hru'⟩ := hb 0 _ rfl
          cases hru
          cases hru'
          simp only [Nat.add_zero] at hu hu'
          split at he
          · rename_i hk
            subst hk
            have hp1 : (part f.type xs f.offset).run P w = .ok (.int k a) w := by simp [part, isAgg, run_underlying h3, h2, hu]
            have hp2 : (part f.type ys f.offset).run P w = .ok (.int k b) w := by simp [part, isAgg, run_underlying h3, h2, hu']
            have hq := run_equalIn_int w d f.type k kk a b h3
            simp only [Op.eqFields, if_pos h1, Sem.run_bind, hp1, hp2, hq, Result.andThen_ok]
            split at he
            · rename_i hab
              subst hab
              simp
              exact eqFields_int fs (k0 + 1) _ _ r (fun p hp => hf p (by simp [List.zipIdx_cons, hp])) (by simpa using hl) he
                (fun j x hj => by have := ha (j + 1) x (by simpa using hj); rwa [show k0 + (j + 1) = k0 + 1 + j by omega] at this)
                (fun j x hj => by have := hb (j + 1) x (by simpa using hj); rwa [show k0 + (j + 1) = k0 + 1 + j by omega] at this)
            · rename_i hab
              cases he
              simp [hab]
          · cases he
        · cases he

theorem bin_agg {t : TypeId} {xs ys : List AV} {us vs : Array Value} {r : Bool} (hx : VR H F ρ (.agg xs) (.agg us)) (hy : VR H F ρ (.agg ys) (.agg vs)) (hi : inT P t = true) (hn : szT P t = some xs.length)
    (e : eqs xs ys = some r) : (Op.equalIn 10000 t (.agg us) (.agg vs)).run P w = .ok r w ∧ P.eqGuardType P.depth t = false := by
  unfold inT at hi
  split at hi
  · rename_i fs ht
    simp only [Bool.and_eq_true, Bool.not_eq_true', beq_iff_eq, List.all_eq_true] at hi
    obtain ⟨⟨⟨h1, h2⟩, h3⟩, h4⟩ := hi
    have hff : P.fieldsOf t = fs := by unfold Program.fieldsOf; rw [ht]
    refine ⟨?_, h1⟩
    rw [run_equalIn_agg w 9999 t us vs (by rw [hff]; exact ht) h2, hff]
    have hl : xs.length = fs.size := by
      unfold szT at hn
      rw [h3] at hn
      exact (Option.some.inj hn).symm
    have lx := LR.of_agg hx
    have ly := LR.of_agg hy
    refine eqFields_int (H := H) (F := F) (ρ := ρ) fs.toList 0 xs ys r (fun p hp => ?_) (by simpa using hl) e (fun j x hj => by obtain ⟨v, hv, hr⟩ := lx.2 j x hj; exact ⟨v, by simpa using hv, hr⟩) (fun j x hj => by obtain ⟨v, hv, hr⟩ := ly.2 j x hj; exact ⟨v, by simpa using hv, hr⟩)
    obtain ⟨⟨⟨h5, h6⟩, h7⟩, h8⟩ := h4 p hp
    refine ⟨by simpa using h5, h6, ?_⟩
    split at h8
    · rename_i k hk; exact ⟨k, hk⟩
    · cases h8
  · cases hi

theorem nil_sound {x : AV} {y : Value} {b : Bool} (hx : VR H F ρ x y) (e : isNil x = some b) : ∃ A n c, y = .slice A n c ∧ A.isNone = b := by
  unfold isNil at e
  cases hx with
  | ro _ n es A cap sz f hc hn hz hs hA hV =>
    cases e
    refine ⟨A, _, _, rfl, ?_⟩
    cases A with
    | none => exact (hn.1 rfl).symm
    | some a =>
      cases b
      · rfl
      · exact absurd (hn.2 rfl) (by simp)
  | emp _ a => cases e; exact ⟨_, _, _, rfl, rfl⟩
  | sl => cases e; exact ⟨_, _, _, rfl, rfl⟩
  | _ => cases e

theorem ptT_some {t e : TypeId} (h : ptT P t = some e) : P.underlying t = some (.pointer e) ∧ ∃ j, P.info? e = some j := by
  unfold ptT at h
  obtain ⟨d, h1, h⟩ := Option.bind_eq_some_iff.mp h
  split at h
  · rename_i e'
    split at h
    · rename_i h2
      cases h
      exact ⟨h1, Option.isSome_iff_exists.1 h2⟩
    · cases h
  · cases h
theorem pointee_of {t e : TypeId} (h : P.underlying t = some (.pointer e)) : P.underlying t = some (.pointer (P.pointee t)) := by
  unfold Program.pointee
  rw [h]
theorem run_eql_ptr_same {tp te : TypeId} {j : TypeInfo} (a : Addr) (hp : P.underlying tp = some (.pointer te)) (hte : P.info? te = some j) :
    (binOp .eql tp (.pointer (some a)) (.pointer (some a))).run P w = .ok (.bool true) w := by
  have h : ∀ d : Nat, (Op.equalIn (d + 1) tp (.pointer (some a)) (.pointer (some a))).run P w = .ok true w := fun d => by
    simp [Op.equalIn, run_underlying hp, sizeOf, typeInfo, hte, run_sameAddr_same]
  simp only [binOp]
  simp [Op.equal, Op.maxDepth, h 9999]

theorem bin_sound {op : BinOp} {t : TypeId} {x y v : AV} {a b : Value} {X Y : Operand} (hx : VR H F ρ x a) (hy : VR H F ρ y b) (e : binA P op t x y = some v) :
    ∃ u, VR H F ρ v u ∧ (do eqGuard op t X Y a b; binOp op t a b).run P w = .ok u w := by
  unfold binA at e
  split at e
  · cases hx; cases hy
    split at e
    · rename_i hk; subst hk
      obtain ⟨u, rfl, h1, h2⟩ := bin_int (P := P) (w := w) (t := t) (X := X) (Y := Y) e
      exact ⟨u, .val _ _ h1, h2⟩
    · cases e
  · cases hx; cases hy
    obtain ⟨u, rfl, h1, h2⟩ := bin_str (P := P) (w := w) (t := t) (X := X) (Y := Y) e
    exact ⟨u, .val _ _ h1, h2⟩
  · rename_i p q
    cases hx; cases hy
    split at e
    · rename_i hb
      have ht : P.underlying t = some .bool := by
        unfold boT at hb
        split at hb
        · assumption
        · cases hb
      cases op <;> simp only [boolV] at e
      all_goals (first
        | (cases e; done)
        | (cases e; refine ⟨_, .val _ _ rfl, ?_⟩; simp [eqGuard, run_eql_bool w t p q ht]; done)
        | (cases e; refine ⟨_, .val _ _ rfl, ?_⟩; simp [eqGuard, run_neq_bool w t p q ht]; done))
    · cases e
  · rename_i xs ys
    cases hx with
    | agg _ _ us g hn hA hV =>
      cases hy with
      | agg _ _ vs g' hn' hA' hV' =>
        split at e
        · rename_i hc
          simp only [Bool.and_eq_true, beq_iff_eq] at hc
          have Hx := VR.agg ρ xs us g hn hA hV
          have Hy := VR.agg ρ ys vs g' hn' hA' hV'
          cases op <;> simp only [boolV] at e
          all_goals (first
            | (cases e; done)
            | (obtain ⟨r, hr, e⟩ := Option.map_eq_some_iff.mp e
               cases e
               obtain ⟨h1, h2⟩ := bin_agg (P := P) (w := w) Hx Hy hc.1 hc.2 hr
               refine ⟨_, .val _ _ rfl, ?_⟩; rw [Sem.run_bind, run_eqGuard_agg w _ t X Y us vs h2]; simp only [Result.andThen_ok]; first | (rw [run_eql_struct, h1]; rfl) | (rw [run_neq_struct, h1]; rfl)))
        · cases e
  · cases hx; cases hy
    split at e
    · rename_i hs
      obtain ⟨el, hel⟩ := Option.isSome_iff_exists.1 hs
      have ht := pointee_of (ptT_some hel).1
      cases op <;> simp only [boolV] at e
      all_goals (first
        | (cases e; done)
        | (cases e; refine ⟨_, .val _ _ rfl, ?_⟩; simp [eqGuard, run_eql_pointer_nil w t none ht]; done)
        | (cases e; refine ⟨_, .val _ _ rfl, ?_⟩; simp [eqGuard, run_neq_pointer_nil w t none ht]; done))
    · cases e
  · cases hy
    split at e
    · rename_i hs
      obtain ⟨el, hel⟩ := Option.isSome_iff_exists.1 hs
      have ht := pointee_of (ptT_some hel).1
      cases hx with
      | ptr _ l i f k o sz hρ hk =>
        cases op <;> simp only [boolV] at e
        all_goals (first
          | (cases e; done)
          | (cases e; refine ⟨_, .val _ _ rfl, ?_⟩; simp [eqGuard, run_eql_pointer_nil w t (some _) ht]; done)
          | (cases e; refine ⟨_, .val _ _ rfl, ?_⟩; simp [eqGuard, run_neq_pointer_nil w t (some _) ht]; done))
    · cases e
  · split at e
    · rename_i hs
      simp only [Bool.and_eq_true, beq_iff_eq] at hs
      obtain ⟨⟨⟨hs, rfl⟩, rfl⟩, rfl⟩ := hs
      obtain ⟨el, hel⟩ := Option.isSome_iff_exists.1 hs
      obtain ⟨ht, j, hj⟩ := ptT_some hel
      cases hx with
      | ptr _ l i f k o sz hρ hk =>
        cases hy with
        | ptr _ _ _ _ k' o' sz' hρ' hk' =>
          rw [hρ] at hρ'
          cases hρ'
          cases op <;> simp only [boolV] at e
          all_goals (first
            | (cases e; done)
            | (cases e; refine ⟨_, .val _ _ rfl, ?_⟩; simp [eqGuard, run_eql_ptr_same (w := w) _ ht hj]; done)
            | (cases e; refine ⟨_, .val _ _ rfl, ?_⟩; simp [eqGuard, Lib.run_neq_ptr_same w _ ht hj]; done))
    · cases e
  · split at e
    · rename_i hs
      obtain ⟨el, hel⟩ := Option.isSome_iff_exists.1 hs
      have ht := slT_some hel
      cases hy with
      | ro _ n es A cap sz f hc hn hz hs' hA hV =>
        obtain rfl : A = none := hn.2 rfl
        cases op <;> simp only [boolV] at e
        all_goals (first
          | (cases e; done)
          | (obtain ⟨r, hr, e⟩ := Option.map_eq_some_iff.mp e
             cases e
             obtain ⟨B, m, q, rfl, hB⟩ := nil_sound hx hr
             refine ⟨_, .val _ _ rfl, ?_⟩; simp [eqGuard, Lib.run_eql_slice_nil w t el B m q _ _ ht, hB]; done)
          | (obtain ⟨r, hr, e⟩ := Option.map_eq_some_iff.mp e
             cases e
             obtain ⟨B, m, q, rfl, hB⟩ := nil_sound hx hr
             refine ⟨_, .val _ _ rfl, ?_⟩; simp [eqGuard, run_neq_slice_nil_any w t el B m q _ _ ht, hB]; done))
    · cases e
  · cases e

theorem un_sound {op : UnOp} {x v : AV} {a : Value} (hx : VR H F ρ x a) (e : unA op x = some v) : ∃ u, VR H F ρ v u ∧ (Op.unary op a).run P w = .ok u w := by
  unfold unA at e
  split at e
  · cases hx; cases e; exact ⟨_, .val _ _ rfl, by simp [Op.unary, Op.intArith]⟩
  · cases hx; cases e; exact ⟨_, .val _ _ rfl, by simp [Op.unary]⟩
  · cases e

theorem fieldAddr_sound {s : TypeId} {x v : AV} {a : Value} {f : Nat} (hx : VR H F ρ x a) (e : fieldAddrA P s x f = some v) : ∃ u, VR H F ρ v u ∧ (Instr.fieldAt s a f).run P w = .ok u w := by
  unfold fieldAddrA at e
  obtain ⟨⟨off, ft⟩, h1, e⟩ := Option.bind_eq_some_iff.mp e
  obtain ⟨fs, fd, h2, h3, h4, h5⟩ := fdT_some h1
  simp only at e
  obtain ⟨sz, h6, e⟩ := Option.bind_eq_some_iff.mp e
  split at e
  · cases e
  · rename_i h0
    have hrun : ∀ a : Addr, (Instr.fieldAt s (.pointer (some a)) f).run P w = .ok (.pointer (some (a.add off))) w := by
      intro a
      have h7 : (sizeOf fd.type).run P w = .ok sz w := by rw [h5]; exact run_sz h6 w
      simp [Instr.fieldAt, run_underlying h2, h3, Instr.sureAddr, fieldPlace, h7, h0, h4]
    cases hx with
    | ptr _ l i k b o z hρ hk =>
      cases e
      refine ⟨_, ?_, hrun _⟩
      rw [add_plain, Nat.add_assoc]
      exact .ptr _ l i (k + off) b o z hρ hk
    | rptr _ cs a g hA hV =>
      cases e
      refine ⟨_, .rptr _ (cs.drop off) (a.add off) (fun j => g (off + j)) (fun j x hj => ?_) (fun j x hj => ?_), hrun _⟩
      · rw [List.getElem?_drop] at hj
        rw [add_block, add_add]
        exact hA _ x hj
      · rw [List.getElem?_drop] at hj
        exact hV _ x hj
    | _ => cases e

theorem field_sound {s : TypeId} {x v : AV} {a : Value} {f : Nat} (hx : VR H F ρ x a) (e : fieldA P s x f = some v) : ∃ u, VR H F ρ v u ∧ (Instr.field s a f).run P w = .ok u w := by
  unfold fieldA at e
  obtain ⟨⟨off, ft⟩, h1, e⟩ := Option.bind_eq_some_iff.mp e
  obtain ⟨fs, fd, h2, h3, h4, h5⟩ := fdT_some h1
  simp only at e
  obtain ⟨sz, h6, e⟩ := Option.bind_eq_some_iff.mp e
  obtain ⟨ag, h7, e⟩ := Option.bind_eq_some_iff.mp e
  cases hx with
  | agg _ cs vs g hn hA hV =>
    simp only at e
    split at e
    · rename_i hle
      cases e
      have L := LR.of_agg (VR.agg ρ cs vs g hn hA hV)
      have h8 : (sizeOf fd.type).run P w = .ok sz w := by rw [h5]; exact run_sz h6 w
      have h9 : (isAgg fd.type).run P w = .ok ag w := by rw [h5]; exact run_ag h7 w
      cases ag
      · -- one cell
        obtain rfl : sz = 1 := by
          by_cases h : sz = 1
          · exact h
          · exact absurd ⟨rfl, h⟩ hle.2
        have hlt : off < cs.length := by omega
        obtain ⟨u, hu, hr⟩ := L.2 off _ (List.getElem?_eq_getElem hlt)
        refine ⟨u, ?_, by simp [Instr.field, run_underlying h2, h3, asAgg, part, h9, h4, show vs[off]? = some u by simpa using hu]⟩
        have : (cs.drop off).take 1 = [cs[off]] := by
          rw [List.drop_eq_getElem_cons hlt]; rfl
        rw [this]
        exact hr
      · refine ⟨_, ((L.drop off).take sz).agg, ?_⟩
        simp [Instr.field, run_underlying h2, h3, asAgg, part, h8, h9, h4]
        apply Array.ext'
        simp [Array.toList_extract, List.extract_eq_take_drop]
    · cases e
  | _ => cases e

end
end Go.Proofs.YtbaoaodimbcebaaDoor.AM
