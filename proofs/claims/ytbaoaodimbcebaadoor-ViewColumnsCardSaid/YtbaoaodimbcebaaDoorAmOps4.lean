/- Indexes, slices, what is built, the builtins. -/
import Derived.Test.YtbaoaodimbcebaaDoorAmOps3
namespace Go.Proofs.YtbaoaodimbcebaaDoor.AM
open Go Go.RowKit
set_option linter.unusedVariables false
set_option linter.unusedSimpArgs false

section
variable {P : Program} {ρ : Pls} {F : Nat → Prop} {base : Nat} {h : Heap} {w : World} {c : Nat} {H : Array Obj}

theorem indexAddr_sound {t : TypeId} {x ix v : AV} {a b : Value} (hx : VR H F ρ x a) (hi : VR H F ρ ix b) (e : indexAddrA P t x ix = some v) :
    ∃ u, VR H F ρ v u ∧ (Instr.indexAt t a b).run P w = .ok u w := by
  unfold indexAddrA at e
  split at e
  · rename_i kk i
    cases hi
    split at e
    · rename_i h0
      cases hx with
      | sl _ l sz off len k o cap hρ hc hk =>
        simp only at e
        obtain ⟨el, h1, e⟩ := Option.bind_eq_some_iff.mp e
        obtain ⟨s, h2, e⟩ := Option.bind_eq_some_iff.mp e
        split at e
        · rename_i h3
          cases e
          obtain ⟨rfl, h3⟩ := h3
          refine ⟨.pointer (some ((⟨k, o + off * s, none⟩ : Addr).add (i.toNat * s))), ?_, ?_⟩
          · rw [add_plain, show o + off * s + i.toNat * s = o + (off + i.toNat) * s + 0 by rw [Nat.add_mul]; omega]
            exact .ptr _ l (off + i.toNat) 0 k o s hρ (have1 hk)
          · simp [Instr.indexAt, run_underlying (slT_some h1), asIntOf, h0, h3, run_sz h2]
        · cases e
      | ro _ n es A cap sz f hc hn hz hs hA hV =>
        simp only at e
        obtain ⟨el, h1, e⟩ := Option.bind_eq_some_iff.mp e
        obtain ⟨s, h2, e⟩ := Option.bind_eq_some_iff.mp e
        obtain ⟨cs, h3, e⟩ := Option.bind_eq_some_iff.mp e
        split at e
        · rename_i h4
          cases e
          have hsz : s = sz := by rw [← h4]; exact hs cs (List.mem_of_getElem? h3)
          subst hsz
          have hlt : i.toNat < es.length := (List.getElem?_eq_some_iff.1 h3).1
          have hlt' : i < es.length := by omega
          cases A with
          | none =>
            have := (hz (hn.1 rfl)).1
            subst this
            simp at hlt
          | some a =>
            refine ⟨.pointer (some (a.add (i.toNat * s))), .rptr _ cs _ (fun j => f i.toNat j) (fun j x hj => ?_) (fun j x hj => ?_), ?_⟩
            · obtain ⟨a', ha', h5, h6, h7⟩ := hA i.toNat j x (by unfold at2; rw [h3]; exact hj)
              cases ha'
              rw [add_block, add_add]
              exact ⟨h5, h6, h7⟩
            · exact hV i.toNat j x (by unfold at2; rw [h3]; exact hj)
            · simp [Instr.indexAt, run_underlying (slT_some h1), asIntOf, h0, hlt', run_sz h2]
        · cases e
      | arr _ l sz len k o hρ hk =>
        simp only at e
        obtain ⟨⟨n, el⟩, h1, e⟩ := Option.bind_eq_some_iff.mp e
        simp only at e
        obtain ⟨s, h2, e⟩ := Option.bind_eq_some_iff.mp e
        split at e
        · rename_i h3
          cases e
          obtain ⟨rfl, rfl, h3, h4⟩ := h3
          refine ⟨.pointer (some ((⟨k, o, none⟩ : Addr).add (i.toNat * s))), ?_, ?_⟩
          · rw [add_plain]
            exact .ptr _ l i.toNat 0 k o s hρ (have1 hk)
          · simp [Instr.indexAt, Instr.sureAddr, run_underlying (arT_some h1), asIntOf, h0, h3, run_sz h2]
        · cases e
      | _ => cases e
    · cases e
  · cases e

theorem index_sound {t : TypeId} {x ix v : AV} {a b : Value} (hx : VR H F ρ x a) (hi : VR H F ρ ix b) (e : indexA P t x ix = some v) :
    ∃ u, VR H F ρ v u ∧ (Instr.index t a b).run P w = .ok u w := by
  unfold indexA at e
  split at e
  · rename_i kk i s
    cases hi; cases hx
    split at e
    · rename_i hs
      have ht : P.underlying t = some .string := by
        unfold stT at hs
        split at hs
        · assumption
        · cases hs
      split at e
      · rename_i h0
        obtain ⟨b, hb, e⟩ := Option.map_eq_some_iff.mp e
        cases e
        exact ⟨_, .val _ _ rfl, by simp [Instr.index, run_underlying ht, asIntOf, h0, hb]⟩
      · cases e
    · cases e
  · cases e

/-- Options of values. -/
def OR (H : Array Obj) (F : Nat → Prop) (ρ : Pls) : Option AV → Option Value → Prop
  | none, none => True
  | some x, some v => VR H F ρ x v
  | _, _ => False

theorem OR.map {t : Nat → AV} {a : Act} (T : ∀ i, VR H F ρ (t i) (a.tmps.getD i undef)) (x : Option Operand) : OR H F ρ (x.map (evA t)) (x.map a.eval) := by
  cases x with
  | none => trivial
  | some x => exact ev_sound T x

theorem bound_run {x : AV} {v : Value} {d m m' k : Nat} {code : BoundsCode} (hx : VR H F ρ x v) (e : bnd (some x) d m = some k) (hm : m ≤ m') : (Instr.sliceBound v m' code).run P w = .ok k w ∧ k ≤ m := by
  unfold bnd at e
  split at e
  · cases ‹some x = none›
  · rename_i kk i he
    cases he
    cases hx
    split at e
    · rename_i h0
      cases e
      refine ⟨?_, by omega⟩
      have : (0 ≤ i ∧ i ≤ (m' : Int)) := by omega
      simp [Instr.sliceBound, asIntOf, this]
    · cases e
  · cases e

theorem bounds_run {isS : Bool} {lo hi : Option AV} {lv hv : Option Value} {len m cap hh ll : Nat} (hl : OR H F ρ lo lv) (hh' : OR H F ρ hi hv) (e1 : bnd hi len m = some hh) (e2 : bnd lo 0 hh = some ll) (hm : m ≤ cap) (hlen : len ≤ m) :
    (Instr.sliceBounds isS len cap lv hv none).run P w = .ok (ll, hh, cap) w ∧ hh ≤ m ∧ ll ≤ hh := by
  have h1 : (match hv with | some v => Instr.sliceBound v cap (if isS then .sliceAcap else .sliceAlen) | none => pure len : Sem Nat).run P w = .ok hh w ∧ hh ≤ m := by
    cases hi with
    | none =>
      cases hv with
      | none => cases e1; exact ⟨rfl, hlen⟩
      | some v => exact hh'.elim
    | some x =>
      cases hv with
      | none => exact hh'.elim
      | some v => exact bound_run hh' e1 hm
  have h2 : (match lv with | some v => Instr.sliceBound v hh .sliceB | none => pure 0 : Sem Nat).run P w = .ok ll w ∧ ll ≤ hh := by
    cases lo with
    | none =>
      cases lv with
      | none => cases e2; exact ⟨rfl, Nat.zero_le _⟩
      | some v => exact hl.elim
    | some x =>
      cases lv with
      | none => exact hl.elim
      | some v => exact bound_run hl e2 (Nat.le_refl _)
  refine ⟨?_, h1.2, h2.2⟩
  cases hv <;> cases lv <;> simp [Instr.sliceBounds] at h1 h2 ⊢ <;> simp [h1.1, h2.1]

theorem slice_str {t : TypeId} (ht : stT P t = true) {s : ByteArray} {lo hi mx : Option Value} : (Instr.sliceAt t (.string s) lo hi mx).run P w = (Instr.slice t (.string s) lo hi mx).run P w := by
  have : P.underlying t = some .string := by
    unfold stT at ht
    split at ht
    · assumption
    · cases ht
  simp [Instr.sliceAt, run_underlying this]

theorem slice_sl {t e : TypeId} (ht : slT P t = some e) {x : Value} {lo hi mx : Option Value} : (Instr.sliceAt t x lo hi mx).run P w = (Instr.slice t x lo hi mx).run P w := by
  simp [Instr.sliceAt, run_underlying (slT_some ht)]

theorem slice_sound {t : TypeId} {x v : AV} {a : Value} {lo hi mx : Option AV} {lv hv mv : Option Value} (hx : VR H F ρ x a) (hl : OR H F ρ lo lv) (hh : OR H F ρ hi hv) (hm : OR H F ρ mx mv) (e : sliceA P t x lo hi mx = some v) :
    ∃ u, VR H F ρ v u ∧ (Instr.sliceAt t a lv hv mv).run P w = .ok u w := by
  have three : ∀ {A : Option Addr} {n cap : Nat} {el : TypeId}, a = .slice A n cap → slT P t = some el → (∃ y, hi = some y ∧ bnd (some y) 0 0 = some 0) → bnd lo 0 0 = some 0 → (∃ k, mx = some (.val (.int k 0))) →
      (∃ s, (sizeOf el).run P w = .ok s w) → (Instr.sliceAt t a lv hv mv).run P w = .ok (.slice A 0 0) w := by
    rintro A n cap el rfl hel ⟨y, rfl, hy⟩ hlo ⟨k, rfl⟩ ⟨s, hs⟩
    cases mv with
    | none => exact hm.elim
    | some mvv =>
      cases hm
      cases hv with
      | none => exact hh.elim
      | some hvv =>
        have b0 := fun code => (show (Instr.sliceBound (.int k 0) cap code).run P w = .ok 0 w by simp [Instr.sliceBound, asIntOf])
        have b1 := fun code => (bound_run (P := P) (w := w) (code := code) hh hy (Nat.le_refl 0)).1
        rw [slice_sl hel]
        cases lo with
        | none =>
          cases lv with
          | some _ => exact hl.elim
          | none => simp [Instr.slice, run_underlying (slT_some hel), Instr.sliceBounds, b0, b1, hs]
        | some x2 =>
          cases lv with
          | none => exact hl.elim
          | some lvv =>
            have b2 := fun code => (bound_run (P := P) (w := w) (code := code) hl hlo (Nat.le_refl 0)).1
            simp [Instr.slice, run_underlying (slT_some hel), Instr.sliceBounds, b0, b1, b2, hs]
  have three' : ∀ {k : IntKind} {el s : TypeId} {z : AV}, mx = some (.val (.int k 0)) → slT P t = some el → szT P el = some s → ((hi.bind fun x => bnd (some x) 0 0).bind fun _ => (bnd lo 0 0).bind fun _ => some z) = some v →
      z = v ∧ ∀ {A : Option Addr} {n cap : Nat}, a = .slice A n cap → (Instr.sliceAt t a lv hv mv).run P w = .ok (.slice A 0 0) w := by
    intro k el s z h1 h2 h3 h4
    obtain ⟨p, h5, h4⟩ := Option.bind_eq_some_iff.mp h4
    obtain ⟨q, h6, h4⟩ := Option.bind_eq_some_iff.mp h4
    obtain ⟨y, h7, h5⟩ := Option.bind_eq_some_iff.mp h5
    cases h4
    have zero : ∀ {x : Option AV} {r : Nat}, bnd x 0 0 = some r → bnd x 0 0 = some 0 := by
      intro x r hr
      have : r = 0 := by
        unfold bnd at hr
        split at hr
        · cases hr; rfl
        · split at hr
          · cases hr; omega
          · cases hr
        · cases hr
      rw [hr, this]
    exact ⟨rfl, fun ha => three ha h2 ⟨y, h7, zero h5⟩ (zero h6) ⟨k, h1⟩ ⟨s, run_sz h3 w⟩⟩
  unfold sliceA at e
  split at e
  · -- a string
    rename_i s
    cases hx
    cases mv with
    | some _ => exact hm.elim
    | none =>
      split at e
      · rename_i ht
        obtain ⟨hh', e1, e⟩ := Option.bind_eq_some_iff.mp e
        obtain ⟨ll, e2, e⟩ := Option.bind_eq_some_iff.mp e
        cases e
        obtain ⟨b1, _, _⟩ := bounds_run (P := P) (w := w) (isS := false) hl hh e1 e2 (Nat.le_refl _) (Nat.le_refl _)
        have ht' : P.underlying t = some .string := by
          unfold stT at ht
          split at ht
          · assumption
          · cases ht
        refine ⟨_, .val _ _ rfl, ?_⟩
        rw [slice_str ht]
        simp [Instr.slice, run_underlying ht', b1]
      · cases e
  · -- read-only
    rename_i n es
    cases mv with
    | some _ => exact hm.elim
    | none =>
      obtain ⟨el, h1, e⟩ := Option.bind_eq_some_iff.mp e
      obtain ⟨s, h2, e⟩ := Option.bind_eq_some_iff.mp e
      split at e
      · cases e
      · rename_i hhd
        obtain ⟨hh', e1, e⟩ := Option.bind_eq_some_iff.mp e
        obtain ⟨ll, e2, e⟩ := Option.bind_eq_some_iff.mp e
        cases e
        cases hx with
        | ro _ _ _ A cap sz f hc hn hz hs hA hV =>
          obtain ⟨b1, b2, b3⟩ := bounds_run (P := P) (w := w) (isS := true) (cap := cap) hl hh e1 e2 hc (Nat.le_refl _)
          refine ⟨.slice (if cap = ll then A else A.map (·.add (ll * s))) (hh' - ll) (cap - ll), ?_, ?_⟩
          · have hlen : ((es.take hh').drop ll).length = hh' - ll := by simp; omega
            rw [← hlen]
            have hsub : ∀ {i j : Nat} {x : AV}, at2 ((es.take hh').drop ll) i j = some x → at2 es (ll + i) j = some x ∧ ll < cap := by
              intro i j x hx
              unfold at2 at hx ⊢
              obtain ⟨r, hr, hx⟩ := Option.bind_eq_some_iff.mp hx
              rw [List.getElem?_drop, List.getElem?_take] at hr
              split at hr
              · refine ⟨by rw [hr]; exact hx, by omega⟩
              · cases hr
            have hsz : es ≠ [] → s = sz := by
              intro hne
              cases es with
              | nil => exact absurd rfl hne
              | cons r es =>
                have hr := hs r (by simp)
                simp only [AM.hd, beq_eq_false_iff_ne, ne_eq, Bool.not_eq_false] at hhd
                have : r.length = s := by simpa using hhd
                omega
            refine .ro _ n _ _ _ sz (fun i j => f (ll + i) j) (by rw [hlen]; omega) ?_ (fun hn' => ?_) (fun r hr => hs r (List.mem_of_mem_take (List.mem_of_mem_drop hr))) (fun i j x hx => ?_) (fun i j x hx => hV _ _ x (hsub hx).1)
            · rw [← hn]
              split
              · rfl
              · cases A <;> simp
            · obtain ⟨h5, h6⟩ := hz hn'
              subst h5
              simp
              omega
            · obtain ⟨h5, h6⟩ := hsub hx
              obtain ⟨a', ha', h7, h8, h9⟩ := hA _ _ x h5
              subst ha'
              have : es ≠ [] := by intro h0; subst h0; simp [at2] at h5
              have := hsz this
              subst this
              rw [if_neg (by omega)]
              refine ⟨a'.add (ll * s), rfl, by rw [add_block]; exact h7, ?_, h9⟩
              rw [add_add, show ll * s + (i * s + j) = (ll + i) * s + j by rw [Nat.add_mul]; omega]
              exact h8
          · rw [slice_sl h1]
            simp [Instr.slice, run_underlying (slT_some h1), b1, run_sz h2]
  · -- of the call's own
    rename_i p sz off len
    cases mv with
    | some _ => exact hm.elim
    | none =>
      obtain ⟨el, h1, e⟩ := Option.bind_eq_some_iff.mp e
      obtain ⟨s, h2, e⟩ := Option.bind_eq_some_iff.mp e
      split at e
      · rename_i hs
        subst hs
        obtain ⟨hh', e1, e⟩ := Option.bind_eq_some_iff.mp e
        obtain ⟨ll, e2, e⟩ := Option.bind_eq_some_iff.mp e
        cases hx with
        | sl _ _ _ _ _ k o cap hρ hc hk =>
          obtain ⟨b1, b2, b3⟩ := bounds_run (P := P) (w := w) (isS := true) (cap := cap) hl hh e1 e2 hc (Nat.le_refl _)
          refine ⟨.slice (if cap = ll then some ⟨k, o + off * s, none⟩ else (some (⟨k, o + off * s, none⟩ : Addr)).map (·.add (ll * s))) (hh' - ll) (cap - ll), ?_, ?_⟩
          · split at e
            · rename_i hlt
              cases e
              rw [if_neg (by omega)]
              simp only [Option.map_some]
              rw [add_plain, show o + off * s + ll * s = o + (off + ll) * s by rw [Nat.add_mul]; omega]
              refine .sl _ p s (off + ll) (hh' - ll) k o (cap - ll) hρ (by omega) ?_
              obtain ⟨cs, T, fz, h3, h4⟩ := hk
              exact ⟨cs, T, fz, h3, by rw [show off + ll + (cap - ll) = off + cap by omega]; exact h4⟩
            · rename_i hlt
              cases e
              rw [show hh' - ll = ([] : List (List AV)).length by simp; omega]
              refine .ro _ false [] _ _ 0 (fun _ _ => .nilFunc) (Nat.zero_le _) ?_ (fun h => by cases h) (fun r hr => by cases hr) (fun i j x hx => by simp [at2] at hx) (fun i j x hx => by simp [at2] at hx)
              split <;> simp
          · rw [slice_sl h1]
            simp [Instr.slice, run_underlying (slT_some h1), b1, run_sz h2]
      · cases e
  · -- an array
    rename_i p sz len
    cases mv with
    | some _ => exact hm.elim
    | none =>
      obtain ⟨⟨n, el⟩, h1, e⟩ := Option.bind_eq_some_iff.mp e
      simp only at e
      obtain ⟨s, h2, e⟩ := Option.bind_eq_some_iff.mp e
      split at e
      · rename_i hs
        obtain ⟨rfl, rfl⟩ := hs
        obtain ⟨hh', e1, e⟩ := Option.bind_eq_some_iff.mp e
        obtain ⟨ll, e2, e⟩ := Option.bind_eq_some_iff.mp e
        cases hx with
        | arr _ _ _ _ k o hρ hk =>
          obtain ⟨b1, b2, b3⟩ := bounds_run (P := P) (w := w) (isS := false) (cap := n) hl hh e1 e2 (Nat.le_refl _) (Nat.le_refl _)
          refine ⟨.slice (some (if n = ll then ⟨k, o, none⟩ else (⟨k, o, none⟩ : Addr).add (ll * s))) (hh' - ll) (n - ll), ?_, ?_⟩
          · split at e
            · rename_i hlt
              cases e
              rw [if_neg (by omega), add_plain]
              refine .sl _ p s ll (hh' - ll) k o (n - ll) hρ (by omega) ?_
              obtain ⟨cs, T, fz, h3, h4⟩ := hk
              exact ⟨cs, T, fz, h3, by rw [show ll + (n - ll) = n by omega]; exact h4⟩
            · rename_i hlt
              cases e
              rw [show hh' - ll = ([] : List (List AV)).length by simp; omega]
              exact .ro _ false [] _ _ 0 (fun _ _ => .nilFunc) (Nat.zero_le _) (by simp) (fun h => by cases h) (fun r hr => by cases hr) (fun i j x hx => by simp [at2] at hx) (fun i j x hx => by simp [at2] at hx)
          · simp [Instr.sliceAt, run_underlying (arT_some h1), Instr.sureAddr, b1, run_sz h2]
      · cases e
  · rename_i b _ k
    obtain ⟨el, h1, e⟩ := Option.bind_eq_some_iff.mp e
    obtain ⟨s, h2, e⟩ := Option.bind_eq_some_iff.mp e
    obtain ⟨rfl, hr⟩ := three' rfl h1 h2 e
    cases hx with
    | ro _ _ es A cap sz f hc hn hz hs hA hV =>
      refine ⟨_, ?_, hr rfl⟩
      cases b
      · cases A with
        | none => exact absurd (hn.1 rfl) (by simp)
        | some a => exact .emp _ a
      · obtain rfl : A = none := hn.2 rfl
        exact lit_sound (.slice none 0 0)
  · obtain ⟨el, h1, e⟩ := Option.bind_eq_some_iff.mp e
    obtain ⟨s, h2, e⟩ := Option.bind_eq_some_iff.mp e
    obtain ⟨rfl, hr⟩ := three' rfl h1 h2 e
    cases hx with
    | sl _ _ _ _ _ k o cap hρ hc hk => exact ⟨_, .emp _ _, hr rfl⟩
  · obtain ⟨el, h1, e⟩ := Option.bind_eq_some_iff.mp e
    obtain ⟨s, h2, e⟩ := Option.bind_eq_some_iff.mp e
    obtain ⟨rfl, hr⟩ := three' rfl h1 h2 e
    cases hx with
    | emp _ a => exact ⟨_, .emp _ _, hr rfl⟩
  · cases e

theorem extract_sound {v : AV} {a : Value} {i : Nat} {vs : List AV} (hx : VR H F ρ (.tup vs) a) (e : vs[i]? = some v) : ∃ u, VR H F ρ v u ∧ (Instr.extract a i).run P w = .ok u w := by
  cases hx with
  | tup _ _ us g hn hA hV =>
    exact ⟨g i, hV i v e, by simp [Instr.extract, hA i v e]⟩

end
end Go.Proofs.YtbaoaodimbcebaaDoor.AM
