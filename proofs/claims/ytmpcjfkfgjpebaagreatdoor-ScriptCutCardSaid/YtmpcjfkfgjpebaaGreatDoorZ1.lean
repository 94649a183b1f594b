/- The functions of strings and strconv that are told of. -/
import Derived.Test.YtmpcjfkfgjpebaaGreatDoorScFacts
import Derived.Test.YtmpcjfkfgjpebaaGreatDoorZ0
namespace Go.Proofs.YtmpcjfkfgjpebaaGreatDoor.AM
open Go Go.Proofs Go.RowKit
set_option linter.unusedVariables false
set_option maxRecDepth 100000
abbrev I (n : Int) : AV := .val (.int .i64 n)
abbrev B (b : Bool) : AV := .val (.bool b)
abbrev E (n : Int) : AV := .val (.int .i64 n)
abbrev U (n : UInt8) : AV := .val (.int .u8 (n.toNat : Int))
abbrev Str := List UInt8
/-- A string. -/
def S (l : Str) : AV := .val (.string ⟨l.toArray⟩)
abbrev strs (ls : List Str) : List (List AV) := ls.map fun l => [S l]
def bl (s : ByteArray) : Str := s.data.toList
theorem bl_of (s : ByteArray) : s = ⟨(bl s).toArray⟩ := by cases s; rfl
def gIndex : List AV → Option AV
  | [.val (.string s), .val (.string p)] => (match bl p with | [c] => some (I (Lib.indexByte (bl s) c)) | _ => none)
  | _ => none
def gCount : List AV → Option AV
  | [.val (.string s), .val (.string p)] => (match bl p with | [c] => some (I (Lib.countByte (bl s) c)) | _ => none)
  | _ => none
def gTrim : List AV → Option AV
  | [.val (.string s), .val (.string p)] => (match bl p with | [c] => if c.toNat < 128 then some (S (Lib.trimLeftB (bl s) c)) else none | _ => none)
  | _ => none
def gSuffix : List AV → Option AV
  | [.val (.string s), .val (.string p)] => if s.size ≤ 9223372036854775807 then some (S (Lib.trimSuffix (bl s) (bl p))) else none
  | _ => none
def gHas : List AV → Option AV
  | [.val (.string s), .val (.string p)] => some (B (Lib.hasPrefix (bl s) (bl p)))
  | _ => none
def gCutP : List AV → Option AV
  | [.val (.string s), .val (.string p)] => some (.tup [S (Lib.trimPrefix (bl s) (bl p)), B (Lib.hasPrefix (bl s) (bl p))])
  | _ => none
def gItoa : List AV → Option AV
  | [.val (.int .i64 n)] => if -9223372036854775808 ≤ n ∧ n ≤ 9223372036854775807 then some (S (Lib.itoa n)) else none
  | _ => none
def gAtoi : List AV → Option AV
  | [.val (.string s)] => if s.size ≤ 281474976710656 then (match Lib.atoiAll (bl s) with | .ok v => some (.tup [I v, .val .nilIface]) | .«syntax» => some (.tup [I 0, .ifc]) | .range => some (.tup [I (Lib.atoiSat (bl s)), .ifc])) else none
  | _ => none
theorem vr_tup2 {a b : AV} {u v : Value} (h1 : ∀ H F ρ, VR H F ρ a u) (h2 : ∀ H F ρ, VR H F ρ b v) : ∀ H F ρ, VR H F ρ (.tup [a, b]) (.tuple #[u, v]) := fun H F ρ => (LR.cons (h1 H F ρ) (LR.cons (h2 H F ρ) LR.nil)).tup
/-- A call of a function that has a body. -/
theorem hits_call {f : Nat} {vs : Array Value} {w : World} {Φ : Value → World → Prop} (fn : Func) (hf : Tryz.prog.funcs[f]? = some fn) (hb : fn.body.isSome = true) (hn : fn.name ≠ "runtime.NumGoroutine") (k : Calls Tryz.prog f vs w fun e w' => ∃ u, e = .returned u ∧ Φ u w') : Hits Tryz.prog (callFunc f vs) w Φ := by
  obtain ⟨b, hb⟩ := Option.isSome_iff_exists.1 hb
  unfold Hits callFunc
  simp [hf, hn, hb]
  exact k
theorem two_strings {P : List AV → Option AV} {vs : List Value} {w : World} {s p : ByteArray} (hl : LR w.heap (fun _ => False) (fun _ => none) [.val (.string s), .val (.string p)] vs) : vs = [.string s, .string p] := by
  obtain ⟨v1, vs, rfl, h1, hl⟩ := hl.uncons
  obtain ⟨v2, vs, rfl, h2, hl⟩ := hl.uncons
  obtain rfl : vs = [] := by have := hl.1; simpa using this
  cases h1
  cases h2
  rfl
theorem one_byte {p : ByteArray} {c : UInt8} (h : bl p = [c]) : p = ⟨#[c]⟩ := by rw [bl_of p, h]
theorem drewN_below (w : World) (n : Nat) : Below w.heap.size w (w.drewN n) := ⟨rfl, rfl, rfl, Nat.le_refl _, fun _ _ => rfl⟩
theorem ext119 : ExtOk Tryz.prog 119 gIndex := by
  intro xs r e w vs gb gl hl
  unfold gIndex at e
  split at e
  · rename_i s p
    split at e
    · rename_i c hp
      cases e
      obtain rfl := two_strings (P := gIndex) hl
      obtain rfl := one_byte hp
      refine hits_call Tryz.f119 Tryz.func119 (by kernel_rfl) (by decide) ((sh_stringslite_Index_one s c w).mono ?_)
      rintro e w' ⟨rfl, rfl⟩
      exact ⟨_, rfl, fun H F ρ => .val _ _ rfl, Below.refl _ _⟩
    · cases e
  · cases e
theorem ext110 : ExtOk Tryz.prog 110 gIndex := by
  intro xs r e w vs gb gl hl
  unfold gIndex at e
  split at e
  · rename_i s p
    split at e
    · rename_i c hp
      cases e
      obtain rfl := two_strings (P := gIndex) hl
      obtain rfl := one_byte hp
      refine hits_call Tryz.f110 Tryz.func110 (by kernel_rfl) (by decide) ((sh_strings_Index_one s c w).mono ?_)
      rintro e w' ⟨rfl, rfl⟩
      exact ⟨_, rfl, fun H F ρ => .val _ _ rfl, Below.refl _ _⟩
    · cases e
  · cases e
theorem ext114 : ExtOk Tryz.prog 114 gCount := by
  intro xs r e w vs gb gl hl
  unfold gCount at e
  split at e
  · rename_i s p
    split at e
    · rename_i c hp
      cases e
      obtain rfl := two_strings (P := gIndex) hl
      obtain rfl := one_byte hp
      refine hits_call Tryz.f114 Tryz.func114 (by kernel_rfl) (by decide) ((sh_strings_Count_one s c w).mono ?_)
      rintro e w' ⟨rfl, rfl⟩
      exact ⟨_, rfl, fun H F ρ => .val _ _ rfl, Below.refl _ _⟩
    · cases e
  · cases e
theorem ext46 : ExtOk Tryz.prog 46 gTrim := by
  intro xs r e w vs gb gl hl
  unfold gTrim at e
  split at e
  · rename_i s p
    split at e
    · rename_i c hp
      split at e
      · rename_i hc
        cases e
        obtain rfl := two_strings (P := gIndex) hl
        obtain rfl := one_byte hp
        refine hits_call Tryz.f46 Tryz.func46 (by kernel_rfl) (by decide) ((sh_strings_TrimLeft_one s c hc w).mono ?_)
        rintro e w' ⟨rfl, rfl⟩
        exact ⟨_, rfl, fun H F ρ => .val _ _ rfl, Below.refl _ _⟩
      · cases e
    · cases e
  · cases e
theorem ext45 : ExtOk Tryz.prog 45 gSuffix := by
  intro xs r e w vs gb gl hl
  unfold gSuffix at e
  split at e
  · rename_i s p
    split at e
    · rename_i hs
      cases e
      obtain rfl := two_strings (P := gIndex) hl
      refine hits_call Tryz.f45 Tryz.func45 (by kernel_rfl) (by decide) ((sh_strings_TrimSuffix s p w hs).mono ?_)
      rintro e w' ⟨rfl, rfl⟩
      exact ⟨_, rfl, fun H F ρ => .val _ _ rfl, Below.refl _ _⟩
    · cases e
  · cases e
theorem ext83 : ExtOk Tryz.prog 83 gHas := by
  intro xs r e w vs gb gl hl
  unfold gHas at e
  split at e
  · rename_i s p
    cases e
    obtain rfl := two_strings (P := gIndex) hl
    refine hits_call Tryz.f83 Tryz.func83 (by kernel_rfl) (by decide) ((sh_strings_HasPrefix s p w).mono ?_)
    rintro e w' ⟨rfl, rfl⟩
    exact ⟨_, rfl, fun H F ρ => .val _ _ rfl, Below.refl _ _⟩
  · cases e
theorem ext89 : ExtOk Tryz.prog 89 gCutP := by
  intro xs r e w vs gb gl hl
  unfold gCutP at e
  split at e
  · rename_i s p
    cases e
    obtain rfl := two_strings (P := gIndex) hl
    refine hits_call Tryz.f89 Tryz.func89 (by kernel_rfl) (by decide) ((sh_strings_CutPrefix s p w).mono ?_)
    rintro e w' ⟨rfl, rfl⟩
    exact ⟨_, rfl, vr_tup2 (fun _ _ _ => .val _ _ rfl) (fun _ _ _ => .val _ _ rfl), Below.refl _ _⟩
  · cases e
theorem ext40 : ExtOk Tryz.prog 40 gItoa := by
  intro xs r e w vs gb gl hl
  unfold gItoa at e
  split at e
  · rename_i n
    split at e
    · rename_i hn
      cases e
      obtain ⟨v1, vs, rfl, h1, hl⟩ := hl.uncons
      obtain rfl : vs = [] := by have := hl.1; simpa using this
      cases h1
      have htab : Lib.TabIs Tryz.prog w "internal/strconv.uint64pow10" .u64 Lib.pow10Tab := by
        obtain ⟨⟨T, fz, h⟩, _⟩ := gl
        unfold Lib.TabIs World.var?
        rw [show Tryz.prog.globalNamed "internal/strconv.uint64pow10" = some 1 by kernel_rfl]
        simp only [Option.bind_some, h]
      refine hits_call Tryz.f40 Tryz.func40 (by kernel_rfl) (by decide) ((sh_strconv_Itoa n hn.1 hn.2 w htab).mono ?_)
      rintro e w' ⟨rfl, k, os, rfl⟩
      exact ⟨_, rfl, fun H F ρ => .val _ _ rfl, ⟨rfl, rfl, rfl, by show w.heap.size ≤ (w.heap ++ os).size; rw [Array.size_append]; omega, fun j hj => by show (w.heap ++ os)[j]? = _; rw [Array.getElem?_append_left hj]⟩⟩
    · cases e
  · cases e
theorem ext75 : ExtOk Tryz.prog 75 gAtoi := by
  intro xs r e w vs gb gl hl
  unfold gAtoi at e
  split at e
  · rename_i s
    split at e
    · rename_i hs
      obtain ⟨v1, vs, rfl, h1, hl⟩ := hl.uncons
      obtain rfl : vs = [] := by have := hl.1; simpa using this
      cases h1
      obtain ⟨_, ⟨t4, v4, T4, z4, h4⟩, t5, v5, T5, z5, h5⟩ := gl
      split at e
      · rename_i v hv
        cases e
        refine hits_call Tryz.f75 Tryz.func75 (by kernel_rfl) (by decide) ((sh_strconv_Atoi_ok s (by omega) v hv w).mono ?_)
        rintro e w' ⟨rfl, hw⟩
        refine ⟨_, rfl, vr_tup2 (fun _ _ _ => .val _ _ rfl) (fun _ _ _ => .val _ _ rfl), ?_⟩
        rcases hw with rfl | ⟨t, rfl⟩
        · exact Below.refl _ _
        · exact Lib.bytesWorld_below _ _ _
      · rename_i hv
        cases e
        refine hits_call Tryz.f75 Tryz.func75 (by kernel_rfl) (by decide) ((sh_strconv_Atoi_syntax s hs hv (.iface t4 v4) w (by unfold World.cell?; simp only [h4]; rfl) (.inr ⟨_, _, rfl⟩)).mono ?_)
        rintro e w' ⟨N, rfl, _, _, hb⟩
        exact ⟨_, rfl, vr_tup2 (fun _ _ _ => .val _ _ rfl) (fun _ _ _ => .ifc _ _ _), hb⟩
      · rename_i hv
        cases e
        refine hits_call Tryz.f75 Tryz.func75 (by kernel_rfl) (by decide) ((sh_strconv_Atoi_range s hs hv (.iface t5 v5) w (by unfold World.cell?; simp only [h5]; rfl) (.inr ⟨_, _, rfl⟩)).mono ?_)
        rintro e w' ⟨N, rfl, _, _, hb⟩
        exact ⟨_, rfl, vr_tup2 (fun _ _ _ => .val _ _ rfl) (fun _ _ _ => .ifc _ _ _), hb⟩
    · cases e
  · cases e
end Go.Proofs.YtmpcjfkfgjpebaaGreatDoor.AM
