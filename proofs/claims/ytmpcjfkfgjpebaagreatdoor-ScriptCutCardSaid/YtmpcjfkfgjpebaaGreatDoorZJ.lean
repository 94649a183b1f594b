/- The contract of strings.Join at this seat, as the kit's own command has laid it (lay-plain.mjs); what the abstract machine is told of it. -/
import Derived.Shelf.Strings.OnBuilder
import Derived.Test.YtmpcjfkfgjpebaaGreatDoorProg
import Derived.Test.YtmpcjfkfgjpebaaGreatDoorZ1
set_option maxHeartbeats 0
set_option maxRecDepth 100000
namespace Go.Proofs.YtmpcjfkfgjpebaaGreatDoor.AM
open Go Go.Proofs Go.Shelf
def sh_lays156_ren : Go.Shelf.Ren := ⟨fun | 156 => 41 | 165 => 71 | 166 => 72 | 169 => 73 | 240 => 106 | 241 => 107 | 276 => 137 | 277 => 138 | n => n, fun | 31 => 23 | 9 => 9 | 3 => 3 | 4 => 4 | 0 => 0 | 20 => 20 | 72 => 115 | 76 => 119 | 70 => 112 | 37 => 113 | 75 => 118 | 127 => 159 | 164 => 182 | 5 => 5 | 80 => 121 | n => n, fun | n => n⟩
theorem sh_lays156 : Go.Proofs.Lays.n156 Tryz.prog sh_lays156_ren := {
  mixed := by kernel_rfl
  f156 := Tryz.func41.trans (congrArg some (by kernel_rfl))
  f165 := Tryz.func71.trans (congrArg some (by kernel_rfl))
  f166 := Tryz.func72.trans (congrArg some (by kernel_rfl))
  f169 := Tryz.func73.trans (congrArg some (by kernel_rfl))
  f240 := Tryz.func106.trans (congrArg some (by kernel_rfl))
  f241 := Tryz.func107.trans (congrArg some (by kernel_rfl))
  f276 := Tryz.func137.trans (congrArg some (by kernel_rfl))
  f277 := Tryz.func138.trans (congrArg some (by kernel_rfl))
  t0 := Tryz.underlying0
  a0 := Tryz.isAgg0
  z0 := Tryz.sizeOf0
  v0 := Tryz.zeroValue0
  t3 := Tryz.underlying3
  a3 := Tryz.isAgg3
  z3 := Tryz.sizeOf3
  v3 := Tryz.zeroValue3
  t4 := Tryz.underlying4
  a4 := Tryz.isAgg4
  z4 := Tryz.sizeOf4
  v4 := Tryz.zeroValue4
  t9 := Tryz.underlying9
  a9 := Tryz.isAgg9
  z9 := Tryz.sizeOf9
  v9 := Tryz.zeroValue9
  t20 := Tryz.underlying20
  a20 := Tryz.isAgg20
  z20 := Tryz.sizeOf20
  v20 := Tryz.zeroValue20
  t31 := Tryz.underlying23
  a31 := Tryz.isAgg23
  z31 := Tryz.sizeOf23
  v31 := Tryz.zeroValue23
  t37 := Tryz.underlying113
  a37 := Tryz.isAgg113
  z37 := Tryz.sizeOf113
  v37 := Tryz.zeroValue113
  t70 := Tryz.underlying112
  a70 := Tryz.isAgg112
  z70 := Tryz.sizeOf112
  v70 := Tryz.zeroValue112
  t72 := Tryz.underlying115
  a72 := Tryz.isAgg115
  z72 := Tryz.sizeOf115
  v72 := Tryz.zeroValue115
  t75 := Tryz.underlying118
  a75 := Tryz.isAgg118
  z75 := Tryz.sizeOf118
  v75 := Tryz.zeroValue118
  t76 := Tryz.underlying119
  a76 := Tryz.isAgg119
  z76 := Tryz.sizeOf119
  v76 := Tryz.zeroValue119
  t127 := Tryz.underlying159
  a127 := Tryz.isAgg159
  z127 := Tryz.sizeOf159
  v127 := Tryz.zeroValue159
  t164 := Tryz.underlying182
  a164 := Tryz.isAgg182
  z164 := Tryz.sizeOf182
  v164 := Tryz.zeroValue182 }
theorem sh_Builder_Extra_156 : Builder.Extra Tryz.prog sh_lays156_ren := {
  sizeBuilder := by kernel_rfl
  liesBuilder := by kernel_rfl
  t5 := Tryz.underlying5
  a5 := Tryz.isAgg5
  z5 := Tryz.sizeOf5
  v5 := Tryz.zeroValue5
  infoByte := by kernel_rfl
  cellsByte := by kernel_rfl
  sizeByte := by kernel_rfl
  neB5 := by decide }
open Go.RowKit in
/-- strings.Join: "Join concatenates the elements of its first argument to create a single string. The separator string sep is placed between elements in the resulting string.": HOWEVER MANY ELEMENTS. Below the heap's end the world is as it was. (LAID: no walk: one application.) -/
theorem sh_strings_Join (bk o c : Nat) (xs : List ByteArray) (sep : ByteArray) (w : World) (hcells : ∀ (j : Nat) x, xs[j]? = some x → w.cell? ⟨bk, o + j, none⟩ = some (.string x)) (hbk : bk < w.heap.size) (hN : xs.length ≤ 140737488355328) (hcap : xs.length ≤ c) (hlen : (Lib.join (xs.map (·.data.toList)) sep.data.toList).length ≤ 140737488355328) :
    Calls Tryz.prog 41 #[.slice (some ⟨bk, o, none⟩) xs.length c, .string sep] w fun e w' => e = .returned (.string ⟨(Lib.join (xs.map (·.data.toList)) sep.data.toList).toArray⟩) ∧ Below w.heap.size w w' := Any.strings_Join sh_lays156 sh_Builder_Extra_156 bk o c xs sep w hcells hbk hN hcap hlen
def baOf : List (List AV) → Option (List ByteArray)
  | [] => some []
  | [.val (.string s)] :: r => (baOf r).map fun l => s :: l
  | _ => none
theorem baOf_at : ∀ {es : List (List AV)} {xs : List ByteArray}, baOf es = some xs → es.length = xs.length ∧ ∀ (j : Nat) x, xs[j]? = some x → es[j]? = some [.val (.string x)]
  | [], xs, h => by
    cases h
    exact ⟨rfl, fun j x hx => by simp at hx⟩
  | e :: r, xs, h => by
    unfold baOf at h
    split at h
    · rename_i heq
      cases heq
    · rename_i s r' heq
      cases heq
      obtain ⟨l, hl, rfl⟩ := Option.map_eq_some_iff.1 h
      obtain ⟨h1, h2⟩ := baOf_at hl
      refine ⟨by simp [h1], fun j x hx => ?_⟩
      cases j with
      | zero => simp at hx; simp [hx]
      | succ j => simpa using h2 j x (by simpa using hx)
    · cases h
def gJoin : List AV → Option AV
  | [.ro _ es, .val (.string p)] => (baOf es).bind fun xs => if xs ≠ [] ∧ xs.length ≤ 1000000 ∧ (Lib.join (xs.map (·.data.toList)) p.data.toList).length ≤ 1000000 then some (S (Lib.join (xs.map (·.data.toList)) p.data.toList)) else none
  | _ => none
theorem ext41 : ExtOk Tryz.prog 41 gJoin := by
  intro xs r e w vs gb gl hl
  unfold gJoin at e
  split at e
  · rename_i b es p
    obtain ⟨xs, hx, e⟩ := Option.bind_eq_some_iff.1 e
    split at e
    · rename_i hc
      cases e
      obtain ⟨hne, hN, hlen⟩ := hc
      obtain ⟨v1, vs, rfl, h1, hl⟩ := hl.uncons
      obtain ⟨v2, vs, rfl, h2, hl⟩ := hl.uncons
      obtain rfl : vs = [] := by have := hl.1; simpa using this
      cases h2
      obtain ⟨hlen2, hat⟩ := baOf_at hx
      cases h1 with
      | ro _ _ _ A cap sz f hcap hn hz hs hA hV =>
        obtain ⟨x0, hx0⟩ : ∃ x0, xs[0]? = some x0 := by
          cases xs with
          | nil => exact absurd rfl hne
          | cons x r => exact ⟨x, rfl⟩
        have hsz : sz = 1 := by
          have := hs _ (List.mem_of_getElem? (hat 0 x0 hx0))
          simpa using this.symm
        subst hsz
        have at_ : ∀ (j : Nat) x, xs[j]? = some x → at2 es j 0 = some (.val (.string x)) := fun j x hx => by
          unfold at2
          rw [hat j x hx]
          rfl
        obtain ⟨a, rfl, _, hc0, _⟩ := hA 0 0 _ (at_ 0 x0 hx0)
        have hspot : a.spot = none := by
          unfold cellH at hc0
          split at hc0
          · split at hc0
            · cases hc0
            · rename_i hsp
              simpa [Addr.add] using hsp
          · cases hc0
        obtain ⟨bk, o, sp⟩ := a
        simp only at hspot
        subst hspot
        have hcells : ∀ (j : Nat) x, xs[j]? = some x → w.cell? ⟨bk, o + j, none⟩ = some (.string x) := fun j x hx => by
          obtain ⟨a', ha', _, hcj, _⟩ := hA j 0 _ (at_ j x hx)
          cases ha'
          have hv := hV j 0 _ (at_ j x hx)
          have hf : ∀ y, VR w.heap (fun _ => False) (fun _ => none) (.val (.string x)) y → y = .string x := fun y h => by cases h; rfl
          rw [cell_eq, ← hf _ hv, ← hcj]
          cases j <;> simp [Addr.add]
        have hbk : bk < w.heap.size := cellH_lt (a := ⟨bk, o, none⟩) (by have := hcells 0 x0 hx0; rw [cell_eq] at this; simpa using this)
        rw [hlen2] at hcap ⊢
        refine hits_call Tryz.f41 Tryz.func41 (by kernel_rfl) (by decide) ((sh_strings_Join bk o cap xs p w hcells hbk (by omega) hcap (by omega)).mono ?_)
        rintro e w' ⟨rfl, hb⟩
        exact ⟨_, rfl, fun H F ρ => .val _ _ rfl, hb⟩
    · cases e
  · cases e
end Go.Proofs.YtmpcjfkfgjpebaaGreatDoor.AM
