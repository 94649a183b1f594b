/- Texts of the proof: part T26. -/
import Derived.Test.YtbaoaodimbcebaaDoorT25
set_option maxHeartbeats 0
set_option maxRecDepth 8000
set_option linter.unusedSimpArgs false
set_option linter.unusedVariables false
set_option linter.unusedSectionVars false
namespace Go.Proofs.YtbaoaodimbcebaaDoor.AM
open Go Go.Proofs
attribute [local simp] fieldAddrA ld setCells stA skipV appendA hd makeA bnd kindA freshA killOk loadsAt newT empT lay_get allocA buildA buildRow lenA els indexAddrA isNil opA evA lit_int lit_bool lit_nil lit_nilf yldA binI unA pickA boolV intV fieldA mk eqs
/-- A builder that holds these bytes. -/
def Bld (h : Heap) (c nb : Nat) (out : Str) : Prop := nb < c ∧ ∃ a v, h nb = some ⟨2, [[a, v]], some 53⟩ ∧ (a = .val (.pointer none) ∨ a = .ptr nb 0 0) ∧ OutG 5 h c v (byts out) ∧ nm v ≠ some nb
@[simp] theorem lit_ptr : lit (.pointer none) = .val (.pointer none) := rfl
@[simp] theorem lit_nif : lit .nilIface = .val .nilIface := rfl
@[simp] theorem eqp_nn : binA Tryd.prog .eql 51 (.val (.pointer none)) (.val (.pointer none)) = some (B true) := by
  unfold binA
  simp
@[simp] theorem eqp_pn (l i f : Nat) : binA Tryd.prog .eql 51 (.ptr l i f) (.val (.pointer none)) = some (B false) := by
  unfold binA
  simp
@[simp] theorem nep_pp (l i f : Nat) : binA Tryd.prog .neq 51 (.ptr l i f) (.ptr l i f) = some (B false) := by
  unfold binA
  simp
theorem to_uns {h : Heap} {nb : Nat} {r : List AV} {T : Option Nat} (hb : h nb = some ⟨2, [r], T⟩) : convA Tryd.prog 51 94 h (.ptr nb 0 0) = some (.ptr nb 0 0) := by
  unfold convA
  simp [hb]
theorem of_uns {h : Heap} {nb : Nat} {r : List AV} (hb : h nb = some ⟨2, [r], some 53⟩) : convA Tryd.prog 94 51 h (.ptr nb 0 0) = some (.ptr nb 0 0) := by
  unfold convA
  simp [hb]
theorem idt_c (orc : Orc) (x : AV) (h : Heap) (c : Nat) : callA (mdT tblT) orc 54 [x] h c = some (x, h, c) := rfl
theorem check_ev {h : Heap} {c nb : Nat} {a v : AV} (hb : h nb = some ⟨2, [[a, v]], some 53⟩) (ha : a = .val (.pointer none) ∨ a = .ptr nb 0 0) :
    ∃ h', run Tryd.prog (mdT tblT) 43 [.ptr nb 0 0] h c = some (.tup [], h', c) ∧ h' nb = some ⟨2, [[.ptr nb 0 0, v]], some 53⟩ ∧ ∀ m, m ≠ nb → h' m = h m := by
  rw [run_eq (show mdT tblT 43 = some .heap from rfl) rfl, Tryd.func43]
  have e1 := to_uns hb
  have e2 := of_uns hb
  rcases ha with rfl | rfl
  · simp -implicitDefEqProofs [Tryd.f43, hb, e1, e2, idt_c, -decide_eq_true_eq, -decide_eq_false_iff_not, -List.any_eq_true, -List.any_eq_false, -bne_iff_ne, -beq_iff_eq, -beq_eq_false_iff_ne, -bne_eq_false_iff_eq]
    intro m hm e
    exact absurd e hm
  · simp -implicitDefEqProofs [Tryd.f43, hb, -decide_eq_true_eq, -decide_eq_false_iff_not, -List.any_eq_true, -List.any_eq_false, -bne_iff_ne, -beq_iff_eq, -beq_eq_false_iff_ne, -bne_eq_false_iff_eq]
/-- WriteString. -/
theorem write_ev {h : Heap} {c nb : Nat} {out : Str} (H : Bld h c nb out) (z : Str) (hl : out.length + z.length ≤ 140737488355328) :
    ∃ v h' c', run Tryd.prog (mdT tblT) 28 [.ptr nb 0 0, S z] h c = some (v, h', c') ∧ Bld h' c' nb (out ++ z) := by
  obtain ⟨hnb, a, v, hb, ha, O, hv⟩ := H
  obtain ⟨h1, e1, hb1, hf1⟩ := check_ev (c := c) hb ha
  have O1 : OutG 5 h1 c v (byts out) := O.frame (Nat.le_refl _) fun m hm _ => hf1 m fun e => hv (by rw [hm, e])
  obtain ⟨v2, h2, c2, e2, O2, G⟩ := outG_app (t := 29) (by_ := 1) (z := [.val (.int .u8 0)]) O1 (by simp) (by simp) (by simp) (by simp) rfl (src_S h1 z) (hd_byts z) (by simp; omega) (by simp; omega)
  have hb2 : h2 nb = some ⟨2, [[.ptr nb 0 0, v]], some 53⟩ := by rw [G.get nb hnb hv, hb1]
  have hv2 : nm v2 ≠ some nb := by
    intro e
    rcases G.new nb e with h | h
    · exact hv h
    · omega
  have ec : callA (mdT tblT) (run Tryd.prog (mdT tblT)) 43 [.ptr nb 0 0] h c = some (.tup [], h1, c) := by
    rw [call_heap rfl, e1]
  rw [run_eq (show mdT tblT 28 = some .heap from rfl) rfl, Tryd.func28]
  have hok : okc v2 = true := by
    rcases O2 with ⟨rfl, _⟩ | ⟨n, rfl, _⟩ <;> rfl
  have hcl : v2.cells = [v2] := by
    rcases O2 with ⟨rfl, _⟩ | ⟨n, rfl, _⟩ <;> rfl
  simp -implicitDefEqProofs [Tryd.f28, ec, hb1, -appendA, e2, hok, hcl, hb2, -decide_eq_true_eq, -decide_eq_false_iff_not, -List.any_eq_true, -List.any_eq_false, -bne_iff_ne, -beq_iff_eq, -beq_eq_false_iff_ne, -bne_eq_false_iff_eq]
  refine ⟨_, _, _, ⟨rfl, rfl, rfl⟩, by have := G.le; omega, .ptr nb 0 0, v2, by simp, .inr rfl, ?_, hv2⟩
  rw [show byts (out ++ z) = byts out ++ byts z by simp [byts]]
  exact O2.frame (Nat.le_refl _) fun m hm _ => by
    have : m ≠ nb := fun e => hv2 (by rw [hm, e])
    simp [this]
@[simp] theorem data_sl (ts : List TypeId) (h : Heap) (c l sz off n : Nat) : builtinA Tryd.prog .unsafeSliceData ts h c [.sl l sz off n] = if 0 < n then some (.ptr l off 0, h, c) else none := rfl
@[simp] theorem data_nil (ts : List TypeId) (h : Heap) (c : Nat) : builtinA Tryd.prog .unsafeSliceData ts h c [.ro true []] = some (.val (.pointer none), h, c) := rfl
@[simp] theorem str_nil (h : Heap) (c : Nat) : builtinA Tryd.prog .unsafeString [85, 3] h c [.val (.pointer none), I 0] = some (S [], h, c) := rfl
theorem str_sl {h : Heap} {c n : Nat} {out : Str} (hn : h n = some ⟨1, byts out, some 5⟩) (h0 : out ≠ []) (hl : out.length ≤ 140737488355328) : builtinA Tryd.prog .unsafeString [85, 3] h c [.ptr n 0 0, I out.length] = some (S out, h.put n none, c) := by
  have hp : 0 < out.length := List.length_pos_iff.2 h0
  unfold builtinA
  simp only [hn, Option.bind_some]
  have hp2 : ptT Tryd.prog 85 = some 5 := by simp
  rw [if_pos ⟨by omega, by show (out.length : Int) ≤ ((room : Nat) : Int); unfold room; omega, by simp, by trivial, by simp, by simp⟩]
  have : ((byts out).drop 0).take ((out.length : Int).toNat) = byts out := by simp [List.take_of_length_le]
  rw [this, bytesM]
  rfl
/-- String. -/
theorem string_ev {h : Heap} {c nb : Nat} {out : Str} (H : Bld h c nb out) (hl : out.length ≤ 140737488355328) :
    ∃ h', run Tryd.prog (mdT tblT) 30 [.ptr nb 0 0] h c = some (S out, h', c) := by
  obtain ⟨hnb, a, v, hb, ha, O, hv⟩ := H
  rw [run_eq (show mdT tblT 30 = some .heap from rfl) rfl, Tryd.func30]
  rcases O with ⟨rfl, e⟩ | ⟨n, rfl, h0, h1, h2⟩
  · have : out = [] := by simpa using e
    subst this
    simp -implicitDefEqProofs [Tryd.f30, hb, -decide_eq_true_eq, -decide_eq_false_iff_not, -List.any_eq_true, -List.any_eq_false, -bne_iff_ne, -beq_iff_eq, -beq_eq_false_iff_ne, -bne_eq_false_iff_eq]
  · have h0' : out ≠ [] := by intro e; subst e; exact h0 rfl
    have hp : 0 < out.length := List.length_pos_iff.2 h0'
    have es := fun c => str_sl (c := c) h2 h0' hl
    rw [len_byts] at hb
    simp -implicitDefEqProofs [Tryd.f30, hb, hp, es, -decide_eq_true_eq, -decide_eq_false_iff_not, -List.any_eq_true, -List.any_eq_false, -bne_iff_ne, -beq_iff_eq, -beq_eq_false_iff_ne, -bne_eq_false_iff_eq]
end Go.Proofs.YtbaoaodimbcebaaDoor.AM
