/- What the listed package variables give; what the arguments are. -/
import Derived.Test.YtmpcjfkfgjpebaaGreatDoorZ37
import Derived.Test.YtmpcjfkfgjpebaaGreatDoorRows
import Derived.Stop.LaidErr
import Derived.MakeChecks
import Derived.Lib.LaidTab
import Derived.OpenShut
set_option maxHeartbeats 0
set_option maxRecDepth 100000
set_option linter.unusedVariables false
namespace Go.Proofs.YtmpcjfkfgjpebaaGreatDoor.AM
open Go Go.Proofs Go.Proofs.YtmpcjfkfgjpebaaGreatDoor
theorem var_at {P : Program} {w : World} {n : String} {g : Nat} {cs : Array Value} (hg : P.globalNamed n = some g) (h : w.var? P n = some cs) : ∃ T fz, w.heap[g]? = some (Obj.cells cs T fz) := by
  unfold World.var? at h
  rw [hg] at h
  simp only [Option.bind_some] at h
  split at h
  · rename_i cs' T fz e
    cases h
    exact ⟨T, fz, e⟩
  · cases h
theorem head_at {P : Program} {n : String} {d : DataW Unit} {r : List (String × DataW Unit)} {W : World} {g : Nat} (hg : P.globalNamed n = some g) (h : laidMet P ((n, d) :: r) W) : ∃ cs T fz, W.heap[g]? = some (Obj.cells cs T fz) := by
  obtain ⟨ps, ⟨g0, t0, cs0, f0, p0, q0, hg0, ht0, hv0, hd0, _, e0⟩, _, _⟩ := h
  exact ⟨_, var_at hg hv0⟩
theorem sent_at {P : Program} {n nm : String} {d : DataW Unit} {r : List (String × DataW Unit)} {W : World} {g : Nat} {ti : TypeId} {ms : Array (String × TypeId)} (hg : P.globalNamed n = some g) (ht : (P.globals[g]?).map (·.type) = some ti) (hi : P.underlying ti = some (.interface ms))
    (h : laidMet P ((n, .iface nm d) :: r) W) : ∃ t v T fz, W.heap[g]? = some (Obj.cells #[.iface t v] T fz) := by
  obtain ⟨ps, ⟨g0, t0, cs0, f0, p0, q0, hg0, ht0, hv0, hd0, _, e0⟩, _, _⟩ := h
  obtain rfl := Option.some.inj (hg.symm.trans hg0)
  obtain rfl := Option.some.inj (ht.symm.trans ht0)
  obtain ⟨f1, u, v, hcs, _, _⟩ := iface_of_trod hi hd0
  obtain ⟨T, fz, e⟩ := var_at hg hv0
  obtain rfl : cs0 = #[.iface u v] := by cases cs0; simp_all
  exact ⟨u, v, T, fz, e⟩
theorem pow_eq : (Rows.laid_internal_strconv_uint64pow10 : DataW Unit) = Lib.tabData .u64 Lib.pow10Tab := by kernel_rfl
theorem gl_of {W : World} (h : laidMetH Tryz.prog Rows.scriptCompiledRow.laid W) : glN ≤ W.heap.size ∧ glOk W.heap := by
  rw [MakeChecks.laidMetH_plain _ _ _ (by kernel_rfl)] at h
  have h0 : laidMet Tryz.prog (("math/bits.deBruijn32tab", Rows.laid_math_bits_deBruijn32tab) :: ("math/bits.deBruijn64tab", Rows.laid_math_bits_deBruijn64tab) :: ("internal/strconv.uint64pow10", Rows.laid_internal_strconv_uint64pow10) :: ("unicode/utf8.acceptRanges", Rows.laid_unicode_utf8_acceptRanges) :: ("strconv.ErrRange", Rows.laid_strconv_ErrRange) :: ("strconv.ErrSyntax", Rows.laid_strconv_ErrSyntax) :: ("unicode/utf8.first", Rows.laid_unicode_utf8_first) :: []) W := h
  have h1 := h0.tail
  have h2 := h1.tail
  have h3 := h2.tail.tail
  have h4 := h3.tail
  obtain ⟨c7, T7, z7, e7⟩ := head_at (g := 7) (by kernel_rfl) h1
  rw [pow_eq] at h2
  have hT := Lib.tabIs_of_head (g := 1) (t := 216) (n := 20) (by kernel_rfl) (by kernel_rfl) Tryz.underlying216 Tryz.underlying177 (by kernel_rfl) (by kernel_rfl) h2
  obtain ⟨T1, z1, e1⟩ := var_at (g := 1) (by kernel_rfl) hT
  have e5 := sent_at (g := 5) (ti := 118) (by kernel_rfl) (by kernel_rfl) Tryz.underlying118 h3
  have e4 := sent_at (g := 4) (ti := 118) (by kernel_rfl) (by kernel_rfl) Tryz.underlying118 h4
  refine ⟨?_, ⟨T1, z1, e1⟩, e4, e5⟩
  have := (Array.getElem?_eq_some_iff.1 e7).1
  unfold glN
  omega
theorem arg9 {n : Nat} {x : AV} (h : TyArg Tryz.prog (n + 1) 9 x) : ∃ l : Str, x = S l := by
  unfold TyArg at h
  rw [Tryz.underlying9] at h
  unfold TyOk at h
  rw [Tryz.underlying9] at h
  obtain ⟨s, e, _⟩ := h
  cases e
  exact ⟨s.data.toList, S_of s⟩
theorem pure3 (x0 : AV) (h0 : TyArg Tryz.prog 8 9 x0) : ∃ h c, run Tryz.prog mZ 3 [x0] Heap.none 0 = some (B true, h, c) := by
  obtain ⟨l, rfl⟩ := arg9 (n := 7) h0
  exact compiled_ev l
end Go.Proofs.YtmpcjfkfgjpebaaGreatDoor.AM
