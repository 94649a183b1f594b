/- Strings as lists of bytes; the small functions. -/
import Derived.Test.YtgbdbenepnbajaaGreatDoorSvFacts
import Derived.Test.YtgbdbenepnbajaaGreatDoorAmScan
set_option maxHeartbeats 0
set_option linter.unusedVariables false
namespace Go.Proofs.YtgbdbenepnbajaaGreatDoor.AM
open Go Go.Proofs
abbrev I (n : Int) : AV := .val (.int .i64 n)
abbrev B (b : Bool) : AV := .val (.bool b)
abbrev E (n : Int) : AV := .val (.int .i64 n)
abbrev U (n : UInt8) : AV := .val (.int .u8 (n.toNat : Int))
abbrev Str := List UInt8
/-- A string. -/
def S (l : Str) : AV := .val (.string ⟨l.toArray⟩)
abbrev strs (ls : List Str) : List (List AV) := ls.map fun l => [S l]
theorem S_of (s : ByteArray) : AV.val (.string s) = S s.data.toList := by cases s; rfl
theorem lit_int (k : IntKind) (n : Int) : lit (.int k n) = .val (.int k n) := rfl
theorem lit_bool (b : Bool) : lit (.bool b) = .val (.bool b) := rfl
theorem lit_nil : lit (.slice none 0 0) = .ro true [] := rfl
theorem lit_nilf : lit .nilFunc = .val .nilFunc := rfl
@[simp] theorem lit_str (s : ByteArray) : lit (.string s) = S s.data.toList := S_of s
section
variable (P : Program)
@[simp] theorem cells_val (v : Value) : (AV.val v).cells = [(AV.val v)] := rfl
@[simp] theorem okc_val (v : Value) : okc (AV.val v) = true := rfl
@[simp] theorem nbad_val (v : Value) : (AV.val v).isBad = false := rfl
@[simp] theorem lf_val (v : Value) : lf (AV.val v) = true := rfl
@[simp] theorem flat_val (v : Value) : flat (AV.val v) = true := rfl
@[simp] theorem cells_ro (b : Bool) (es : List (List AV)) : (AV.ro b es).cells = [(AV.ro b es)] := rfl
@[simp] theorem okc_ro (b : Bool) (es : List (List AV)) : okc (AV.ro b es) = true := rfl
@[simp] theorem nbad_ro (b : Bool) (es : List (List AV)) : (AV.ro b es).isBad = false := rfl
@[simp] theorem lf_ro (b : Bool) (es : List (List AV)) : lf (AV.ro b es) = true := rfl
@[simp] theorem flat_ro (b : Bool) (es : List (List AV)) : flat (AV.ro b es) = false := rfl
@[simp] theorem cells_emp  : AV.emp.cells = [AV.emp] := rfl
@[simp] theorem okc_emp  : okc AV.emp = true := rfl
@[simp] theorem nbad_emp  : AV.emp.isBad = false := rfl
@[simp] theorem lf_emp  : lf AV.emp = true := rfl
@[simp] theorem flat_emp  : flat AV.emp = false := rfl
@[simp] theorem cells_sl (l sz off n : Nat) : (AV.sl l sz off n).cells = [(AV.sl l sz off n)] := rfl
@[simp] theorem okc_sl (l sz off n : Nat) : okc (AV.sl l sz off n) = true := rfl
@[simp] theorem nbad_sl (l sz off n : Nat) : (AV.sl l sz off n).isBad = false := rfl
@[simp] theorem lf_sl (l sz off n : Nat) : lf (AV.sl l sz off n) = false := rfl
@[simp] theorem flat_sl (l sz off n : Nat) : flat (AV.sl l sz off n) = false := rfl
@[simp] theorem cells_ptr (l i f : Nat) : (AV.ptr l i f).cells = [(AV.ptr l i f)] := rfl
@[simp] theorem okc_ptr (l i f : Nat) : okc (AV.ptr l i f) = true := rfl
@[simp] theorem nbad_ptr (l i f : Nat) : (AV.ptr l i f).isBad = false := rfl
@[simp] theorem lf_ptr (l i f : Nat) : lf (AV.ptr l i f) = false := rfl
@[simp] theorem flat_ptr (l i f : Nat) : flat (AV.ptr l i f) = false := rfl
@[simp] theorem cells_fn (f : Nat) (cs : List AV) : (AV.fn f cs).cells = [(AV.fn f cs)] := rfl
@[simp] theorem okc_fn (f : Nat) (cs : List AV) : okc (AV.fn f cs) = true := rfl
@[simp] theorem nbad_fn (f : Nat) (cs : List AV) : (AV.fn f cs).isBad = false := rfl
@[simp] theorem lf_fn (f : Nat) (cs : List AV) : lf (AV.fn f cs) = false := rfl
@[simp] theorem flat_fn (f : Nat) (cs : List AV) : flat (AV.fn f cs) = false := rfl
@[simp] theorem cells_rptr (cs : List AV) : (AV.rptr cs).cells = [(AV.rptr cs)] := rfl
@[simp] theorem okc_rptr (cs : List AV) : okc (AV.rptr cs) = true := rfl
@[simp] theorem nbad_rptr (cs : List AV) : (AV.rptr cs).isBad = false := rfl
@[simp] theorem lf_rptr (cs : List AV) : lf (AV.rptr cs) = true := rfl
@[simp] theorem flat_rptr (cs : List AV) : flat (AV.rptr cs) = false := rfl
@[simp] theorem cells_yld (l : Nat) : (AV.yld l).cells = [(AV.yld l)] := rfl
@[simp] theorem okc_yld (l : Nat) : okc (AV.yld l) = true := rfl
@[simp] theorem nbad_yld (l : Nat) : (AV.yld l).isBad = false := rfl
@[simp] theorem lf_yld (l : Nat) : lf (AV.yld l) = false := rfl
@[simp] theorem flat_yld (l : Nat) : flat (AV.yld l) = false := rfl
@[simp] theorem cells_agg (cs : List AV) : (AV.agg cs).cells = cs := rfl
@[simp] theorem nbad_agg (cs : List AV) : (AV.agg cs).isBad = false := rfl
@[simp] theorem lf_agg (cs : List AV) : lf (.agg cs) = lf.lfs cs := rfl
@[simp] theorem lf_tup (cs : List AV) : lf (.tup cs) = lf.lfs cs := rfl
@[simp] theorem lfs_nil : lf.lfs [] = true := rfl
@[simp] theorem lfs_cons (c : AV) (cs : List AV) : lf.lfs (c :: cs) = (lf c && lf.lfs cs) := rfl
@[simp] theorem flat_agg (cs : List AV) : flat (.agg cs) = flat.flats cs := rfl
@[simp] theorem flat_tup (cs : List AV) : flat (.tup cs) = flat.flats cs := rfl
@[simp] theorem flats_nil : flat.flats [] = true := rfl
@[simp] theorem flats_cons (c : AV) (cs : List AV) : flat.flats (c :: cs) = (flat c && flat.flats cs) := rfl
@[simp] theorem frz_val (h : Heap) (v : Value) : frz h depth (.val v) = some (.val v) := rfl
@[simp] theorem frz_ro (h : Heap) (b : Bool) (es : List (List AV)) : frz h depth (.ro b es) = some (.ro b es) := rfl
@[simp] theorem frz_emp (h : Heap) : frz h depth .emp = some (.ro false []) := rfl
@[simp] theorem cells_S (l : Str) : (S l).cells = [S l] := rfl
@[simp] theorem okc_S (l : Str) : okc (S l) = true := rfl
@[simp] theorem bad_S (l : Str) : (S l).isBad = false := rfl
@[simp] theorem lf_S (l : Str) : lf (S l) = true := rfl
@[simp] theorem flat_S (l : Str) : flat (S l) = true := rfl
theorem frz_S (h : Heap) (n : Nat) (l : Str) : frz h (n + 1) (S l) = some (S l) := rfl
@[simp] theorem frz_S12 (h : Heap) (l : Str) : frz h depth (S l) = some (S l) := rfl
@[simp high] theorem len_S (t : TypeId) (ts : List TypeId) (l : Str) (xs : List AV) (h : Heap) (c : Nat) : builtinA P .len (t :: ts) h c (S l :: xs) = if stT P t then some (I l.length, h, c) else none := rfl
@[simp] theorem len_ro (t : TypeId) (ts : List TypeId) (b : Bool) (es : List (List AV)) (xs : List AV) (h : Heap) (c : Nat) : builtinA P .len (t :: ts) h c (.ro b es :: xs) = if (slT P t).isSome then some (I es.length, h, c) else none := rfl
@[simp] theorem len_emp (t : TypeId) (ts : List TypeId) (xs : List AV) (h : Heap) (c : Nat) : builtinA P .len (t :: ts) h c (.emp :: xs) = if (slT P t).isSome then some (I 0, h, c) else none := rfl
@[simp] theorem len_sl (t : TypeId) (ts : List TypeId) (l sz off n : Nat) (xs : List AV) (h : Heap) (c : Nat) : builtinA P .len (t :: ts) h c (.sl l sz off n :: xs) = if (slT P t).isSome then some (I n, h, c) else none := rfl
@[simp] theorem app_eq (t t' : TypeId) (s x : AV) (h : Heap) (c : Nat) : builtinA P .append [t, t'] h c [s, x] = if okSrc P t' x then appendA P t h c s x else none := rfl
@[simp] theorem oks_ro (t : TypeId) (b : Bool) (es : List (List AV)) : okSrc P t (.ro b es) = (slT P t).isSome := rfl
@[simp] theorem oks_emp (t : TypeId) : okSrc P t .emp = (slT P t).isSome := rfl
@[simp] theorem oks_sl (t : TypeId) (l sz off n : Nat) : okSrc P t (.sl l sz off n) = (slT P t).isSome := rfl
@[simp] theorem oks_S (t : TypeId) (l : Str) : okSrc P t (S l) = stT P t := rfl
@[simp] theorem src_ro (h : Heap) (b : Bool) (es : List (List AV)) : srcA h (.ro b es) = els h (.ro b es) := rfl
@[simp] theorem src_emp (h : Heap) : srcA h .emp = els h .emp := rfl
@[simp] theorem src_sl (h : Heap) (l sz off n : Nat) : srcA h (.sl l sz off n) = els h (.sl l sz off n) := rfl
@[simp] theorem src_S (h : Heap) (l : Str) : srcA h (S l) = some (l.map fun b => [U b]) := rfl
@[simp] theorem bin_ints (op : BinOp) (t : TypeId) (k k' : IntKind) (a b : Int) : binA P op t (.val (.int k a)) (.val (.int k' b)) = if k = k' then binI op k a b else shA op k a b := rfl
@[simp high] theorem index_S (t : TypeId) (l : Str) (k : IntKind) (i : Int) : indexA P t (S l) (.val (.int k i)) = if stT P t then (if 0 ≤ i then (l[i.toNat]?).map fun b => U b else none) else none := by
  have h : ∀ n : Nat, (⟨l.toArray⟩ : ByteArray)[n]? = l[n]? := by
    intro n
    by_cases hn : n < l.length
    · have h1 : (⟨l.toArray⟩ : ByteArray)[n]? = some ((⟨l.toArray⟩ : ByteArray)[n]'(by simpa [ByteArray.size] using hn)) := getElem?_pos _ _ _
      rw [h1, List.getElem?_eq_getElem hn]
      rfl
    · rw [List.getElem?_eq_none (by omega)]
      exact getElem?_neg _ _ (by simp [ByteArray.size]; omega)
  unfold indexA S
  simp only [h]
  rfl
@[simp high] theorem slice_S (t : TypeId) (l : Str) (lo hi : Option AV) : sliceA P t (S l) lo hi none = if stT P t then (bnd hi l.length l.length).bind fun h => (bnd lo 0 h).bind fun x => some (S ((l.take h).drop x)) else none := by
  have h : ∀ a b : Nat, (⟨l.toArray⟩ : ByteArray).extract a b = ⟨((l.take b).drop a).toArray⟩ := by
    intro a b
    apply ByteArray.ext
    rw [ByteArray.data_extract]
    simp [List.drop_take]
  unfold sliceA S
  simp only [h]
  rfl
@[simp high] theorem add_S (t : TypeId) (a b : Str) : binA P .add t (S a) (S b) = if a.length + b.length ≤ 140737488355328 then some (S (a ++ b)) else none := by
  have h : (⟨a.toArray⟩ ++ ⟨b.toArray⟩ : ByteArray) = ⟨(a ++ b).toArray⟩ := by
    apply ByteArray.ext
    rw [ByteArray.data_append]
    simp
  unfold binA S binS
  simp only [h]
  rfl
theorem toList_S (a : Str) : (⟨a.toArray⟩ : ByteArray).toList = a := by
  rw [ByteArray.toList_eq]
@[simp high] theorem eql_S (t : TypeId) (a b : Str) : binA P .eql t (S a) (S b) = some (B (a == b)) := by
  unfold binA S binS
  simp only [toList_S]
  rfl
@[simp high] theorem neq_S (t : TypeId) (a b : Str) : binA P .neq t (S a) (S b) = some (B (a != b)) := by
  unfold binA S binS
  simp only [toList_S]
  rfl
end
@[simp] theorem frz_ifc (h : Heap) : frz h depth .ifc = some .ifc := rfl
@[simp] theorem frz_fn (h : Heap) (f : Nat) : frz h depth (.fn f []) = some (.fn f []) := rfl
@[simp] theorem cells_mp (l : Nat) : (AV.mp l).cells = [AV.mp l] := rfl
@[simp] theorem okc_mp (l : Nat) : okc (AV.mp l) = true := rfl
@[simp] theorem nbad_mp (l : Nat) : (AV.mp l).isBad = false := rfl
@[simp] theorem lf_mp (l : Nat) : lf (AV.mp l) = false := rfl
@[simp] theorem flat_mp (l : Nat) : flat (AV.mp l) = false := rfl
@[simp] theorem flat_ifc : flat AV.ifc = true := rfl
@[simp] theorem lf_ifc : lf AV.ifc = true := rfl
@[simp] theorem putV_S (d : Option Tmp) (s : St) (l : Str) (h : Heap) (c : Nat) : putV d s (S l, h, c) = (.normal, ⟨upd s.t d (S l), h, c⟩) := rfl
@[simp] theorem putV_ifc (d : Option Tmp) (s : St) (h : Heap) (c : Nat) : putV d s (.ifc, h, c) = (.normal, ⟨upd s.t d .ifc, h, c⟩) := rfl
theorem call_of {md : Nat → Option CMode} {f : Nat} {args vs : List AV} {r : AV} {h h' : Heap} {c c' : Nat} (hm : md f = some .pure) (ha : args.mapM (frz h depth) = some vs)
    (e : run Tryz.prog md f vs Heap.none 0 = some (r, h', c')) (fr : frz h' depth r = some r) (fl : flat r = true) :
    callA md (run Tryz.prog md) f args h c = some (r, h, c) := by
  rw [call_pure _ _ _ _ _ _ hm, ha, Option.bind_some, e, Option.bind_some]
  rw [fr, Option.bind_some, fl]
  rw [show (lf.lfs args || true || okO h' depth r) = true by simp]
  rfl
@[simp] theorem lit_ptr : lit (.pointer none) = .val (.pointer none) := rfl
@[simp] theorem lit_nif : lit .nilIface = .val .nilIface := rfl
theorem run_of {P : Program} {md : Nat → Option CMode} {n f : Nat} {args : List AV} {h : Heap} {c : Nat} {v : AV} (e : (callN P md n f args h c).map (·.1) = some v) : ∃ h' c', run P md f args h c = some (v, h', c') := by
  obtain ⟨⟨r, h', c'⟩, e1, e2⟩ := Option.map_eq_some_iff.mp e
  cases e2
  exact ⟨h', c', run_some.mpr ⟨n, e1⟩⟩
theorem call_fz {md : Nat → Option CMode} {f : Nat} {args vs : List AV} {r v : AV} {h h' : Heap} {c c' : Nat} (hm : md f = some .pure) (ha : args.mapM (frz h depth) = some vs) (hl : lf.lfs args = true)
    (e : run Tryz.prog md f vs Heap.none 0 = some (r, h', c')) (fr : frz h' depth r = some v) : callA md (run Tryz.prog md) f args h c = some (v, h, c) := by
  rw [call_pure _ _ _ _ _ _ hm, ha, Option.bind_some, e, Option.bind_some]
  simp only [fr, Option.bind_some, hl, Bool.true_or, if_true]
end Go.Proofs.YtgbdbenepnbajaaGreatDoor.AM
