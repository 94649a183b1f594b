/- The interpreter's equations, for simp. -/
import Derived.Test.YtgbdbenepnbajaaGreatDoorAmOpen
namespace Go.Proofs.YtgbdbenepnbajaaGreatDoor.AM
open Go
set_option linter.unusedVariables false

theorem wrap_id {n : Int} (h1 : -9223372036854775808 ≤ n) (h2 : n ≤ 9223372036854775807) : IntKind.i64.wrap n = n := by
  show (if (true && decide (n % (2 ^ 64 : Int) ≥ (2 ^ 63 : Int))) = true then n % (2 ^ 64 : Int) - (2 ^ 64 : Int) else n % (2 ^ 64 : Int)) = n
  have e1 : (2 ^ 64 : Int) = 18446744073709551616 := by decide
  have e2 : (2 ^ 63 : Int) = 9223372036854775808 := by decide
  rw [e1, e2]
  simp only [Bool.true_and, decide_eq_true_eq]
  split <;> omega

theorem wrap_eq (n : Int) : IntKind.i64.wrap n = (n + 9223372036854775808) % 18446744073709551616 - 9223372036854775808 := by
  show (if (true && decide (n % (2 ^ 64 : Int) ≥ (2 ^ 63 : Int))) = true then n % (2 ^ 64 : Int) - (2 ^ 64 : Int) else n % (2 ^ 64 : Int)) = _
  have e1 : (2 ^ 64 : Int) = 18446744073709551616 := by decide
  have e2 : (2 ^ 63 : Int) = 9223372036854775808 := by decide
  rw [e1, e2]
  simp only [Bool.true_and, decide_eq_true_eq]
  split <;> omega

section
variable (P : Program) (md : Nat → Option CMode) (orc : Orc) (ops : Array Oper)

@[simp] theorem upd_some (t : Nat → AV) (d : Tmp) (v : AV) (k : Nat) : upd t (some d) v k = if k = d then v else t k := rfl
@[simp] theorem upd_none (t : Nat → AV) (v : AV) : upd t none v = t := rfl
@[simp] theorem put_get (h : Heap) (l : Nat) (b : Option Blk) (k : Nat) : h.put l b k = if k = l then b else h k := rfl
@[simp] theorem none_get (k : Nat) : Heap.none k = none := rfl
@[simp] theorem init_zero (a : AV) (l : List AV) : init (a :: l) 0 = a := rfl
@[simp] theorem init_succ (a : AV) (l : List AV) (k : Nat) : init (a :: l) (k + 1) = init l k := rfl
@[simp] theorem init_nil (k : Nat) : init [] k = .bad := rfl

@[simp] theorem exL_skip (s : St) : exL P md .skip s = some (.normal, s) := rfl
@[simp] theorem exL_reg (i : Nat) (s : St) : exL P md (.region i ops false) s = regA P md (run P md) ops ops.toList s := rfl
@[simp] theorem exL_regD (i : Nat) (s : St) : exL P md (.region i ops true) s = (regD P md (run P md) ops s.h ops.toList s).map fun s => (.normal, s) := rfl
@[simp] theorem exL_seq (a b : Code) (s : St) : exL P md (.seq a b) s = (exL P md a s).bind (nxt (exL P md b)) := rfl
@[simp] theorem exL_cond (x : Operand) (a b : Code) (s : St) : exL P md (.cond x a b) s = condA (evA s.t x) (exL P md a s) (exL P md b s) := rfl
@[simp] theorem exL_block (i : Nat) (b : Code) (s : St) : exL P md (.block i b) s = (exL P md b s).bind (outOf i) := rfl
theorem exL_loop (b : Code) (s : St) : exL P md (.loop b) s = iterL (exL P md b) s := rfl
@[simp] theorem fpT_eq (P : Program) (t : TypeId) (i : Nat) : fpT P t i = match arT P t with
  | some (_, e) => (szT P e).map fun s => (i * s, e)
  | none => fdT P t i := rfl
@[simp] theorem roSl_eq (s : TypeId) : roSl s = (s == 385) := rfl
@[simp] theorem exL_scope (b : Code) (s : St) : exL P md (.scope b) s = exL P md b s := rfl
@[simp] theorem exL_label (i : Nat) (s : St) : exL P md (.label i) s = some (.normal, s) := rfl
@[simp] theorem exL_exit (i : Nat) (s : St) : exL P md (.exit i) s = some (.exit i, s) := rfl
@[simp] theorem exL_ret (s : St) : exL P md .ret s = some (.ret, s) := rfl
@[simp] theorem exL_range (g : Operand) (ps : Array Tmp) (a b : Code) (s : St) : exL P md (.rangeFunc g ps a b) s = rngA md (run P md) (evA s.t g) ps.toList a b s := rfl
@[simp] theorem regA_nil (s : St) : regA P md orc ops [] s = some (.normal, s) := rfl
@[simp] theorem regA_cons (o : Oper) (r : List Oper) (s : St) : regA P md orc ops (o :: r) s = (stepA P md orc ops o s).bind (nxt (regA P md orc ops r)) := rfl
@[simp] theorem regD_nil (h0 : Heap) (s : St) : regD P md orc ops h0 [] s = some s := rfl
@[simp] theorem regD_cons (h0 : Heap) (o : Oper) (r : List Oper) (s : St) : regD P md orc ops h0 (o :: r) s = (stepD P md orc ops h0 o s).bind (regD P md orc ops h0 r) := rfl
/-- What an operation that may panic leaves. -/
def putP (d : Option Tmp) (s : St) (b : Bool) (p : AV × Heap × Nat) : Ex × St := bif b then putV d s p else (.normal, ⟨upd s.t d p.1, p.2.1, p.2.2⟩)
@[simp] theorem putP_false (d : Option Tmp) (s : St) (p : AV × Heap × Nat) : putP d s false p = (.normal, ⟨upd s.t d p.1, p.2.1, p.2.2⟩) := rfl
@[simp] theorem putP_true (d : Option Tmp) (s : St) (p : AV × Heap × Nat) : putP d s true p = putV d s p := rfl
theorem putV_np (d : Option Tmp) (s : St) {v : AV} (h : Heap) (c : Nat) (hv : v.isPan = false) : putV d s (v, h, c) = (.normal, ⟨upd s.t d v, h, c⟩) := by
  cases v <;> first | rfl | cases hv
@[simp] theorem putV_val (d : Option Tmp) (s : St) (v : Value) (h : Heap) (c : Nat) : putV d s (.val v, h, c) = (.normal, ⟨upd s.t d (.val v), h, c⟩) := rfl
@[simp] theorem putV_ro (d : Option Tmp) (s : St) (b : Bool) (es : List (List AV)) (h : Heap) (c : Nat) : putV d s (.ro b es, h, c) = (.normal, ⟨upd s.t d (.ro b es), h, c⟩) := rfl
@[simp] theorem putV_emp (d : Option Tmp) (s : St) (h : Heap) (c : Nat) : putV d s (.emp, h, c) = (.normal, ⟨upd s.t d .emp, h, c⟩) := rfl
@[simp] theorem putV_sl (d : Option Tmp) (s : St) (l z o n : Nat) (h : Heap) (c : Nat) : putV d s (.sl l z o n, h, c) = (.normal, ⟨upd s.t d (.sl l z o n), h, c⟩) := rfl
@[simp] theorem putV_ptr (d : Option Tmp) (s : St) (l i f : Nat) (h : Heap) (c : Nat) : putV d s (.ptr l i f, h, c) = (.normal, ⟨upd s.t d (.ptr l i f), h, c⟩) := rfl
@[simp] theorem putV_fn (d : Option Tmp) (s : St) (f : Nat) (cs : List AV) (h : Heap) (c : Nat) : putV d s (.fn f cs, h, c) = (.normal, ⟨upd s.t d (.fn f cs), h, c⟩) := rfl
@[simp] theorem putV_agg (d : Option Tmp) (s : St) (cs : List AV) (h : Heap) (c : Nat) : putV d s (.agg cs, h, c) = (.normal, ⟨upd s.t d (.agg cs), h, c⟩) := rfl
@[simp] theorem putV_tup (d : Option Tmp) (s : St) (cs : List AV) (h : Heap) (c : Nat) : putV d s (.tup cs, h, c) = (.normal, ⟨upd s.t d (.tup cs), h, c⟩) := rfl
@[simp] theorem putV_mp (d : Option Tmp) (s : St) (l : Nat) (h : Heap) (c : Nat) : putV d s (.mp l, h, c) = (.normal, ⟨upd s.t d (.mp l), h, c⟩) := rfl
@[simp] theorem putV_pan (d : Option Tmp) (s : St) (t : Nat) (k : IntKind) (n : Int) (h : Heap) (c : Nat) : putV d s (.pan t k n, h, c) = (.pan t k n, ⟨s.t, h, c⟩) := rfl
/-- An operation that is never passed over. -/
@[simp] theorem stepA_plain (d : Option Tmp) (op : Op) (ty : TypeId) (pos : String) (af : Array Edge) (s : St) :
    stepA P md orc ops ⟨d, op, ty, pos, af, none⟩ s = (opA P md orc s.t s.h s.c op).map (putP d s (mayP op)) := by
  cases h : mayP op <;> simp only [stepA, wantA, Option.bind_some, cond_true, h, cond_false] <;> rfl
@[simp] theorem stepA_guard (d : Option Tmp) (op : Op) (ty : TypeId) (pos : String) (af : Array Edge) (j : Nat) (want : Bool) (s : St) :
    stepA P md orc ops ⟨d, op, ty, pos, af, some (j, want)⟩ s = (yldA ops s.t j).bind fun b => bif (b == some want) then (opA P md orc s.t s.h s.c op).map (putP d s (mayP op)) else some (.normal, ⟨upd s.t d skipV, s.h, s.c⟩) := by
  show (Option.map (fun b => b == some want) (yldA ops s.t j)).bind _ = _
  cases yldA ops s.t j with
  | none => rfl
  | some b =>
    simp only [Option.map_some, Option.bind_some]
    cases (b == some want)
    · rfl
    · simp only [cond_true]
      cases mayP op <;> rfl
/-- What an operation of a region that draws leaves. -/
def putD (d : Option Tmp) (s : St) : AV × Heap × Nat → Option St := fun (v, h, c) => if v.isPan = true then none else some ⟨upd s.t d v, h, c⟩
theorem putD_np (d : Option Tmp) (s : St) {v : AV} (h : Heap) (c : Nat) (hv : v.isPan = false) : putD d s (v, h, c) = some ⟨upd s.t d v, h, c⟩ := by
  unfold putD
  simp only [hv]
  rfl
@[simp] theorem putD_val (d : Option Tmp) (s : St) (v : Value) (h : Heap) (c : Nat) : putD d s (.val v, h, c) = some ⟨upd s.t d (.val v), h, c⟩ := rfl
@[simp] theorem putD_ro (d : Option Tmp) (s : St) (b : Bool) (es : List (List AV)) (h : Heap) (c : Nat) : putD d s (.ro b es, h, c) = some ⟨upd s.t d (.ro b es), h, c⟩ := rfl
@[simp] theorem putD_emp (d : Option Tmp) (s : St) (h : Heap) (c : Nat) : putD d s (.emp, h, c) = some ⟨upd s.t d .emp, h, c⟩ := rfl
@[simp] theorem putD_sl (d : Option Tmp) (s : St) (l z o n : Nat) (h : Heap) (c : Nat) : putD d s (.sl l z o n, h, c) = some ⟨upd s.t d (.sl l z o n), h, c⟩ := rfl
@[simp] theorem putD_ptr (d : Option Tmp) (s : St) (l i f : Nat) (h : Heap) (c : Nat) : putD d s (.ptr l i f, h, c) = some ⟨upd s.t d (.ptr l i f), h, c⟩ := rfl
@[simp] theorem putD_fn (d : Option Tmp) (s : St) (f : Nat) (cs : List AV) (h : Heap) (c : Nat) : putD d s (.fn f cs, h, c) = some ⟨upd s.t d (.fn f cs), h, c⟩ := rfl
@[simp] theorem putD_agg (d : Option Tmp) (s : St) (cs : List AV) (h : Heap) (c : Nat) : putD d s (.agg cs, h, c) = some ⟨upd s.t d (.agg cs), h, c⟩ := rfl
@[simp] theorem putD_tup (d : Option Tmp) (s : St) (cs : List AV) (h : Heap) (c : Nat) : putD d s (.tup cs, h, c) = some ⟨upd s.t d (.tup cs), h, c⟩ := rfl
@[simp] theorem putD_mp (d : Option Tmp) (s : St) (l : Nat) (h : Heap) (c : Nat) : putD d s (.mp l, h, c) = some ⟨upd s.t d (.mp l), h, c⟩ := rfl
@[simp] theorem putD_bad (d : Option Tmp) (s : St) (h : Heap) (c : Nat) : putD d s (.bad, h, c) = some ⟨upd s.t d .bad, h, c⟩ := rfl
@[simp] theorem stepD_plain (h0 : Heap) (d : Option Tmp) (op : Op) (ty : TypeId) (pos : String) (af : Array Edge) (s : St) :
    stepD P md orc ops h0 ⟨d, op, ty, pos, af, none⟩ s = if 3 ≤ kindA md ops op then (if killOk ops s.t ⟨d, op, ty, pos, af, none⟩ = false then none else (opA P md orc s.t s.h s.c op).bind (putD d s))
     else if freshA s.t op = false then none else (opA P md orc s.t h0 s.c op).map fun p => ⟨upd s.t d p.1, p.2.1.lay s.c p.2.2 s.h, p.2.2⟩ := rfl
@[simp] theorem stepD_guard (h0 : Heap) (d : Option Tmp) (op : Op) (ty : TypeId) (pos : String) (af : Array Edge) (j : Nat) (want : Bool) (s : St) :
    stepD P md orc ops h0 ⟨d, op, ty, pos, af, some (j, want)⟩ s = (yldA ops s.t j).bind fun b => bif (b == some want) then (if 3 ≤ kindA md ops op then (if killOk ops s.t ⟨d, op, ty, pos, af, some (j, want)⟩ = false then none else (opA P md orc s.t s.h s.c op).bind (putD d s))
     else if freshA s.t op = false then none else (opA P md orc s.t h0 s.c op).map fun p => ⟨upd s.t d p.1, p.2.1.lay s.c p.2.2 s.h, p.2.2⟩) else some ⟨upd s.t d skipV, s.h, s.c⟩ := by
  show (Option.map (fun b => b == some want) (yldA ops s.t j)).bind _ = _
  cases yldA ops s.t j <;> rfl
@[simp] theorem lay_no (h1 h : Heap) (c : Nat) : h1.lay c c h = h := by
  funext l
  simp only [Heap.lay]
  rw [if_neg (by omega)]
theorem lay_get (h1 h : Heap) (c c1 l : Nat) : h1.lay c c1 h l = if c ≤ l ∧ l < c1 then h1 l else h l := rfl
theorem map_some' {α β : Type} (f : α → β) (x : α) : (some x).map f = some (f x) := rfl
theorem bind_some' {α β : Type} (f : α → Option β) (x : α) : (some x).bind f = f x := rfl
@[simp] theorem nxt_normal (K : St → Option (Ex × St)) (s : St) : nxt K (.normal, s) = K s := rfl
@[simp] theorem nxt_exit (K : St → Option (Ex × St)) (i : Nat) (s : St) : nxt K (.exit i, s) = some (.exit i, s) := rfl
@[simp] theorem nxt_ret (K : St → Option (Ex × St)) (s : St) : nxt K (.ret, s) = some (.ret, s) := rfl
@[simp] theorem nxt_pan (K : St → Option (Ex × St)) (t : Nat) (k : IntKind) (n : Int) (s : St) : nxt K (.pan t k n, s) = some (.pan t k n, s) := rfl
@[simp] theorem out_pan (i : Nat) (t : Nat) (k : IntKind) (n : Int) (s : St) : outOf i (.pan t k n, s) = some (.pan t k n, s) := rfl
@[simp] theorem fin_pan (fn : Func) (t : Nat) (k : IntKind) (n : Int) (s : St) : fin P fn (.pan t k n, s) = some (.pan t k n, s.h, s.c) := rfl
@[simp] theorem mayP_call (f : Operand) (as : Array Operand) (ts : Array TypeId) : mayP (.call ⟨.value f, as, ts⟩) = true := rfl
@[simp] theorem mayP_built (b : Builtin) (as : Array Operand) (ts : Array TypeId) : mayP (.call ⟨.builtin b, as, ts⟩) = false := rfl
@[simp] theorem mayP_panic (x : Operand) : mayP (.panic x) = true := rfl
@[simp] theorem out_normal (i : Nat) (s : St) : outOf i (.normal, s) = some (.normal, s) := rfl
@[simp] theorem out_ret (i : Nat) (s : St) : outOf i (.ret, s) = some (.ret, s) := rfl
@[simp] theorem out_exit (i k : Nat) (s : St) : outOf i (.exit k, s) = some (if k = i then .normal else .exit k, s) := rfl
@[simp] theorem cond_bool (b : Bool) (x y : Option (Ex × St)) : condA (.val (.bool b)) x y = bif b then x else y := rfl
@[simp] theorem fin_ret (fn : Func) (s : St) : fin P fn (.ret, s) = (resA P s fn.results.toList).map fun vs => (one vs, s.h, s.c) := rfl
@[simp] theorem fin_normal (fn : Func) (s : St) : fin P fn (.normal, s) = (resA P s fn.results.toList).map fun vs => (one vs, s.h, s.c) := rfl
@[simp] theorem resA_nil (s : St) : resA P s [] = some [] := rfl
@[simp] theorem resA_tmp (s : St) (t : Tmp) (r : List ResultVar) : resA P s (.tmp t :: r) = (resA P s r).map fun vs => s.t t :: vs := rfl
@[simp] theorem one_one (v : AV) : one [v] = v := rfl
@[simp] theorem one_two (u v : AV) (r : List AV) : one (u :: v :: r) = .tup (u :: v :: r) := rfl
@[simp] theorem one_nil : one [] = .tup [] := rfl
theorem loop_step (b : Code) (s : St) : exL P md (.loop b) s = (exL P md b s).bind (nxt (exL P md (.loop b))) := iterL_eq _ _
@[simp] theorem resA_cell (s : St) (t : Tmp) (ty : TypeId) (r : List ResultVar) : resA P s (.cell t ty :: r) = (szT P ty).bind fun n => (aggT P ty).bind fun ag => if ag = false ∧ n ≠ 1 then none else (ld s.h n (s.t t)).bind fun cs => (resA P s r).map fun vs => mk ag cs :: vs := rfl
@[simp] theorem body_eq (fn : Func) (args : List AV) (h : Heap) (c : Nat) : bodyL P md fn args h c = fn.body.bind fun b => (exL P md b ⟨init args, h, c⟩).bind (fin P fn) := rfl
/-- A call of a function that is called by value. -/
theorem call_pure (f : Nat) (args : List AV) (h : Heap) (c : Nat) (hm : md f = some .pure) : callA md (run P md) f args h c =
    (args.mapM (frz h depth)).bind fun as => (run P md f as Heap.none 0).bind fun p => (frz p.2.1 depth p.1).bind fun r' => if lf.lfs args || flat r' || okO p.2.1 depth p.1 then some (r', h, c) else none := by
  unfold callA
  rw [hm]
end

end Go.Proofs.YtgbdbenepnbajaaGreatDoor.AM
