/- The law's table holds; what is known is told. -/
import Derived.Test.YtgbdbenepnbajaaGreatDoorSC
import Derived.Test.YtgbdbenepnbajaaGreatDoorS12
set_option maxHeartbeats 0
set_option maxRecDepth 8000
set_option linter.unusedVariables false
namespace Go.Proofs.YtgbdbenepnbajaaGreatDoor.AM
open Go Go.Proofs
theorem frz_true {h : Heap} {n : Nat} {r : AV} (e : frz h (n + 1) r = some (.val (.bool true))) : r = .val (.bool true) := by
  unfold frz at e
  cases r <;> (try simp only at e)
  case val => cases e; rfl
  case ifc => cases e
  case ro => cases e
  case emp => cases e
  case fn f cs => cases cs <;> cases e
  case sl l sz off len =>
    obtain ⟨es, _, e⟩ := Option.bind_eq_some_iff.mp e
    obtain ⟨_, _, e⟩ := Option.map_eq_some_iff.mp e
    cases e
  case agg => obtain ⟨_, _, e⟩ := Option.map_eq_some_iff.mp e; cases e
  case tup => obtain ⟨_, _, e⟩ := Option.map_eq_some_iff.mp e; cases e
  all_goals cases e
theorem known_run : ∃ h c, run Tryz.prog (mdT tblC) 4 [] Heap.none 0 = some (.val (.bool true), h, c) := by
  obtain ⟨⟨r, h, c⟩, e1, e2⟩ := Option.bind_eq_some_iff.mp known_s
  unfold shut at e2
  simp only at e2
  cases hk : (!true || okO h depth r) with
  | false => rw [hk] at e2; cases e2
  | true =>
    rw [hk] at e2
    simp only [cond_true] at e2
    obtain rfl := frz_true e2
    exact ⟨h, c, run_some.mpr ⟨_, e1⟩⟩
theorem ext4 : ExtOk Tryz.prog 4 gKnown := by
  intro xs r e w vs gb gl hl
  unfold gKnown at e
  split at e
  · cases e
    obtain rfl : vs = [] := by have := hl.1; simpa using this
    obtain ⟨h', c', e⟩ := known_run
    refine hits_enter fnsC.mdOk (f := 4) (m := .pure) rfl rfl ((run_sound mixS fnsC (f := 4) (m := .pure) rfl rfl e rfl gb gl hl).mono ?_)
    rintro e w' ⟨⟨u, rfl, ρ', hv⟩, hb⟩
    refine ⟨_, rfl, fun H F ρ => ?_, hb⟩
    cases hv with
    | val _ _ h1 => exact .val _ _ rfl
  · cases e
theorem fnsL : FnsOk Tryz.prog mL := fnsOk_of chkL (fun f g h => by
  have := lookup_mem2 h
  simp [tblL] at this
  obtain ⟨rfl, rfl⟩ := this
  exact ext4) (fun f h => by
  have := lookup_mem2 h
  simp [tblL] at this) (fun f g h => by
  have := lookup_mem2 h
  simp [tblL] at this)
end Go.Proofs.YtgbdbenepnbajaaGreatDoor.AM
