/- The tables hold; what the known script answers. -/
import Derived.Test.YtmpcjfkfgjpebaaGreatDoorZM2
set_option maxHeartbeats 0
set_option maxRecDepth 8000
set_option linter.unusedVariables false
namespace Go.Proofs.YtmpcjfkfgjpebaaGreatDoor.AM
open Go Go.Proofs
theorem fnsK : FnsOk Tryz.prog mK := fnsOk_of chkK (fun f g h => by
  have := lookup_mem2 h
  simp [tblK, tblOf] at this
  rcases this with ⟨rfl, rfl⟩ | ⟨rfl, rfl⟩ | ⟨rfl, rfl⟩ | ⟨rfl, rfl⟩ | ⟨rfl, rfl⟩ | ⟨rfl, rfl⟩ | ⟨rfl, rfl⟩ | ⟨rfl, rfl⟩ | ⟨rfl, rfl⟩ | ⟨rfl, rfl⟩
  · exact ext40
  · exact ext41
  · exact ext45
  · exact ext46
  · exact ext75
  · exact ext83
  · exact ext89
  · exact ext110
  · exact ext114
  · exact ext119) (fun f h => by
  have := lookup_mem2 h
  simp [tblK, tblOf] at this) (fun f g h => by
  have := lookup_mem2 h
  simp [tblK, tblOf] at this
  obtain ⟨rfl, rfl⟩ := this
  exact told153N 60)
theorem known_k : (callN Tryz.prog mK 60 6 [] Heap.none 0).map (·.1) = some (B true) := by kernel_rfl
theorem ext6 : ExtOk Tryz.prog 6 gKnown := by
  intro xs r e w vs gb gl hl
  unfold gKnown at e
  split at e
  · cases e
    obtain rfl : vs = [] := by have := hl.1; simpa using this
    obtain ⟨h', c', e⟩ := run_of known_k
    refine hits_enter fnsK.mdOk (f := 6) (m := .pure) rfl rfl ((run_sound mixA fnsK (md := mK) (f := 6) (m := .pure) rfl rfl e rfl gb gl hl).mono ?_)
    rintro e w' ⟨⟨u, rfl, ρ', hv⟩, hb⟩
    refine ⟨_, rfl, fun H F ρ => ?_, hb⟩
    cases hv with
    | val _ _ h1 => exact .val _ _ rfl
  · cases e
theorem fnsZ : FnsOk Tryz.prog mZ := fnsOk_of chkZ (fun f g h => by
  have := lookup_mem2 h
  simp [tblZ, tblOf] at this
  rcases this with ⟨rfl, rfl⟩ | ⟨rfl, rfl⟩ | ⟨rfl, rfl⟩ | ⟨rfl, rfl⟩ | ⟨rfl, rfl⟩ | ⟨rfl, rfl⟩ | ⟨rfl, rfl⟩ | ⟨rfl, rfl⟩ | ⟨rfl, rfl⟩ | ⟨rfl, rfl⟩ | ⟨rfl, rfl⟩
  · exact ext6
  · exact ext40
  · exact ext41
  · exact ext45
  · exact ext46
  · exact ext75
  · exact ext83
  · exact ext89
  · exact ext110
  · exact ext114
  · exact ext119) (fun f h => by
  have := lookup_mem2 h
  simp [tblZ, tblOf] at this) (fun f g h => by
  have := lookup_mem2 h
  simp [tblZ, tblOf] at this
  obtain ⟨rfl, rfl⟩ := this
  exact told153)
end Go.Proofs.YtmpcjfkfgjpebaaGreatDoor.AM
