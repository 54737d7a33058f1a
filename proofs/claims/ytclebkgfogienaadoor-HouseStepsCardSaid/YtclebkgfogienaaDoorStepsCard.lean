/- The tied card of HouseSteps. -/
import Derived.Test.YtclebkgfogienaaDoorStepsRow
import Derived.SevenTiedAt
namespace Go.Proofs.YtclebkgfogienaaDoor.steps
set_option linter.unusedSimpArgs false
set_option linter.unusedVariables false
open Go
theorem card : Rows.HouseStepsCardSaid :=
  Claim7.holds_tied_plain_at .later [] [.data, .data, .data] true (true, "2473a1b8a2ed790f8ae0ad0174441356d661006afaf631ed19ff889b3f20294f") false
    said (fun _ h => by cases h) (by kernel_rfl) (fun _ h => by cases h) houseSteps_row_tie rfl ⟨rfl, rfl⟩ (by kernel_rfl) rfl
    (fun f fn hf hfn => by
      obtain rfl : f = 4 := Option.some.inj ((show Tryd.prog.funcNamed "quillward/quillkeep.HouseSteps" = some 4 by kernel_rfl).symm.trans hf) |>.symm
      obtain rfl : fn = Tryd.f4 := (Option.some.inj (Tryd.func4.symm.trans hfn)).symm
      exact ⟨by kernel_rfl, fun j t ht => by
        rw [Tryd.params4] at ht
        have h3 : t = 22 ∨ t = 9 := by
          rcases j with _ | _ | _ | j
          · exact .inl (by simpa using ht.symm)
          · exact .inr (by simpa using ht.symm)
          · exact .inr (by simpa using ht.symm)
          · simp at ht
        rcases h3 with rfl | rfl
        · exact (show Tryd.prog.wantsStandIn 22 = false by kernel_rfl)
        · exact (show Tryd.prog.wantsStandIn 9 = false by kernel_rfl)⟩)
    (by kernel_rfl)
end Go.Proofs.YtclebkgfogienaaDoor.steps
