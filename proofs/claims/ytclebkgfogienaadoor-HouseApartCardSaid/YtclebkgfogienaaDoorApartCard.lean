/- The tied card of HouseApart. -/
import Derived.Test.YtclebkgfogienaaDoorApartRow
import Derived.SevenTiedAt
namespace Go.Proofs.YtclebkgfogienaaDoor.apart
set_option linter.unusedSimpArgs false
set_option linter.unusedVariables false
open Go
theorem card : Rows.HouseApartCardSaid :=
  Claim7.holds_tied_plain_at .later [] [.data, .data, .data] true (true, "2473a1b8a2ed790f8ae0ad0174441356d661006afaf631ed19ff889b3f20294f") false
    said (fun _ h => by cases h) (by kernel_rfl) (fun _ h => by cases h) houseApart_row_tie rfl ⟨rfl, rfl⟩ (by kernel_rfl) rfl
    (fun f fn hf hfn => by
      obtain rfl : f = 8 := Option.some.inj ((show Tryd.prog.funcNamed "quillward/quillkeep.HouseApart" = some 8 by kernel_rfl).symm.trans hf) |>.symm
      obtain rfl : fn = Tryd.f8 := (Option.some.inj (Tryd.func8.symm.trans hfn)).symm
      exact ⟨by kernel_rfl, fun j t ht => by
        rw [Tryd.params8] at ht
        have h3 : t = 22 ∨ t = 9 := by
          rcases j with _ | _ | j
          · exact .inl (by simpa using ht.symm)
          · exact .inr (by simpa using ht.symm)
          · simp at ht
        rcases h3 with rfl | rfl
        · exact (show Tryd.prog.wantsStandIn 22 = false by kernel_rfl)
        · exact (show Tryd.prog.wantsStandIn 9 = false by kernel_rfl)⟩)
    (by kernel_rfl)
end Go.Proofs.YtclebkgfogienaaDoor.apart
