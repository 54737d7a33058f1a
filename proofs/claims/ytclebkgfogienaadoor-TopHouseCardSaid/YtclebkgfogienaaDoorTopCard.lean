/- The tied card of TopHouse. -/
import Derived.Test.YtclebkgfogienaaDoorTopRow
import Derived.SevenTiedAt
namespace Go.Proofs.YtclebkgfogienaaDoor.top
set_option linter.unusedSimpArgs false
set_option linter.unusedVariables false
open Go
theorem card : Rows.TopHouseCardSaid :=
  Claim7.holds_tied_plain_at .later [] [.data, .data, .data] true (true, "2473a1b8a2ed790f8ae0ad0174441356d661006afaf631ed19ff889b3f20294f") false
    said (fun _ h => by cases h) (by kernel_rfl) (fun _ h => by cases h) topHouse_row_tie rfl ⟨rfl, rfl⟩ (by kernel_rfl) rfl
    (fun f fn hf hfn => by
      obtain rfl : f = 9 := Option.some.inj ((show Tryd.prog.funcNamed "quillward/quilltop.TopHouse" = some 9 by kernel_rfl).symm.trans hf) |>.symm
      obtain rfl : fn = Tryd.f9 := (Option.some.inj (Tryd.func9.symm.trans hfn)).symm
      exact ⟨by kernel_rfl, fun j t ht => by
        rw [Tryd.params9] at ht
        have h3 : t = 9 ∨ t = 22 ∨ t = 4 := by
          rcases j with _ | _ | _ | j
          · exact .inl (by simpa using ht.symm)
          · exact .inr (.inl (by simpa using ht.symm))
          · exact .inr (.inr (by simpa using ht.symm))
          · simp at ht
        rcases h3 with rfl | rfl | rfl
        · exact (show Tryd.prog.wantsStandIn 9 = false by kernel_rfl)
        · exact (show Tryd.prog.wantsStandIn 22 = false by kernel_rfl)
        · exact (show Tryd.prog.wantsStandIn 4 = false by kernel_rfl)⟩)
    (by kernel_rfl)
end Go.Proofs.YtclebkgfogienaaDoor.top
