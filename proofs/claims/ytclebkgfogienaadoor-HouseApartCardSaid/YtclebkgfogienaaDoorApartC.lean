/- slices.Clone at deeds. -/
import Derived.Test.YtclebkgfogienaaDoorApartW
namespace Go.Proofs.YtclebkgfogienaaDoor
set_option linter.unusedSimpArgs false
set_option linter.unusedVariables false
open Go.RowKit

set_option maxRecDepth 100000 in
set_option maxHeartbeats 400000 in
theorem apart_clone (B b off c : Nat) (L : List (Dd × Value)) (w : World) (hL : DeedsL B w b off L) (hne : 0 < L.length) (hsz : L.length * 72 ≤ 140737488351232) :
    Calls Tryd.prog 24 #[.slice (some ⟨b, off, none⟩) L.length c] w fun e w' => ∃ b' off' c', e = .returned (.slice (some ⟨b', off', none⟩) L.length c') ∧ OwnC 25 5 w' (some ⟨b', off', none⟩) L.length c' (dCells L) ∧ w.heap.size ≤ b' ∧ Below w.heap.size w w' := by
  obtain ⟨i0, hi, hz0, hz1, hz2⟩ := info_parts info_deed
  have HI := Lib.hid hi
  have HZ0 := Lib.hid hz0
  have HZ1 := Lib.hid hz1
  have HZ2 := Lib.hid hz2
  have HN := Lib.hid (dCells_mem hL)
  have H1 := Lib.hid (dCells_one hL.sl)
  have HLN := Lib.hid (dCells_length L)
  clear hi hz0 hz1 hz2 hL
  have hba : Below w.heap.size w (w.alloc (.cells #[] 25)) := (Below.refl _ _).alloc (Nat.le_refl _) _
  have HBA := Lib.hid hba
  have HO : Hid (OwnC 25 5 (w.alloc (.cells #[] 25)) (some ⟨w.heap.size, 0, none⟩) 0 0 []) := ⟨rfl, .inr ⟨_, 0, _, rfl, heap_new _ _, by omega, by unfold maxLen; omega, by simp, fun i hi => absurd hi (by omega)⟩⟩
  have HN2 : Hid (∀ j u, (dCells L)[j]? = some u → (w.alloc (.cells #[] 25)).cell? ((⟨b, off, none⟩ : Addr).add j) = some u) := fun j u hu => by
    have h := HN.out j u hu
    have hlt := World.block_lt_of_cell? w _ h
    rw [← h]
    exact World.cell?_alloc_lt w _ _ hlt
  have hnil : ∀ w : World, (binOp .eql 22 (.slice (some ⟨b, off, none⟩) L.length c) (.slice none 0 0)).run Tryd.prog w = .ok (.bool false) w := fun w => Lib.run_eql_slice_nil w _ _ _ _ _ _ _ Tryd.underlying22
  clear hba
  go_enter Tryd.func24, Tryd.ntmps24
  go_wp2_with (at_builtin; refine wpList_append_C rfl _ _ 22 25 5 72 rfl i0 _ Tryd.underlying22 HI.out HZ0.out HZ1.out HZ2.out rfl (some ⟨w.heap.size, 0, none⟩) 0 0 [] rfl HO.out ⟨b, off, none⟩ L.length c (dCells L) rfl HLN.out HN2.out H1.out ?c1 ?c2 ?c3 ?_)
  case c1 => exact hne
  case c2 => unfold maxLen; omega
  case c3 => omega
  intro A' c' w5 ho hu hn
  try simp only [Nat.zero_add, List.nil_append] at ho
  try simp only [Nat.zero_add]
  obtain ⟨b', off', hA, _, _⟩ := ho.addr hne
  subst hA
  have HO5 := Lib.hid ho
  have HB5 : Hid (Below w.heap.size w w5) := HBA.out.trans (hu.below (fun k hk => by simp [blk] at hk; omega) HBA.out.size)
  have hb' : w.heap.size ≤ b' := by
    rcases hn b' (by simp [blk]) with h | h
    · simp [blk] at h; omega
    · first | omega | (simp at h; omega)
  clear ho hu hn
  go_wp2
  go_ret
  exact ⟨b', off', c', rfl, HO5.out, hb', HB5.out⟩
end Go.Proofs.YtclebkgfogienaaDoor
