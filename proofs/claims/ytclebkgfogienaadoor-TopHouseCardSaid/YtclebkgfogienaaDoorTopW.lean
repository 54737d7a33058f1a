/- quilltop.works; a house beside an editor of its own. -/
import Derived.Test.YtclebkgfogienaaDoorRowRefuses
import Derived.Test.YtclebkgfogienaaDoorTopP
import Derived.Test.YtclebkgfogienaaDoorTurnPut
namespace Go.Proofs.YtclebkgfogienaaDoor
set_option linter.unusedSimpArgs false
set_option linter.unusedVariables false
open Go.RowKit

theorem banana : putF [98, 97, 110, 97, 110, 97] = ([110, 110, 98, 97, 97, 97], 3) := by
  have e : ordF [98, 97, 110, 97, 110, 97] = [5, 3, 1, 0, 4, 2] := by
    symm
    apply ordF_unique
    · decide
    · have h : ∀ a b : Nat, RotLess [98, 97, 110, 97, 110, 97] a b ↔ (rotL [98, 97, 110, 97, 110, 97] a < rotL [98, 97, 110, 97, 110, 97] b ∨ (rotL [98, 97, 110, 97, 110, 97] a = rotL [98, 97, 110, 97, 110, 97] b ∧ a < b)) := fun a b => Iff.rfl
      simp only [h]
      decide
  unfold putF
  rw [e]
  decide
theorem jello : apply [104, 101, 108, 108, 111] [⟨0, 1, [74]⟩] = ([74, 101, 108, 108, 111], 0) := by decide
set_option maxRecDepth 100000 in
set_option maxHeartbeats 400000 in
theorem top_works (w : World) : Calls Tryd.prog 27 #[] w fun e w' => e = .returned (.bool true) ∧ Below w.heap.size w w' := by
  have C1 := Lib.hid (turn_put_ok [98, 97, 110, 97, 110, 97] w (by decide))
  rw [banana] at C1
  have J := Lib.hid jello
  simp only at C1
  go_enter Tryd.func27, Tryd.ntmps27
  go_wp2_with fail
  refine C1.out.mono ?_
  rintro e w1 ⟨rfl, hb⟩
  have HB1 := Lib.hid hb
  clear hb
  have hv : EditsAt (w1.alloc (.cells #[.int .i64 0, .int .i64 1, .string ⟨#[74]⟩] 89)) (.slice (some ⟨w1.heap.size, 0, none⟩) 1 1) [⟨0, 1, [74]⟩] := by
    refine ⟨_, 1, rfl, by simp, fun _ => ⟨w1.heap.size, 0, rfl, by simp, fun i hi => ?_⟩⟩
    have : i = 0 := by simp at hi; omega
    subst this
    have h := heap_new w1 (.cells #[.int .i64 0, .int .i64 1, .string ⟨#[74]⟩] 89)
    exact ⟨(blk_cell h 0).trans rfl, (blk_cell h 1).trans rfl, (blk_cell h 2).trans rfl⟩
  have C := Lib.hid (edit_apply [104, 101, 108, 108, 111] (.slice (some ⟨w1.heap.size, 0, none⟩) 1 1) [⟨0, 1, [74]⟩] _ hv (by decide))
  rw [J.out] at C
  simp only at C
  have HBA := Lib.hid (HB1.out.alloc HB1.out.size (.cells #[.int .i64 0, .int .i64 1, .string ⟨#[74]⟩] 89))
  clear hv
  go_wp2_with fail
  refine C.out.mono ?_
  rintro e w2 ⟨rfl, hb⟩
  have HB2 := Lib.hid (HBA.out.trans (hb.mono HBA.out.size))
  clear hb
  go_wp2
  go_ret
  exact ⟨rfl, HB2.out⟩

/-- a house at gh, an editor at ge, apart; the editor's text and steps are those of the house's text of that name -/
def HEd (B gh ge : Nat) (w0 : World) (H : List PageS) (E : EdS) (w : World) : Prop :=
  ∃ F Fe, IsHouse w gh H F ∧ IsEd w ge E Fe ∧ (∀ x ∈ F, B ≤ x) ∧ (∀ x ∈ Fe, B ≤ x) ∧ Dis F Fe ∧ Below B w0 w
theorem HEd.below {B gh ge : Nat} {w0 w w' : World} {H : List PageS} {E : EdS} (h : HEd B gh ge w0 H E w) (hb : Below w.heap.size w w') (hB : B ≤ w0.heap.size) : HEd B gh ge w0 H E w' := by
  obtain ⟨F, Fe, h1, h2, h3, h4, h5, h6⟩ := h
  exact ⟨F, Fe, h1.below hb, h2.below hb, h3, h4, h5, h6.trans (hb.mono (Nat.le_trans hB h6.size))⟩
theorem HEd.out {B gh ge : Nat} {w0 w : World} {H : List PageS} {E : EdS} (h : HEd B gh ge w0 H E w) : Below B w0 w := by
  obtain ⟨F, Fe, h1, h2, h3, h4, h5, h6⟩ := h
  exact h6
theorem he_deed (B gh ge : Nat) (w0 : World) (H : List PageS) (E : EdS) (w : World) (d : Dd) (ev : Value) (h : HEd B gh ge w0 H E w) (hH : HouseOk H) (hv : EditsAt w ev d.edits) (hl : d.edits ≠ [] → ∀ A n c, ev = .slice A n c → ∀ x ∈ blk A, x < B) (hB : B ≤ w0.heap.size) (hT : Tab B w0) :
    Calls Tryd.prog 12 #[.pointer (some ⟨gh, 0, none⟩), ddV d ev] w fun e w' =>
      e = .returned (.tuple #[.string (bs (doF H d).1.1), .int .i64 (doF H d).1.2]) ∧ HEd B gh ge w0 (doF H d).2 E w' := by
  obtain ⟨F, Fe, h1, h2, h3, h4, h5, h6⟩ := h
  refine (house_do_low B gh H F d ev w h1 hH hv hl (Nat.le_trans hB h6.size) (hT.on h6) h3).mono ?_
  rintro e w' ⟨rfl, F', a, b, c, hu, hf⟩
  exact ⟨rfl, F', Fe, a, h2.upd hu h5.symm, b, h4, h5.fresh hf h2.lt, h6.trans c⟩
theorem he_deed_box (B gh ge : Nat) (w0 : World) (H : List PageS) (E : EdS) (w : World) (o : Obj) (d : Dd) (ev : Value) (h : HEd B gh ge w0 H E w) (hH : HouseOk H) (hv : EditsAt w ev d.edits) (hl : d.edits ≠ [] → ∀ A n c, ev = .slice A n c → ∀ x ∈ blk A, x < B) (hB : B ≤ w0.heap.size) (hT : Tab B w0) :
    Calls Tryd.prog 12 #[.pointer (some ⟨gh, 0, none⟩), ddV d ev] (w.alloc o) fun e w' =>
      e = .returned (.tuple #[.string (bs (doF H d).1.1), .int .i64 (doF H d).1.2]) ∧ HEd B gh ge w0 (doF H d).2 E w' ∧ w'.heap[w.heap.size]? = some o := by
  have hba : Below w.heap.size w (w.alloc o) := (Below.refl _ _).alloc (Nat.le_refl _) _
  have j6 := (h.below hba hB).out
  obtain ⟨F, Fe, g1, g2, g3, g4, g5, g6⟩ := h
  have j1 := g1.below hba
  have j2 := g2.below hba
  refine (house_do_low B gh H F d ev (w.alloc o) j1 hH (editsAt_upd hv hba) hl (Nat.le_trans hB j6.size) (hT.on j6) g3).mono ?_
  rintro e w' ⟨rfl, F', a, b, c, hu, hf⟩
  refine ⟨rfl, ⟨F', Fe, a, j2.upd hu g5.symm, b, g4, g5.fresh hf j2.lt, j6.trans c⟩, ?_⟩
  rw [hu.block w.heap.size (by simp) (fun hm => by have := g1.lt _ hm; omega)]
  exact heap_new _ _
theorem HEd.turn {B gh ge : Nat} {w0 w w' : World} {H : List PageS} {E E' : EdS} {v : Value} {e : Ending} {Fe : List Nat} {F : List Nat} (h1 : IsHouse w gh H F) (h2 : IsEd w ge E Fe) (h3 : ∀ x ∈ F, B ≤ x) (h4 : ∀ x ∈ Fe, B ≤ x) (h5 : Dis F Fe) (h6 : Below B w0 w) (hB : B ≤ w0.heap.size) (h : EdPost ge E' Fe w v e w') : e = .returned v ∧ HEd B gh ge w0 H E' w' := by
  obtain ⟨he, Fe', a, hu, hf⟩ := h
  have hs := h6.size
  refine ⟨he, F, Fe', h1.upd hu h5, a, h3, fun x hx => ?_, (h5.symm.fresh hf h1.lt).symm, h6.trans (hu.below h4 (by omega))⟩
  rcases hf x hx with h | h
  · exact h4 x h
  · omega
theorem he_ed_do (B gh ge : Nat) (w0 : World) (H : List PageS) (E : EdS) (w : World) (v : Value) (l : List Ed) (h : HEd B gh ge w0 H E w) (hv : EditsAt w v l) (hE : EdOk E) (hB : B ≤ w0.heap.size) :
    Calls Tryd.prog 29 #[.pointer (some ⟨ge, 0, none⟩), v] w fun e w' => e = .returned (.int .i64 (doEd E l).1) ∧ HEd B gh ge w0 H (doEd E l).2 w' := by
  obtain ⟨F, Fe, h1, h2, h3, h4, h5, h6⟩ := h
  exact (undo_do ge E Fe v l w h2 hv hE.text (by have := hE.steps; omega)).mono fun e w' h => HEd.turn h1 h2 h3 h4 h5 h6 hB h
theorem he_ed_undo (B gh ge : Nat) (w0 : World) (H : List PageS) (E : EdS) (w : World) (h : HEd B gh ge w0 H E w) (hE : EdOk E) (hB : B ≤ w0.heap.size) :
    Calls Tryd.prog 30 #[.pointer (some ⟨ge, 0, none⟩)] w fun e w' => e = .returned (.int .i64 (undoEd E).1) ∧ HEd B gh ge w0 H (undoEd E).2 w' := by
  obtain ⟨F, Fe, h1, h2, h3, h4, h5, h6⟩ := h
  exact (undo_undo ge E Fe w h2 hE.steps).mono fun e w' h => HEd.turn h1 h2 h3 h4 h5 h6 hB h
theorem he_ed_redo (B gh ge : Nat) (w0 : World) (H : List PageS) (E : EdS) (w : World) (h : HEd B gh ge w0 H E w) (hE : EdOk E) (hB : B ≤ w0.heap.size) :
    Calls Tryd.prog 31 #[.pointer (some ⟨ge, 0, none⟩)] w fun e w' => e = .returned (.int .i64 (redoEd E).1) ∧ HEd B gh ge w0 H (redoEd E).2 w' := by
  obtain ⟨F, Fe, h1, h2, h3, h4, h5, h6⟩ := h
  exact (undo_redo ge E Fe w h2 hE.steps).mono fun e w' h => HEd.turn h1 h2 h3 h4 h5 h6 hB h
theorem Mated.ed {H : List PageS} (h : HouseWell H) {nm : List UInt8} {E : EdS} (hM : Mated H nm E) : EdOk E := by
  obtain ⟨p, ho, rfl⟩ := hM
  exact (h.pg ho).1.ed
end Go.Proofs.YtclebkgfogienaaDoor
