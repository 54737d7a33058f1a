/- A house in a walk: where it stands, and that nothing below has turned; its calls in these words. -/
import Derived.Test.YtclebkgfogienaaDoorOpen
import Derived.Test.YtclebkgfogienaaDoorStepsP
namespace Go.Proofs.YtclebkgfogienaaDoor
set_option linter.unusedSimpArgs false
set_option linter.unusedVariables false
open Go.RowKit

/-- the house at gh is in the state H; of what lay below B in w0 nothing has turned -/
def HSt (B gh : Nat) (w0 : World) (H : List PageS) (w : World) : Prop := ∃ F, IsHouse w gh H F ∧ (∀ x ∈ F, B ≤ x) ∧ Below B w0 w
theorem HSt.below {B gh : Nat} {w0 w w' : World} {H : List PageS} (h : HSt B gh w0 H w) (hb : Below w.heap.size w w') (hB : B ≤ w0.heap.size) : HSt B gh w0 H w' := by
  obtain ⟨F, h1, h2, h3⟩ := h
  exact ⟨F, h1.below hb, h2, h3.trans (hb.mono (Nat.le_trans hB h3.size))⟩
theorem HSt.out {B gh : Nat} {w0 w : World} {H : List PageS} (h : HSt B gh w0 H w) : Below B w0 w := by
  obtain ⟨F, h1, h2, h3⟩ := h
  exact h3
theorem st_do (B gh : Nat) (w0 : World) (H : List PageS) (w : World) (k n : Int) (nm tx : List UInt8) (h : HSt B gh w0 H w) (hH : HouseOk H) (hB : B ≤ w0.heap.size) (hT : Tab B w0) :
    Calls Tryd.prog 12 #[.pointer (some ⟨gh, 0, none⟩), .agg #[.int .i64 k, .int .i64 n, .string (bs nm), .string (bs tx), .slice none 0 0]] w fun e w' =>
      e = .returned (.tuple #[.string (bs (doF H (deedD k n nm tx)).1.1), .int .i64 (doF H (deedD k n nm tx)).1.2]) ∧ HSt B gh w0 (doF H (deedD k n nm tx)).2 w' := by
  obtain ⟨F, h1, h2, h3⟩ := h
  refine (house_do0 B gh H F k n nm tx w h1 hH (Nat.le_trans hB h3.size) (hT.on h3) h2).mono ?_
  rintro e w' ⟨rfl, F', a, b, c, _, _⟩
  exact ⟨rfl, F', a, b, h3.trans c⟩
theorem st_text (B gh : Nat) (w0 : World) (H : List PageS) (w : World) (nm : List UInt8) (h : HSt B gh w0 H w) (hH : HouseOk H) (hB : B ≤ w0.heap.size) (hT : Tab B w0) :
    Calls Tryd.prog 15 #[.pointer (some ⟨gh, 0, none⟩), .string (bs nm)] w fun e w' =>
      e = .returned (.tuple #[.string (bs (doF H (textD nm)).1.1), .bool ((doF H (textD nm)).1.2 == 0)]) ∧ HSt B gh w0 H w' := by
  obtain ⟨F, h1, h2, h3⟩ := h
  refine (keep_textOf B gh H F nm w h1 hH (Nat.le_trans hB h3.size) (hT.on h3) h2).mono ?_
  rintro e w' ⟨rfl, F', a, b, c, _, _⟩
  exact ⟨rfl, F', a, b, h3.trans c⟩
/-- a deed of a row that lies below B -/
theorem st_deed (B gh : Nat) (w0 : World) (H : List PageS) (w : World) (d : Dd) (ev : Value) (h : HSt B gh w0 H w) (hH : HouseOk H) (hv : EditsAt w ev d.edits) (hl : d.edits ≠ [] → ∀ A n c, ev = .slice A n c → ∀ x ∈ blk A, x < B) (hB : B ≤ w0.heap.size) (hT : Tab B w0) :
    Calls Tryd.prog 12 #[.pointer (some ⟨gh, 0, none⟩), ddV d ev] w fun e w' =>
      e = .returned (.tuple #[.string (bs (doF H d).1.1), .int .i64 (doF H d).1.2]) ∧ HSt B gh w0 (doF H d).2 w' := by
  obtain ⟨F, h1, h2, h3⟩ := h
  refine (house_do_low B gh H F d ev w h1 hH hv hl (Nat.le_trans hB h3.size) (hT.on h3) h2).mono ?_
  rintro e w' ⟨rfl, F', a, b, c, _, _⟩
  exact ⟨rfl, F', a, b, h3.trans c⟩
theorem st_worked (B : Nat) (v : Value) (D : List Dd) (w0 w : World) (hD : DeedsAt B w0 v D) (hb : Below B w0 w) (hB : B ≤ w0.heap.size) (hT : Tab B w0) :
    Calls Tryd.prog 11 #[v] w fun e w' => ∃ gh, e = .returned (.pointer (some ⟨gh, 0, none⟩)) ∧ HSt B gh w0 (runF [] D) w' := by
  refine (keep_worked B v D w (hD.on hB hb) (Nat.le_trans hB hb.size) (hT.on hb)).mono ?_
  rintro e w' ⟨rfl, F, a, b, c⟩
  have := hb.size
  exact ⟨_, rfl, F, a, fun x hx => by have := b x hx; omega, hb.trans (c.mono (by omega))⟩
end Go.Proofs.YtclebkgfogienaaDoor
