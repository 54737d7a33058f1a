/- A house that a row of deeds has made; the text of a name. -/
import Derived.Test.YtclebkgfogienaaDoorNames
namespace Go.Proofs.YtclebkgfogienaaDoor
set_option linter.unusedSimpArgs false
set_option linter.unusedVariables false
open Go.RowKit

/-- a deed in five cells, its edits in blocks below B -/
structure DeedAt (B : Nat) (w : World) (b o : Nat) (d : Dd) (ev : Value) : Prop where
  c0 : w.cell? ⟨b, o, none⟩ = some (.int .i64 d.kind)
  c1 : w.cell? ⟨b, o + 1, none⟩ = some (.int .i64 d.n)
  c2 : w.cell? ⟨b, o + 2, none⟩ = some (.string (bs d.name))
  c3 : w.cell? ⟨b, o + 3, none⟩ = some (.string (bs d.text))
  c4 : w.cell? ⟨b, o + 4, none⟩ = some ev
  ed : EditsAt w ev d.edits
  low : d.edits ≠ [] → ∀ A n c, ev = .slice A n c → ∀ x ∈ blk A, x < B
def DeedsAt (B : Nat) (w : World) (v : Value) (D : List Dd) : Prop :=
  ∃ A c, v = .slice A D.length c ∧ D.length ≤ c ∧ D.length ≤ 9223372036854775807 ∧ (D ≠ [] → ∃ b off, A = some ⟨b, off, none⟩ ∧ b < B ∧ ∀ i (h : i < D.length), ∃ ev, DeedAt B w b (off + i * 5) D[i] ev)
theorem editsAt_low {B : Nat} {w w' : World} {ev : Value} {l : List Ed} (h : EditsAt w ev l) (hl : l ≠ [] → ∀ A n c, ev = .slice A n c → ∀ x ∈ blk A, x < B) (hB : B ≤ w.heap.size) (hb : Below B w w') : EditsAt w' ev l := by
  obtain ⟨A, c, rfl, hc, h2⟩ := h
  refine ⟨A, c, rfl, hc, fun hne => ?_⟩
  obtain ⟨b, off, rfl, hlt, h3⟩ := h2 hne
  have hbB : b < B := hl hne _ _ _ rfl b (by simp [blk])
  refine ⟨b, off, rfl, Nat.lt_of_lt_of_le hlt hb.size, fun i hi => ?_⟩
  obtain ⟨h4, h5, h6⟩ := h3 i hi
  exact ⟨(hb.cell (p := ⟨b, _, none⟩) hbB).trans h4, (hb.cell (p := ⟨b, _, none⟩) hbB).trans h5, (hb.cell (p := ⟨b, _, none⟩) hbB).trans h6⟩
theorem DeedAt.on {B : Nat} {w w' : World} {b o : Nat} {d : Dd} {ev : Value} (h : DeedAt B w b o d ev) (hbB : b < B) (hB : B ≤ w.heap.size) (hb : Below B w w') : DeedAt B w' b o d ev :=
  ⟨(hb.cell (p := ⟨b, _, none⟩) hbB).trans h.c0, (hb.cell (p := ⟨b, _, none⟩) hbB).trans h.c1, (hb.cell (p := ⟨b, _, none⟩) hbB).trans h.c2, (hb.cell (p := ⟨b, _, none⟩) hbB).trans h.c3, (hb.cell (p := ⟨b, _, none⟩) hbB).trans h.c4, editsAt_low h.ed h.low hB hb, h.low⟩
theorem DeedsAt.on {B : Nat} {w w' : World} {v : Value} {D : List Dd} (h : DeedsAt B w v D) (hB : B ≤ w.heap.size) (hb : Below B w w') : DeedsAt B w' v D := by
  obtain ⟨A, c, rfl, hc, hl, h2⟩ := h
  refine ⟨A, c, rfl, hc, hl, fun hne => ?_⟩
  obtain ⟨b, off, rfl, hlt, h3⟩ := h2 hne
  refine ⟨b, off, rfl, hlt, fun i hi => ?_⟩
  obtain ⟨ev, h4⟩ := h3 i hi
  exact ⟨ev, h4.on hlt hB hb⟩

def runF (H : List PageS) (D : List Dd) : List PageS := D.foldl (fun H d => (doF H d).2) H
theorem runF_ok {H : List PageS} (h : HouseOk H) : ∀ (D : List Dd), HouseOk (runF H D) := by
  intro D
  induction D generalizing H with
  | nil => exact h
  | cons d D ih => exact ih (doF_ok h d)
theorem runF_snoc (H : List PageS) (D : List Dd) (d : Dd) : runF H (D ++ [d]) = (doF (runF H D) d).2 := by simp [runF]

/-- House.Do where the edits lie low and the house lies high -/
theorem house_do_low (B gh : Nat) (H : List PageS) (F : List Nat) (d : Dd) (ev : Value) (w : World) (h : IsHouse w gh H F) (hH : HouseOk H) (hv : EditsAt w ev d.edits) (hl : d.edits ≠ [] → ∀ A n c, ev = .slice A n c → ∀ x ∈ blk A, x < B) (hB : B ≤ w.heap.size) (hT : Tab B w) (hF : ∀ x ∈ F, B ≤ x) :
    Calls Tryd.prog 12 #[.pointer (some ⟨gh, 0, none⟩), ddV d ev] w fun e w' => e = .returned (.tuple #[.string (bs (doF H d).1.1), .int .i64 (doF H d).1.2]) ∧
      ∃ F', IsHouse w' gh (doF H d).2 F' ∧ (∀ x ∈ F', B ≤ x) ∧ Below B w w' ∧ Upd F w w' ∧ Fresh w F' F := by
  refine (house_do B gh H F d ev w h hH hv hB hT hF (fun hne A n c hA x hx hm => by have := hl hne A n c hA x hx; have := hF x hm; omega)).mono ?_
  rintro e w' ⟨rfl, F', h1, h2, h3⟩
  refine ⟨rfl, F', h1, fun x hx => ?_, h2.below hF hB, h2, h3⟩
  rcases h3 x hx with h | h
  · exact hF x h
  · omega

set_option maxRecDepth 100000 in
set_option maxHeartbeats 800000 in
theorem keep_worked (B : Nat) (v : Value) (D : List Dd) (w : World) (hD : DeedsAt B w v D) (hB : B ≤ w.heap.size) (hT : Tab B w) :
    Calls Tryd.prog 11 #[v] w fun e w' => e = .returned (.pointer (some ⟨w.heap.size, 0, none⟩)) ∧ ∃ F, IsHouse w' w.heap.size (runF [] D) F ∧ (∀ x ∈ F, w.heap.size ≤ x) ∧ Below w.heap.size w w' := by
  have HD := Lib.hid hD
  have HT := Lib.hid hT
  obtain ⟨A, c, rfl, hc, hl, hcells⟩ := hD
  clear hT
  go_enter Tryd.func11, Tryd.ntmps11
  go_wp2_with fail
  refine (house_new w).mono ?_
  rintro e w1 ⟨rfl, hH1, hb1⟩
  have HH1 := Lib.hid hH1
  clear hH1
  go_wp2
  go_loopw [11] (fun iv wr => ∃ (k : Nat) (F : List Nat), iv = .int .i64 k ∧ k ≤ D.length ∧ Hid (IsHouse wr w.heap.size (runF [] (D.take k)) F) ∧ Hid (∀ x ∈ F, w.heap.size ≤ x) ∧ Below w.heap.size w wr) (fun iv _ => D.length - (intOf iv).toNat)
  case atStart => exact ⟨0, [w.heap.size], rfl, by omega, HH1.out, fun x hx => by simp at hx; omega, hb1⟩
  case round =>
    obtain ⟨k, F, rfl, hk, HH, HF, hb⟩ := hrel
    by_cases hlt : k < D.length
    · obtain ⟨b, off, rfl, hbB, hall⟩ := hcells (by intro h; simp [h] at hlt)
      obtain ⟨ev, hd⟩ := hall k hlt
      have hd' := hd.on hbB hB (hb.mono hB)
      have HDE : Hid (runF [] (D.take (k + 1)) = (doF (runF [] (D.take k)) D[k]).2) := by unfold Hid; rw [List.take_succ_eq_append_getElem hlt, runF_snoc]
      have HOK : Hid (HouseOk (runF [] (D.take k))) := runF_ok HouseOk.nil _
      clear hall hcells
      generalize D[k] = d at *
      obtain ⟨kd, n, nm, tx, eds⟩ := d
      have q0 := hd'.c0
      have q1 := hd'.c1
      have q2 := hd'.c2
      have q3 := hd'.c3
      have q4 := hd'.c4
      have HED := Lib.hid hd'.ed
      have HLO := Lib.hid hd'.low
      simp only at q0 q1 q2 q3
      obtain ⟨Ae, ce, hev, _⟩ := hd'.ed
      subst hev
      clear hd hd'
      go_wp2_with fail
      have hba : Below wr.heap.size wr (wr.alloc (.cells #[.int .i64 kd, .int .i64 n, .string (bs nm), .string (bs tx), .slice Ae eds.length ce] 25)) := (Below.refl _ _).alloc (Nat.le_refl _) _
      have hbB' := hb.alloc hb.size (.cells #[.int .i64 kd, .int .i64 n, .string (bs nm), .string (bs tx), .slice Ae eds.length ce] 25)
      have C := Lib.hid (house_do_low B w.heap.size _ F ⟨kd, n, nm, tx, eds⟩ (.slice Ae eds.length ce) _ (HH.out.below hba) HOK.out (editsAt_upd HED.out hba) HLO.out (Nat.le_trans hB hbB'.size) (HT.out.to hB hbB') (fun x hx => Nat.le_trans hB (HF.out x hx)))
      simp only [ddV] at C
      refine C.out.mono ?_
      rintro e w2 ⟨rfl, F', h1, h2, h3, h4, h5⟩
      have HH2 := Lib.hid h1
      have HU := Lib.hid h4
      have HFR := Lib.hid h5
      clear h1 h2 h3 h4 h5
      go_wp2
      go_roundw
      case rel =>
        refine ⟨k + 1, F', by go_num, by omega, by unfold Hid; rw [HDE.out]; exact HH2.out, fun x hx => ?_, hbB'.trans (HU.out.below HF.out hbB'.size)⟩
        rcases HFR.out x hx with h | h
        · exact HF.out x h
        · have := hbB'.size; omega
      case measure => simp [intOf]; omega
    · have hE : D.take k = D := List.take_of_length_le (by omega)
      rw [hE] at HH
      go_wp2
      go_ret
      exact ⟨rfl, F, HH.out, HF.out, hb⟩
end Go.Proofs.YtclebkgfogienaaDoor
