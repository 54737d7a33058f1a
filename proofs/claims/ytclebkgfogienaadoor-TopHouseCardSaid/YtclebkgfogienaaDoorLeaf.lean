/- The leaf: what each call of leaf does to its struct and its log. -/
import Derived.Test.YtclebkgfogienaaDoorLeafP
import Derived.Test.YtclebkgfogienaaDoorScript
import Derived.Test.YtclebkgfogienaaDoorOwn
namespace Go.Proofs.YtclebkgfogienaaDoor
set_option linter.unusedSimpArgs false
set_option linter.unusedVariables false
open Go.RowKit

/-- a leaf's struct, and its log -/
def LeafAt (w : World) (g gl : Nat) (t : List UInt8) (R : List Rec) (sb : Nat) : Prop :=
  w.heap[g]? = some (.cells #[.string (bs t), .pointer (some ⟨gl, 0, none⟩)] 104 (0, 0)) ∧ IsLog w gl (diskOf R) sb ∧ g ≠ gl
def IsLeaf (w : World) (g : Nat) (L : LfS) (fp : List Nat) : Prop := ∃ gl, LeafAt w g gl L.text L.recs L.sb ∧ fp = [g, gl]

theorem LeafAt.upd {w w' : World} {g gl : Nat} {t : List UInt8} {R : List Rec} {sb : Nat} {S : List Nat} (h : LeafAt w g gl t R sb) (hu : Upd S w w') (h1 : g ∉ S) (h2 : gl ∉ S) : LeafAt w' g gl t R sb :=
  ⟨(hu.block g (blk_lt h.1) h1).trans h.1, h.2.1.upd hu h2, h.2.2⟩
theorem LeafAt.below {w w' : World} {g gl : Nat} {t : List UInt8} {R : List Rec} {sb : Nat} (h : LeafAt w g gl t R sb) (hu : Below w.heap.size w w') : LeafAt w' g gl t R sb := h.upd (Upd.of (S := []) hu) (by simp) (by simp)
theorem LeafAt.c0 {w : World} {g gl : Nat} {t : List UInt8} {R : List Rec} {sb : Nat} (h : LeafAt w g gl t R sb) : w.cell? ⟨g, 0, none⟩ = some (.string (bs t)) := (blk_cell h.1 0).trans rfl
theorem LeafAt.c1 {w : World} {g gl : Nat} {t : List UInt8} {R : List Rec} {sb : Nat} (h : LeafAt w g gl t R sb) : w.cell? ⟨g, 1, none⟩ = some (.pointer (some ⟨gl, 0, none⟩)) := (blk_cell h.1 1).trans rfl
theorem LeafAt.fr {w : World} {g gl : Nat} {t : List UInt8} {R : List Rec} {sb : Nat} (h : LeafAt w g gl t R sb) (i : Nat) : w.frozen? ⟨g, i, none⟩ = false := blk_frozen h.1 i
/-- a change to the log alone -/
theorem LeafAt.log {w w' : World} {g gl : Nat} {t : List UInt8} {R R' : List Rec} {sb sb' : Nat} (h : LeafAt w g gl t R sb) (hu : Upd [gl] w w') (hl : IsLog w' gl (diskOf R') sb') : LeafAt w' g gl t R' sb' :=
  ⟨(hu.block g (blk_lt h.1) (by simpa using h.2.2)).trans h.1, hl, h.2.2⟩
/-- a new text -/
theorem LeafAt.set {w : World} {g gl : Nat} {t : List UInt8} {R : List Rec} {sb : Nat} (h : LeafAt w g gl t R sb) (s : List UInt8) : LeafAt (w.setCell ⟨g, 0, none⟩ (.string (bs s))) g gl s R sb :=
  ⟨blk_set h.1 0 _, h.2.1.upd (Upd.setCell w g 0 _) (by simpa using h.2.2.symm), h.2.2⟩
theorem IsLeaf.lt {w : World} {g : Nat} {L : LfS} {fp : List Nat} (h : IsLeaf w g L fp) : ∀ b ∈ fp, b < w.heap.size := by
  obtain ⟨gl, h1, rfl⟩ := h
  intro b hb
  simp at hb
  rcases hb with rfl | rfl
  · exact blk_lt h1.1
  · exact h1.2.1.lt
theorem IsLeaf.upd {w w' : World} {g : Nat} {L : LfS} {fp S : List Nat} (h : IsLeaf w g L fp) (hu : Upd S w w') (hS : ∀ b ∈ fp, b ∉ S) : IsLeaf w' g L fp := by
  obtain ⟨gl, h1, rfl⟩ := h
  exact ⟨gl, h1.upd hu (hS g (by simp)) (hS gl (by simp)), rfl⟩
theorem IsLeaf.below {w w' : World} {g : Nat} {L : LfS} {fp : List Nat} (h : IsLeaf w g L fp) (hu : Below w.heap.size w w') : IsLeaf w' g L fp := h.upd (Upd.of (S := []) hu) (by simp)

/-- what a call that may change a leaf leaves -/
def LfPost (g : Nat) (L : LfS) (fp : List Nat) (w : World) (v : Value) (e : Ending) (w' : World) : Prop :=
  e = .returned v ∧ ∃ fp', IsLeaf w' g L fp' ∧ Upd fp w w' ∧ ∀ b ∈ fp', b ∈ fp ∨ w.heap.size ≤ b
theorem LfPost.same {g : Nat} {L : LfS} {fp : List Nat} {w w' : World} {v : Value} (h : IsLeaf w g L fp) (hb : Below w.heap.size w w') : LfPost g L fp w v (.returned v) w' :=
  ⟨rfl, fp, h.below hb, Upd.of hb, fun _ h => .inl h⟩

theorem used_eq (R : List Rec) : used (R.map Rec.enc) = (diskOf R).length := (diskOf_length R).symm

set_option maxRecDepth 100000 in
set_option maxHeartbeats 800000 in
theorem leaf_read (g gl : Nat) (t : List UInt8) (R : List Rec) (sb : Nat) (w : World) (h : LeafAt w g gl t R sb) (hR : ∀ r ∈ R, r.ok) (hd : (diskOf R).length ≤ 4000) :
    Calls Tryd.prog 66 #[.pointer (some ⟨g, 0, none⟩)] w fun e w' => e = .returned (.tuple #[]) ∧ LeafAt w' g gl (play R) R sb ∧ Upd [g] w w' := by
  have c1 := h.c1
  have C := Lib.hid (log_all gl (diskOf R) sb w h.2.1 hd)
  rw [scan_all R hR] at C
  have H := Lib.hid h
  have HR := Lib.hid hR
  have hRl := recs_len R
  clear h hR
  go_enter Tryd.func66, Tryd.ntmps66
  go_wp2_with fail
  refine C.out.mono ?_
  rintro e w1 ⟨A, c, rfl, ho, hb1⟩
  have HO := Lib.hid ho
  clear ho c1 C
  simp only [List.length_map] at HO
  have HW := Lib.hid (OwnC.of_row HO.out)
  clear HO
  go_wp2
  go_loopw [2, 13] (fun x i wr => ∃ k : Nat, k ≤ R.length ∧ i = .int .i64 k ∧ x = .string (bs (play (R.take k))) ∧ Below w1.heap.size w1 wr) (fun _ i _ => R.length - (intOf i).toNat)
  case atStart => exact ⟨0, by omega, rfl, rfl, Below.refl _ _⟩
  case round =>
    obtain ⟨k, hk, rfl, rfl, hb⟩ := hrel
    by_cases hlt : k < R.length
    · obtain ⟨b, off, rfl, hnc, hbl⟩ := HW.out.addr (by omega)
      have hc := (HW.out.below hb).cell k (by omega)
      have hc2 : (strCells (R.map Rec.enc))[k]? = some (.string (bs (R[k]).enc)) := by simp [strCells, hlt]
      rw [hc2] at hc
      have HP : Hid (play (R.take (k + 1)) = play1 (play (R.take k)) R[k]) := by
        unfold Hid; rw [List.take_succ_eq_append_getElem hlt, play_snoc]
      have HK : Hid (Rec.ok R[k]) := HR.out _ (List.getElem_mem hlt)
      have hpl : (play (R.take k)).length ≤ 200 := play_len _ (fun r hr => HR.out r (List.mem_of_mem_take hr))
      clear hc2
      generalize R[k] = r at *
      have HB := Lib.hid hb
      generalize play (R.take k) = pk at *
      cases r with
      | b s =>
        have hz := HK.out
        simp only [Rec.ok] at hz
        simp only [Rec.enc] at hc
        have hq : ((((bs (98 :: s))[0]'(by simp)).toNat : Int) == 98) = true := by rw [bs_get]; rfl
        go_wp2
        go_roundw
        case rel => exact ⟨k + 1, by omega, by go_num, by rw [HP.out]; rfl, hb⟩
        case measure => simp [intOf]; omega
      | e l =>
        obtain ⟨h20, hsm⟩ := HK.out
        simp only [Rec.enc] at hc
        have hwl := wrL_length l hsm
        have hq : ((((bs (101 :: wrL l))[0]'(by simp)).toNat : Int) == 98) = false := by rw [bs_get]; rfl
        have CR := Lib.hid (fun W' => script_read (wrL l) l W' (reads_wr l hsm) h20 (by omega))
        clear hsm
        go_wp2_with fail
        refine (CR.out _).mono ?_
        rintro e w2 ⟨v, rfl, hv, hb2⟩
        have HV := Lib.hid hv
        clear hv
        go_wp2_with fail
        refine (edit_apply pk v l _ HV.out (by omega)).mono ?_
        rintro e w3 ⟨rfl, hb3⟩
        go_wp2
        go_roundw
        case rel => exact ⟨k + 1, by omega, by go_num, by rw [HP.out]; rfl, HB.out.trans ((hb2.mono HB.out.size).trans (hb3.mono (Nat.le_trans HB.out.size hb2.size)))⟩
        case measure => simp [intOf]; omega
    · have e : R.take k = R := List.take_of_length_le (by omega)
      rw [e]
      have HL := Lib.hid ((H.out.below hb1).below hb)
      have f0 := HL.out.fr 0
      have c0 := HL.out.c0
      go_wp2
      go_end0
      exact ⟨rfl, HL.out.set _, (Upd.of (hb1.trans (hb.mono hb1.size))).trans (Upd.setCell _ _ _ _) (by simp)⟩

theorem appE_b (s : List UInt8) (hs : s.length ≤ 200) : appE [] (98 :: s) = 0 := by
  unfold appE
  rw [if_neg (by simp; omega), if_neg (by simp; omega)]
theorem appD_b (s : List UInt8) (hs : s.length ≤ 200) : appD [] (98 :: s) = diskOf [.b s] := by
  unfold appD
  rw [if_pos (appE_b s hs)]
  simp [diskOf, Rec.enc]

set_option maxRecDepth 100000 in
set_option maxHeartbeats 400000 in
theorem leaf_new (s : List UInt8) (w : World) (hs : s.length ≤ 200) :
    Calls Tryd.prog 59 #[.string (bs s)] w fun e w' => ∃ g fp, e = .returned (.tuple #[.pointer (some ⟨g, 0, none⟩), .int .i64 0]) ∧ IsLeaf w' g ⟨s, [.b s], 1⟩ fp ∧ (∀ b ∈ fp, w.heap.size ≤ b) ∧ Below w.heap.size w w' := by
  have e1 := add_bs [98] s (98 :: s) (bs s) rfl (by simp; omega) rfl
  go_enter Tryd.func59, Tryd.ntmps59
  go_wp2_with fail
  refine (log_new _).mono ?_
  rintro e w1 ⟨rfl, hl1, hb1, hsz⟩
  have HL1 := Lib.hid hl1
  have hle := hl1.lt
  clear hl1 hsz
  go_wp2_with fail
  have hl2 := HL1.out.below ((Below.refl _ _).alloc (Nat.le_refl _) (.cells #[.string (bs s), .pointer (some ⟨w.heap.size, 0, none⟩)] 104))
  refine (log_append _ [] (98 :: s) 0 _ hl2 (by simp)).mono ?_
  rw [appE_b s hs, appD_b s hs]
  rintro e w2 ⟨rfl, hl2, hu2⟩
  have hn := hu2.block w1.heap.size (by simp) (by simp; omega)
  have HN := hn.trans (heap_new _ _)
  have c1 : w2.cell? ⟨w1.heap.size, 1, none⟩ = some (.pointer (some ⟨w.heap.size, 0, none⟩)) := (blk_cell HN 1).trans rfl
  have HN := Lib.hid HN
  have HU2 := Lib.hid hu2
  have HL2 := Lib.hid hl2
  clear hl2 hu2 hn
  go_wp2_with fail
  have hd : (diskOf [.b s]).length ≤ 4000 := (lfNew_ok hs).disk
  refine (log_sync _ _ 0 _ HL2.out hd).mono ?_
  rintro e w3 ⟨rfl, hl3, hu3⟩
  have hn3 := (hu3.block w1.heap.size (blk_lt HN.out) (by simp; omega)).trans HN.out
  have HF := Lib.hid hl3
  have HN3 := Lib.hid hn3
  have HU3 := Lib.hid hu3
  clear hl3 hn3 hu3
  go_wp2
  go_ret2
  have hu := HU2.out.trans HU3.out (fun x hx => .inl hx)
  refine ⟨w1.heap.size, _, rfl, ⟨w.heap.size, ⟨HN3.out, ?_, by omega⟩, rfl⟩, by simp; exact hb1.size, ?_⟩
  · exact HF.out
  · exact (hb1.alloc hb1.size (.cells #[.string (bs s), .pointer (some ⟨w.heap.size, 0, none⟩)] 104)).trans (hu.below (by simp) (by simp; omega))

set_option maxRecDepth 100000 in
theorem leaf_text (g : Nat) (L : LfS) (fp : List Nat) (w : World) (h : IsLeaf w g L fp) :
    Calls Tryd.prog 45 #[.pointer (some ⟨g, 0, none⟩)] w fun e w' => e = .returned (.string (bs L.text)) ∧ Below w.heap.size w w' := by
  obtain ⟨gl, h1, rfl⟩ := h
  have c0 := h1.c0
  clear h1
  go_enter Tryd.func45, Tryd.ntmps45
  go_wp2
  go_ret
  exact ⟨rfl, Below.refl _ _⟩

set_option maxRecDepth 100000 in
theorem leaf_save (g : Nat) (L : LfS) (fp : List Nat) (w : World) (h : IsLeaf w g L fp) (hL : LfOk L) :
    Calls Tryd.prog 42 #[.pointer (some ⟨g, 0, none⟩)] w (LfPost g (lfSave L) fp w (.tuple #[])) := by
  obtain ⟨gl, h1, rfl⟩ := h
  have c1 := h1.c1
  have H := Lib.hid h1
  have HL := Lib.hid hL
  clear h1 hL
  go_enter Tryd.func42, Tryd.ntmps42
  go_wp2_with fail
  refine (log_sync _ _ _ _ H.out.2.1 HL.out.disk).mono ?_
  rintro e w1 ⟨rfl, hl, hu⟩
  go_wp2
  go_end0
  refine ⟨rfl, [g, gl], ⟨gl, H.out.log hu ?_, rfl⟩, hu.mono (by simp), fun b hb => .inl hb⟩
  simpa [lfSave, LfS.sb] using hl

set_option maxRecDepth 100000 in
set_option maxHeartbeats 400000 in
theorem leaf_set (g : Nat) (L : LfS) (fp : List Nat) (s : List UInt8) (w : World) (h : IsLeaf w g L fp) (hL : LfOk L) (hs : s.length ≤ 200) :
    Calls Tryd.prog 63 #[.pointer (some ⟨g, 0, none⟩), .string (bs s)] w (LfPost g (lfSet L s).2 fp w (.int .i64 (lfSet L s).1)) := by
  have HP := Lib.hid h
  obtain ⟨gl, h1, rfl⟩ := h
  have c1 := h1.c1
  have H := Lib.hid h1
  have e1 := add_bs [98] s (98 :: s) (bs s) rfl (by simp; omega) rfl
  have C := Lib.hid (log_append gl (diskOf L.recs) (98 :: s) L.sb w h1.2.1 hL.disk)
  have HS : Hid (lfSet L s = lfAdd L (.b s) s) := by unfold lfSet; rw [if_neg (by omega)]; exact Lib.hid rfl
  have HSF := hL.safe
  clear h1 hL
  rw [HS.out]
  by_cases ha : appE (diskOf L.recs) (98 :: s) = 0
  · have hF : lfAdd L (.b s) s = (0, ⟨s, L.recs ++ [.b s], L.safe⟩) := if_pos ha
    rw [hF]
    clear hF
    have HA := Lib.hid ha
    simp only
    clear ha
    go_enter Tryd.func63, Tryd.ntmps63
    go_wp2_with fail
    refine C.out.mono ?_
    rw [appD, HA.out, if_pos rfl]
    rintro e w1 ⟨rfl, hl, hu⟩
    have h2 : LeafAt w1 g gl L.text (L.recs ++ [.b s]) L.sb := H.out.log hu (by rw [diskOf_append]; simpa [diskOf, Rec.enc] using hl)
    have c0 := h2.c0
    have f0 := h2.fr 0
    have H2 := Lib.hid h2
    have HU := Lib.hid hu
    clear h2 hu hl
    go_wp2
    go_ret
    refine ⟨rfl, [g, gl], ⟨gl, ?_, rfl⟩, (HU.out.mono (T := [g, gl]) (by simp)).trans (Upd.setCell _ _ _ _) (by simp), fun b hb => .inl hb⟩
    have := H2.out.set s
    rwa [show L.sb = (LfS.sb ⟨s, L.recs ++ [.b s], L.safe⟩) by simp [LfS.sb, List.take_append_of_le_length HSF]] at this
  · have hF : lfAdd L (.b s) s = (appE (diskOf L.recs) (98 :: s), L) := if_neg ha
    rw [hF]
    clear hF
    have hne : (appE (diskOf L.recs) (98 :: s) == 0) = false := by simpa using ha
    have HA := Lib.hid ha
    clear ha
    generalize hE : appE (diskOf L.recs) (98 :: s) = E at *
    have HE := Lib.hid hE
    clear hE
    simp only
    go_enter Tryd.func63, Tryd.ntmps63
    go_wp2_with fail
    refine C.out.mono ?_
    rw [appD, HE.out, if_neg HA.out]
    rintro e w1 ⟨rfl, hl, hu⟩
    go_wp2
    go_ret
    exact ⟨rfl, [g, gl], ⟨gl, H.out.log hu hl, rfl⟩, hu.mono (by simp), fun b hb => .inl hb⟩

theorem editsAt_upd {w w' : World} {v : Value} {l : List Ed} (h : EditsAt w v l) (hb : Below w.heap.size w w') : EditsAt w' v l := by
  obtain ⟨A, c, rfl, hc, h2⟩ := h
  refine ⟨A, c, rfl, hc, fun hne => ?_⟩
  obtain ⟨b, off, rfl, hlt, h3⟩ := h2 hne
  refine ⟨b, off, rfl, Nat.lt_of_lt_of_le hlt hb.size, fun i hi => ?_⟩
  obtain ⟨h4, h5, h6⟩ := h3 i hi
  exact ⟨(hb.cell (p := ⟨b, _, none⟩) hlt).trans h4, (hb.cell (p := ⟨b, _, none⟩) hlt).trans h5, (hb.cell (p := ⟨b, _, none⟩) hlt).trans h6⟩

set_option maxRecDepth 100000 in
set_option maxHeartbeats 400000 in
theorem leaf_edit (B : Nat) (g : Nat) (L : LfS) (fp : List Nat) (v : Value) (l : List Ed) (w : World) (h : IsLeaf w g L fp) (hL : LfOk L) (hv : EditsAt w v l) (hB : B ≤ w.heap.size) (hT : Tab B w) :
    Calls Tryd.prog 60 #[.pointer (some ⟨g, 0, none⟩), v] w (LfPost g (lfEdit L l).2 fp w (.int .i64 (lfEdit L l).1)) := by
  have HP := Lib.hid h
  obtain ⟨gl, h1, rfl⟩ := h
  have c0 := h1.c0
  have H := Lib.hid h1
  have C1 := Lib.hid (edit_apply L.text v l w hv (by have := hL.text; omega))
  have HV := Lib.hid hv
  have HT := Lib.hid hT
  have HL := Lib.hid hL
  have HSF := Lib.hid hL.safe
  obtain ⟨A, c, rfl, _⟩ := hv
  clear h1 hL hT
  by_cases ha : (apply L.text l).2 = 0
  · have hF : lfEdit L l = lfAdd L (.e l) (apply L.text l).1 := if_pos ha
    rw [hF]
    obtain ⟨h20, hsm⟩ := apply_small ha
    have hwl := wrL_length l hsm
    rw [ha] at C1
    generalize (apply L.text l).1 = t at *
    have HSM := Lib.hid hsm
    have e1 := add_bs [101] (wrL l) (101 :: wrL l) (bs (wrL l)) rfl (by simp; omega) rfl
    clear hF ha hsm
    by_cases ha : appE (diskOf L.recs) (101 :: wrL l) = 0
    · have hF : lfAdd L (.e l) t = (0, ⟨t, L.recs ++ [.e l], L.safe⟩) := if_pos ha
      rw [hF]
      clear hF
      have HA := Lib.hid ha
      simp only
      clear ha
      go_enter Tryd.func60, Tryd.ntmps60
      go_wp2_with fail
      refine C1.out.mono ?_
      rintro e w1 ⟨rfl, hb1⟩
      go_wp2_with fail
      refine (script_write B _ l w1 (Nat.le_trans hB hb1.size) (HT.out.to hB hb1) (editsAt_upd HV.out hb1) HSM.out h20).mono ?_
      rintro e w2 ⟨rfl, hb2⟩
      have hb12 := hb1.trans (hb2.mono hb1.size)
      have h2 := H.out.below hb12
      have c1 := h2.c1
      have HB := Lib.hid hb12
      have H2 := Lib.hid h2
      clear h2 hb12
      go_wp2_with fail
      refine (log_append gl (diskOf L.recs) (101 :: wrL l) L.sb w2 H2.out.2.1 HL.out.disk).mono ?_
      rw [appD, HA.out, if_pos rfl]
      rintro e w3 ⟨rfl, hl, hu⟩
      have h3 : LeafAt w3 g gl L.text (L.recs ++ [.e l]) L.sb := H2.out.log hu (by rw [diskOf_append]; simpa [diskOf, Rec.enc] using hl)
      have d0 := h3.c0
      have f0 := h3.fr 0
      have H3 := Lib.hid h3
      have HU := Lib.hid hu
      clear h3 hu hl
      go_wp2
      go_ret
      refine ⟨rfl, [g, gl], ⟨gl, ?_, rfl⟩, ((Upd.of HB.out).trans (HU.out.mono (T := [g, gl]) (by simp)) (fun x hx => .inl hx)).trans (Upd.setCell _ _ _ _) (by simp), fun b hb => .inl hb⟩
      have := H3.out.set t
      rwa [show L.sb = (LfS.sb ⟨t, L.recs ++ [.e l], L.safe⟩) by simp [LfS.sb, List.take_append_of_le_length HSF.out]] at this
    · have hF : lfAdd L (.e l) t = (appE (diskOf L.recs) (101 :: wrL l), L) := if_neg ha
      rw [hF]
      clear hF
      have hne : (appE (diskOf L.recs) (101 :: wrL l) == 0) = false := by simpa using ha
      have HA := Lib.hid ha
      clear ha
      generalize hE : appE (diskOf L.recs) (101 :: wrL l) = E at *
      have HE := Lib.hid hE
      clear hE
      simp only
      go_enter Tryd.func60, Tryd.ntmps60
      go_wp2_with fail
      refine C1.out.mono ?_
      rintro e w1 ⟨rfl, hb1⟩
      go_wp2_with fail
      refine (script_write B _ l w1 (Nat.le_trans hB hb1.size) (HT.out.to hB hb1) (editsAt_upd HV.out hb1) HSM.out h20).mono ?_
      rintro e w2 ⟨rfl, hb2⟩
      have hb12 := hb1.trans (hb2.mono hb1.size)
      have h2 := H.out.below hb12
      have c1 := h2.c1
      have HB := Lib.hid hb12
      have H2 := Lib.hid h2
      clear h2 hb12
      go_wp2_with fail
      refine (log_append gl (diskOf L.recs) (101 :: wrL l) L.sb w2 H2.out.2.1 HL.out.disk).mono ?_
      rw [appD, HE.out, if_neg HA.out]
      rintro e w3 ⟨rfl, hl, hu⟩
      go_wp2
      go_ret
      exact ⟨rfl, [g, gl], ⟨gl, H2.out.log hu hl, rfl⟩, (Upd.of HB.out).trans (hu.mono (T := [g, gl]) (by simp)) (fun x hx => .inl hx), fun b hb => .inl hb⟩
  · have hF : lfEdit L l = ((apply L.text l).2, L) := if_neg ha
    rw [hF]
    clear hF
    have hne : ((apply L.text l).2 == 0) = false := by simpa using ha
    generalize (apply L.text l).2 = E at *
    generalize (apply L.text l).1 = t at *
    clear ha
    simp only
    go_enter Tryd.func60, Tryd.ntmps60
    go_wp2_with fail
    refine C1.out.mono ?_
    rintro e w1 ⟨rfl, hb1⟩
    go_wp2
    go_ret
    exact LfPost.same HP.out hb1

theorem crN_eq (L : LfS) (h : LfOk L) (k : Nat) : crN (diskOf L.recs) L.sb k = (diskOf (L.recs.take (fitJ L.recs (L.sb + k)))).length := by
  unfold crN
  rw [Int.toNat_natCast, scan_take _ _ _ h.recs (Nat.le_refl _), ← diskOf_length]
theorem crash_disk (L : LfS) (h : LfOk L) (k : Nat) : (diskOf L.recs).take (crN (diskOf L.recs) L.sb k) = diskOf (L.recs.take (fitJ L.recs (L.sb + k))) := by
  rw [crN_eq L h, diskOf_length, disk_take]

set_option maxRecDepth 100000 in
set_option maxHeartbeats 400000 in
theorem leaf_crash (g : Nat) (L : LfS) (fp : List Nat) (keep : Int) (w : World) (h : IsLeaf w g L fp) (hL : LfOk L) :
    Calls Tryd.prog 44 #[.pointer (some ⟨g, 0, none⟩), .int .i64 keep] w (LfPost g (lfCrash L keep).2 fp w (.int .i64 (lfCrash L keep).1)) := by
  have HP := Lib.hid h
  obtain ⟨gl, h1, rfl⟩ := h
  have c1 := h1.c1
  have H := Lib.hid h1
  have HL := Lib.hid hL
  clear h1 hL
  by_cases ha : crE (diskOf L.recs) L.sb keep = 0
  · have hk : 0 ≤ keep ∧ keep ≤ ((diskOf L.recs).length : Int) - L.sb := by
      unfold crE at ha
      by_cases hx : keep < 0 ∨ ((diskOf L.recs).length : Int) - L.sb < keep
      · rw [if_pos hx] at ha; exact absurd ha (by decide)
      · omega
    obtain ⟨k, rfl⟩ : ∃ k : Nat, keep = k := ⟨keep.toNat, by omega⟩
    have hF : lfCrash L k = (0, ⟨play (L.recs.take (fitJ L.recs (L.sb + k))), L.recs.take (fitJ L.recs (L.sb + k)), fitJ L.recs (L.sb + k)⟩) := by
      unfold lfCrash; rw [if_pos ha]; rfl
    have HOK := Lib.hid (lfCrash_ok HL.out (k : Int))
    rw [hF] at HOK ⊢
    have C := Lib.hid (log_crash gl (diskOf L.recs) L.sb k w H.out.2.1 HL.out.disk HL.out.sb (by have := HL.out.sb; omega))
    rw [crash_disk L HL.out k, crN_eq L HL.out k] at C
    generalize fitJ L.recs (L.sb + k) = j at *
    simp only at *
    clear hF ha hk
    go_enter Tryd.func44, Tryd.ntmps44
    go_wp2_with fail
    refine C.out.mono ?_
    rintro e w1 ⟨rfl, hl, hu⟩
    have HC := Lib.hid (leaf_read g gl L.text (L.recs.take j) _ w1 (H.out.log hu hl) HOK.out.recs HOK.out.disk)
    go_wp2_with fail
    refine HC.out.mono ?_
    rintro e w2 ⟨rfl, h2, hu2⟩
    go_wp2
    go_ret
    refine ⟨rfl, [g, gl], ⟨gl, ?_, rfl⟩, (hu.mono (T := [g, gl]) (by simp)).trans hu2 (by simp), fun b hb => .inl hb⟩
    simpa [LfS.sb, List.take_take] using h2
  · have hF : lfCrash L keep = (1, L) := if_neg ha
    rw [hF]
    simp only
    have C := Lib.hid (log_crash_no gl (diskOf L.recs) L.sb keep w H.out.2.1 HL.out.disk HL.out.sb ha)
    clear hF ha
    go_enter Tryd.func44, Tryd.ntmps44
    go_wp2_with fail
    refine C.out.mono ?_
    rintro e w1 ⟨rfl, hb⟩
    go_wp2
    go_ret
    exact LfPost.same HP.out hb
end Go.Proofs.YtclebkgfogienaaDoor
