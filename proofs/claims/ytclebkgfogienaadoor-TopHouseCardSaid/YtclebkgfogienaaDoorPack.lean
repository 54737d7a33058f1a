/- The leaf is packed. -/
import Derived.Test.YtclebkgfogienaaDoorLeaf
namespace Go.Proofs.YtclebkgfogienaaDoor
set_option linter.unusedSimpArgs false
set_option linter.unusedVariables false
open Go.RowKit

set_option maxRecDepth 100000 in
set_option maxHeartbeats 800000 in
theorem leaf_pack_no (g : Nat) (L : LfS) (fp : List Nat) (stop : Int) (w : World) (h : IsLeaf w g L fp) (hs : stop < 0 ∨ 3 < stop) :
    Calls Tryd.prog 64 #[.pointer (some ⟨g, 0, none⟩), .int .i64 stop] w (LfPost g L fp w (.int .i64 1)) := by
  have HP := Lib.hid h
  clear h
  by_cases h0 : stop < 0
  · have q0 : decide (stop < 0) = true := by simpa using h0
    go_enter Tryd.func64, Tryd.ntmps64
    go_wp2
    go_ret
    exact LfPost.same HP.out (Below.refl _ _)
  · have q0 : decide (stop < 0) = false := by simpa using h0
    have q1 : decide (3 < stop) = true := by simp; omega
    go_enter Tryd.func64, Tryd.ntmps64
    go_wp2
    go_ret
    exact LfPost.same HP.out (Below.refl _ _)

set_option maxRecDepth 100000 in
set_option maxHeartbeats 800000 in
theorem leaf_pack_back (g : Nat) (L : LfS) (fp : List Nat) (stop : Int) (w : World) (h : IsLeaf w g L fp) (hL : LfOk L) (hs : stop = 1 ∨ stop = 2) :
    Calls Tryd.prog 64 #[.pointer (some ⟨g, 0, none⟩), .int .i64 stop] w (LfPost g (lfCrash L 0).2 fp w (.int .i64 0)) := by
  obtain ⟨gl, h1, rfl⟩ := h
  have H := Lib.hid h1
  have ht := hL.text
  have HL := Lib.hid hL
  have c0 := h1.c0
  have e1 := add_bs [98] L.text (98 :: L.text) (bs L.text) rfl (by simp; have := hL.text; omega) rfl
  have HF : Hid (lfCrash L 0 = (0, ⟨play (L.recs.take (fitJ L.recs (L.sb + 0))), L.recs.take (fitJ L.recs (L.sb + 0)), fitJ L.recs (L.sb + 0)⟩)) := by
    have := hL.sb
    have hc : crE (diskOf L.recs) L.sb 0 = 0 := by unfold crE; exact if_neg (by omega)
    unfold Hid lfCrash
    rw [if_pos hc]
    rfl
  have HOK := Lib.hid (lfCrash_ok hL 0)
  rw [HF.out] at HOK ⊢
  have C := Lib.hid (fun W (hW : LeafAt W g gl L.text L.recs L.sb) => log_crash gl (diskOf L.recs) L.sb 0 W hW.2.1 HL.out.disk HL.out.sb (by have := HL.out.sb; omega))
  rw [crash_disk L hL 0, crN_eq L hL 0] at C
  clear h1 hL HF
  generalize fitJ L.recs (L.sb + 0) = j at *
  simp only at *
  rcases hs with rfl | rfl
  all_goals
    go_enter Tryd.func64, Tryd.ntmps64
    go_wp2_with fail
    refine (log_new _).mono ?_
    rintro e w1 ⟨rfl, hl1, hb1, hsz⟩
    have h2 := H.out.below hb1
    have d0 := h2.c0
    have H2 := Lib.hid h2
    have HL1 := Lib.hid hl1
    have HSZ := Lib.hid hsz
    clear h2 hl1 hsz c0
    go_wp2_with fail
    refine (log_append _ [] (98 :: L.text) 0 _ HL1.out (by simp)).mono ?_
    rintro e w2 ⟨rfl, hl2, hu2⟩
    have h3 := H2.out.upd hu2 (by have := blk_lt H.out.1; simp; omega) (by have := H.out.2.1.lt; simp; omega)
    have c1 := h3.c1
    have H3 := Lib.hid h3
    have HU2 := Lib.hid hu2
    clear h3 hu2 hl2 d0
    go_wp2_with fail
    refine (C.out _ H3.out).mono ?_
    rintro e w3 ⟨rfl, hl, hu⟩
    have HC := Lib.hid (leaf_read g gl L.text (L.recs.take j) _ w3 (H3.out.log hu hl) HOK.out.recs HOK.out.disk)
    have HU := Lib.hid hu
    clear hu hl
    go_wp2_with fail
    refine HC.out.mono ?_
    rintro e w4 ⟨rfl, h5, hu5⟩
    go_wp2
    go_ret
    refine ⟨rfl, [g, gl], ⟨gl, by simpa [LfS.sb, List.take_take] using h5, rfl⟩, ?_, fun b hb => .inl hb⟩
    have k1 : Upd [g, gl] w w2 := (Upd.of hb1).trans HU2.out (fun x hx => .inr (by simp at hx; omega))
    exact (k1.trans HU.out (by simp)).trans hu5 (by simp)

set_option maxRecDepth 100000 in
set_option maxHeartbeats 800000 in
theorem leaf_pack_new (g : Nat) (L : LfS) (fp : List Nat) (stop : Int) (w : World) (h : IsLeaf w g L fp) (hL : LfOk L) (hs : stop = 0 ∨ stop = 3) :
    Calls Tryd.prog 64 #[.pointer (some ⟨g, 0, none⟩), .int .i64 stop] w (LfPost g ⟨L.text, [.b L.text], 1⟩ fp w (.int .i64 0)) := by
  obtain ⟨gl, h1, rfl⟩ := h
  have H := Lib.hid h1
  have ht := hL.text
  have HT := Lib.hid hL.text
  have c0 := h1.c0
  have e1 := add_bs [98] L.text (98 :: L.text) (bs L.text) rfl (by simp; have := hL.text; omega) rfl
  have HOK := Lib.hid (lfNew_ok hL.text)
  have HD := Lib.hid (appD_b L.text hL.text)
  clear h1 hL
  rcases hs with rfl | rfl
  all_goals
    go_enter Tryd.func64, Tryd.ntmps64
    go_wp2_with fail
    refine (log_new _).mono ?_
    rintro e w1 ⟨rfl, hl1, hb1, hsz⟩
    have h2 := H.out.below hb1
    have d0 := h2.c0
    have H2 := Lib.hid h2
    have HL1 := Lib.hid hl1
    have HSZ := Lib.hid hsz
    have HB1 := Lib.hid hb1
    clear h2 hl1 hsz c0 hb1
    go_wp2_with fail
    refine (log_append _ [] (98 :: L.text) 0 _ HL1.out (by simp)).mono ?_
    rw [HD.out]
    rintro e w2 ⟨rfl, hl2, hu2⟩
    have HL2 := Lib.hid hl2
    have HU2 := Lib.hid hu2
    clear hl2 hu2 d0
    go_wp2_with fail
    refine (log_sync _ _ 0 _ HL2.out HOK.out.disk).mono ?_
    rintro e w3 ⟨rfl, hl3, hu3⟩
    have hs1 : g ∉ [w.heap.size] := by have := blk_lt H.out.1; simp; omega
    have hs2 : gl ∉ [w.heap.size] := by have := H.out.2.1.lt; simp; omega
    have h3 := (H2.out.upd HU2.out hs1 hs2).upd hu3 hs1 hs2
    have c1 := h3.c1
    have f1 := h3.fr 1
    have H3 := Lib.hid h3
    have HL3 := Lib.hid hl3
    have HU3 := Lib.hid hu3
    have HS1 := Lib.hid hs1
    clear h3 hl3 hu3 hs1 hs2
  · go_wp2
    go_ret
    refine ⟨rfl, [g, w.heap.size], ⟨w.heap.size, ⟨blk_set H3.out.1 1 _, ?_, fun h => HS1.out (by simp [h])⟩, rfl⟩, ?_, ?_⟩
    · exact HL3.out.upd (Upd.setCell _ g 1 _) (fun h => HS1.out (by simpa using (by simpa using h : w.heap.size = g).symm))
    · have k1 : Upd [g, gl] w w3 := ((Upd.of HB1.out).trans HU2.out (fun x hx => .inr (by simp at hx; omega))).trans HU3.out (fun x hx => .inr (by simp at hx; omega))
      exact k1.trans (Upd.setCell _ _ _ _) (by simp)
    · intro b hb; simp at hb ⊢; omega
  · have hA : LeafAt (w3.setCell ⟨g, 1, none⟩ (.pointer (some ⟨w.heap.size, 0, none⟩))) g w.heap.size L.text [.b L.text] (diskOf [.b L.text]).length := by
      refine ⟨blk_set H3.out.1 1 _, ?_, fun h => HS1.out (by simp [h])⟩
      exact HL3.out.upd (Upd.setCell _ g 1 _) (fun h => HS1.out (by simpa using (by simpa using h : w.heap.size = g).symm))
    have HA := Lib.hid hA
    have hj : fitJ [.b L.text] ((diskOf [.b L.text]).length + 0) = 1 := fitJ_all _ _ (Nat.le_refl _)
    have hn := crN_eq ⟨L.text, [.b L.text], 1⟩ HOK.out 0
    have hd := crash_disk ⟨L.text, [.b L.text], 1⟩ HOK.out 0
    have hsb : LfS.sb ⟨L.text, [.b L.text], 1⟩ = (diskOf [.b L.text]).length := rfl
    simp only [hsb, hj, List.take_one, List.head?_cons, Option.toList_some] at hn hd
    have C := Lib.hid (log_crash _ _ _ 0 _ hA.2.1 HOK.out.disk (Nat.le_refl _) (Nat.le_refl _))
    rw [hn, List.take_length] at C
    clear hA hj hn hd hsb
    go_wp2_with fail
    refine C.out.mono ?_
    rintro e w4 ⟨rfl, hl4, hu4⟩
    have HA4 := Lib.hid (HA.out.log hu4 hl4)
    have d1 := HA4.out.c1
    have HU4 := Lib.hid hu4
    clear hu4 hl4
    go_wp2_with fail
    refine (leaf_read g w.heap.size L.text [.b L.text] _ w4 HA4.out HOK.out.recs HOK.out.disk).mono ?_
    rintro e w5 ⟨rfl, h5, hu5⟩
    go_wp2
    go_ret
    refine ⟨rfl, [g, w.heap.size], ⟨w.heap.size, h5, rfl⟩, ?_, ?_⟩
    · have k1 : Upd [g, gl] w w3 := ((Upd.of HB1.out).trans HU2.out (fun x hx => .inr (by simp at hx; omega))).trans HU3.out (fun x hx => .inr (by simp at hx; omega))
      exact ((k1.trans (Upd.setCell _ _ _ _) (by simp)).trans HU4.out (fun x hx => .inr (by simp at hx; omega))).trans hu5 (by simp)
    · intro b hb; simp at hb ⊢; omega

theorem leaf_pack (g : Nat) (L : LfS) (fp : List Nat) (stop : Int) (w : World) (h : IsLeaf w g L fp) (hL : LfOk L) :
    Calls Tryd.prog 64 #[.pointer (some ⟨g, 0, none⟩), .int .i64 stop] w (LfPost g (lfPack L stop).2 fp w (.int .i64 (lfPack L stop).1)) := by
  unfold lfPack
  by_cases h1 : stop < 0 ∨ 3 < stop
  · rw [if_pos h1]; exact leaf_pack_no g L fp stop w h h1
  · rw [if_neg h1]
    by_cases h2 : stop = 1 ∨ stop = 2
    · rw [if_pos h2]; exact leaf_pack_back g L fp stop w h hL h2
    · rw [if_neg h2]; exact leaf_pack_new g L fp stop w h hL (by omega)
end Go.Proofs.YtclebkgfogienaaDoor
