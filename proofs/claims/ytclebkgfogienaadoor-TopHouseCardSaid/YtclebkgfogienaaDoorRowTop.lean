/- The walk of TopHouse. -/
import Derived.Test.YtclebkgfogienaaDoorTopW
namespace Go.Proofs.YtclebkgfogienaaDoor
set_option linter.unusedSimpArgs false
set_option linter.unusedVariables false
open Go.RowKit

def TopEnd (w : World) (e : Ending) (w' : World) : Prop := e = .returned (.bool true) ∧ Below w.heap.size w w'
theorem oneN_lit : bs oneN = ⟨#[111, 110, 101]⟩ := rfl
set_option maxRecDepth 100000 in
set_option maxHeartbeats 1600000 in
theorem top_walk_long (v : Value) (D : List Dd) (s : List UInt8) (b : Bool) (w : World) (hD : DeedsAt w.heap.size w v D) (hT : Tab w.heap.size w) (hs : 200 < s.length) :
    Calls Tryd.prog 9 #[.string (bs s), v, .bool b] w (TopEnd w) := by
  have HT := Lib.hid hT
  obtain ⟨A, c, rfl, -⟩ := hD
  obtain ⟨t1, _⟩ := top_begin s
  rw [if_pos hs] at t1
  have T1 := Lib.hid t1
  have hs2 : (200 : Int) < (s.length : Int) := by omega
  clear hT t1
  go_enter Tryd.func9, Tryd.ntmps9
  go_wp2_with fail
  refine (house_new w).mono ?_
  rintro e w1 ⟨rfl, hH, hb⟩
  have HS1 : Hid (HSt w.heap.size w.heap.size w [] w1) := ⟨_, hH, fun x hx => by simp at hx; omega, hb⟩
  clear hH hb
  go_wp2_with fail
  refine (top_works w1).mono ?_
  rintro e w2 ⟨rfl, hb⟩
  have HS2 := Lib.hid (HS1.out.below hb (Nat.le_refl _))
  clear hb
  go_wp2_with fail
  refine (undo_new_long s w2 (by omega)).mono ?_
  rintro e w3 ⟨rfl, hb⟩
  have HS3 := Lib.hid (HS2.out.below hb (Nat.le_refl _))
  clear hb
  have C := Lib.hid (st_do w.heap.size w.heap.size w [] w3 1 0 oneN s HS3.out HouseOk.nil (Nat.le_refl _) HT.out)
  rw [T1.out] at C
  simp only at C
  go_wp2_with fail
  refine C.out.mono ?_
  rintro e w4 ⟨rfl, hs⟩
  have HS4 := Lib.hid hs
  clear hs C
  go_wp2
  go_ret
  exact ⟨rfl, HS4.out.out⟩
theorem he_do (B gh ge : Nat) (w0 : World) (H : List PageS) (E : EdS) (w : World) (k n : Int) (nm tx : List UInt8) (h : HEd B gh ge w0 H E w) (hH : HouseOk H) (hB : B ≤ w0.heap.size) (hT : Tab B w0) :
    Calls Tryd.prog 12 #[.pointer (some ⟨gh, 0, none⟩), .agg #[.int .i64 k, .int .i64 n, .string (bs nm), .string (bs tx), .slice none 0 0]] w fun e w' =>
      e = .returned (.tuple #[.string (bs (doF H (deedD k n nm tx)).1.1), .int .i64 (doF H (deedD k n nm tx)).1.2]) ∧ HEd B gh ge w0 (doF H (deedD k n nm tx)).2 E w' :=
  he_deed B gh ge w0 H E w (deedD k n nm tx) (.slice none 0 0) h hH (editsAt_none w) (fun h => absurd rfl h) hB hT
theorem four_cells (w : World) (T : TypeId) (fr : Nat × Nat) (b : Nat) (h : w.heap[b]? = some (.cells #[.int .i64 0, .int .i64 0, .int .i64 0, .int .i64 0] T fr)) : ∀ j (_ : j < [(0 : Int), 0, 0, 0].length), w.cell? ⟨b, j, none⟩ = some (.int .i64 [(0 : Int), 0, 0, 0][j]) := by
  intro j hj
  rw [blk_cell h]
  have hj' : j < 4 := hj
  have : j = 0 ∨ j = 1 ∨ j = 2 ∨ j = 3 := by omega
  rcases this with rfl | rfl | rfl | rfl <;> rfl

set_option maxRecDepth 100000 in
set_option maxHeartbeats 3200000 in
theorem top_walk_ok (v : Value) (D : List Dd) (s : List UInt8) (b : Bool) (w : World) (hD : DeedsAt w.heap.size w v D) (hT : Tab w.heap.size w) (hs : s.length ≤ 200) :
    Calls Tryd.prog 9 #[.string (bs s), v, .bool b] w (TopEnd w) := by
  have HT := Lib.hid hT
  have HD := Lib.hid hD
  obtain ⟨A, c, rfl, hc, hl, hcells⟩ := hD
  have HCE := Lib.hid hcells
  obtain ⟨t1, t2⟩ := top_begin s
  rw [if_neg (by omega)] at t1
  have T1 := Lib.hid t1
  have T2 := Lib.hid (t2 hs)
  have HW0 : Hid (HouseWell (doF [] (deedD 1 0 oneN s)).2) := HouseWell.nil.doF _
  clear hT t1 t2 hcells
  go_enter Tryd.func9, Tryd.ntmps9
  go_wp2_with fail
  refine (house_new w).mono ?_
  rintro e w1 ⟨rfl, hH, hb⟩
  have HS1 : Hid (HSt w.heap.size w.heap.size w [] w1) := ⟨_, hH, fun x hx => by simp at hx; omega, hb⟩
  clear hH hb
  go_wp2_with fail
  refine (top_works w1).mono ?_
  rintro e w2 ⟨rfl, hb⟩
  have HS2 := Lib.hid (HS1.out.below hb (Nat.le_refl _))
  clear hb
  go_wp2_with fail
  refine (undo_new s w2 hs).mono ?_
  rintro e w3 ⟨ge, rfl, hE, hge, hb⟩
  have HE3 : Hid (HEd w.heap.size w.heap.size ge w [] ⟨s, [], []⟩ w3) := by
    obtain ⟨F, h1, h2, h3⟩ := HS2.out
    have := h3.size
    exact ⟨F, [ge], h1.below hb, hE, h2, fun x hx => by simp at hx; omega, fun x hx hm => by simp at hm; have := h1.lt x hx; omega, h3.trans (hb.mono (by omega))⟩
  clear hE hge hb
  have C := Lib.hid (he_deed w.heap.size w.heap.size ge w [] ⟨s, [], []⟩ w3 (deedD 1 0 oneN s) (.slice none 0 0) HE3.out HouseOk.nil (editsAt_none w3) (fun h => absurd rfl h) (Nat.le_refl _) HT.out)
  rw [T1.out] at C
  generalize (doF [] (deedD 1 0 oneN s)).2 = H0 at *
  simp only [ddV, deedD] at C
  go_wp2_with fail
  refine C.out.mono ?_
  rintro e w4 ⟨rfl, hs⟩
  have HE4 := Lib.hid hs
  clear hs C
  generalize hgh : w.heap.size = gh at *
  have HGH := Lib.hid hgh
  have hghw : gh ≤ w.heap.size := Nat.le_of_eq hgh.symm
  clear hgh
  go_wp2
  go_loopw [57] (fun iv wr => ∃ (k : Nat), iv = .int .i64 k ∧ k ≤ D.length ∧ Hid (∃ H E, HouseWell H ∧ Mated H oneN E ∧ HEd gh gh ge w H E wr)) (fun iv _ => D.length - (intOf iv).toNat)
  case atStart => exact ⟨0, rfl, by omega, H0, _, HW0.out, T2.out, HE4.out⟩
  case round =>
    obtain ⟨k, rfl, hk, HX⟩ := hrel
    obtain ⟨H, E, hw, hm, hx⟩ := HX.out
    have HW := Lib.hid hw
    have HM := Lib.hid hm
    have HH := Lib.hid hx
    clear hw hm hx HX
    by_cases hlt : k < D.length
    · obtain ⟨b, off, rfl, hbB, hall⟩ := HCE.out (by intro h; simp [h] at hlt)
      obtain ⟨ev, hd⟩ := hall k hlt
      have hd' := hd.on hbB hghw HH.out.out
      clear hall
      generalize D[k] = d at *
      obtain ⟨kd, n, dn, tx, eds⟩ := d
      have q0 := hd'.c0
      have q1 := hd'.c1
      have q2 := hd'.c2
      have q3 := hd'.c3
      have q4 := hd'.c4
      have HED := Lib.hid hd.ed
      have HLO := Lib.hid hd.low
      simp only at q0 q1 q2 q3
      obtain ⟨Ae, ce, hev, -⟩ := hd'.ed
      subst hev
      clear hd' hd
      by_cases hkd : kd = 2 ∨ kd = 3 ∨ kd = 4
      · have C := Lib.hid (he_deed_box gh gh ge w H E wr (.cells #[.int .i64 kd, .int .i64 n, .string (bs oneN), .string (bs tx), .slice Ae eds.length ce] 25) ⟨kd, n, oneN, tx, eds⟩ (.slice Ae eds.length ce) HH.out HW.out.ok (editsAt_low HED.out HLO.out hghw HH.out.out) HLO.out hghw HT.out)
        simp only [ddV] at C
        have HW2 := Lib.hid (HW.out.doF ⟨kd, n, oneN, tx, eds⟩)
        have HEK := Lib.hid (HM.out.ed HW.out)
        have HST := Lib.hid (top_step HW.out HM.out ⟨kd, n, oneN, tx, eds⟩ rfl hkd)
        generalize doF H ⟨kd, n, oneN, tx, eds⟩ = R at *
        obtain ⟨⟨rs, re⟩, H2⟩ := R
        simp only at C HW2 HST
        rcases hkd with rfl | rfl | rfl
        · go_wp2_with fail
          refine C.out.mono ?_
          rintro e w5 ⟨rfl, hs, hbx⟩
          have HE5 := Lib.hid hs
          have p4 : w5.cell? ⟨wr.heap.size, 4, none⟩ = some (.slice Ae eds.length ce) := (blk_cell hbx 4).trans rfl
          clear hs hbx C q0 q1 q2 q3 q4
          rcases HST.out with ⟨rfl, hm⟩ | ⟨hne, hiff, hm⟩
          · have HM5 := Lib.hid hm
            clear hm HST
            go_wp2
            go_roundw
            case rel => exact ⟨k + 1, by go_num, by omega, H2, E, HW2.out, HM5.out, HE5.out⟩
            case measure => simp [intOf]; omega
          · rw [show topE E ⟨2, n, oneN, tx, eds⟩ = doEd E eds from rfl] at hiff hm
            have g1 : (re != 11) = true := by simpa using hne
            have C := Lib.hid (he_ed_do gh gh ge w H2 E w5 (.slice Ae eds.length ce) eds HE5.out (editsAt_low HED.out HLO.out hghw HE5.out.out) HEK.out hghw)
            have HM5 := Lib.hid hm
            have HIF := Lib.hid hiff
            clear hne hiff hm HST
            generalize doEd E eds = R2 at *
            obtain ⟨fe, E2⟩ := R2
            simp only at C
            go_wp2_with fail
            refine C.out.mono ?_
            rintro e w6 ⟨rfl, hs⟩
            have HE6 := Lib.hid hs
            clear hs C p4
            by_cases h0 : re = 0
            · have h1 := HIF.out.1 h0
              subst h0
              have h2 : fe = 0 := h1
              subst h2
              clear h1
              go_wp2
              go_roundw
              case rel => exact ⟨k + 1, by go_num, by omega, H2, E2, HW2.out, HM5.out, HE6.out⟩
              case measure => simp [intOf]; omega
            · have h1 : ¬ fe = 0 := fun h => h0 (HIF.out.2 h)
              have g2 : (re == 0) = false := by simpa using h0
              have g3 : (fe == 0) = false := by simpa using h1
              clear h0 h1
              go_wp2
              go_roundw
              case rel => exact ⟨k + 1, by go_num, by omega, H2, E2, HW2.out, HM5.out, HE6.out⟩
              case measure => simp [intOf]; omega
        · go_wp2_with fail
          refine C.out.mono ?_
          rintro e w5 ⟨rfl, hs, hbx⟩
          have HE5 := Lib.hid hs
          have p4 : w5.cell? ⟨wr.heap.size, 4, none⟩ = some (.slice Ae eds.length ce) := (blk_cell hbx 4).trans rfl
          clear hs hbx C q0 q1 q2 q3 q4
          rcases HST.out with ⟨rfl, hm⟩ | ⟨hne, hiff, hm⟩
          · have HM5 := Lib.hid hm
            clear hm HST
            go_wp2
            go_roundw
            case rel => exact ⟨k + 1, by go_num, by omega, H2, E, HW2.out, HM5.out, HE5.out⟩
            case measure => simp [intOf]; omega
          · rw [show topE E ⟨3, n, oneN, tx, eds⟩ = undoEd E from rfl] at hiff hm
            have g1 : (re != 11) = true := by simpa using hne
            have C := Lib.hid (he_ed_undo gh gh ge w H2 E w5 HE5.out HEK.out hghw)
            have HM5 := Lib.hid hm
            have HIF := Lib.hid hiff
            clear hne hiff hm HST
            generalize undoEd E = R2 at *
            obtain ⟨fe, E2⟩ := R2
            simp only at C
            go_wp2_with fail
            refine C.out.mono ?_
            rintro e w6 ⟨rfl, hs⟩
            have HE6 := Lib.hid hs
            clear hs C p4
            by_cases h0 : re = 0
            · have h1 := HIF.out.1 h0
              subst h0
              have h2 : fe = 0 := h1
              subst h2
              clear h1
              go_wp2
              go_roundw
              case rel => exact ⟨k + 1, by go_num, by omega, H2, E2, HW2.out, HM5.out, HE6.out⟩
              case measure => simp [intOf]; omega
            · have h1 : ¬ fe = 0 := fun h => h0 (HIF.out.2 h)
              have g2 : (re == 0) = false := by simpa using h0
              have g3 : (fe == 0) = false := by simpa using h1
              clear h0 h1
              go_wp2
              go_roundw
              case rel => exact ⟨k + 1, by go_num, by omega, H2, E2, HW2.out, HM5.out, HE6.out⟩
              case measure => simp [intOf]; omega
        · go_wp2_with fail
          refine C.out.mono ?_
          rintro e w5 ⟨rfl, hs, hbx⟩
          have HE5 := Lib.hid hs
          have p4 : w5.cell? ⟨wr.heap.size, 4, none⟩ = some (.slice Ae eds.length ce) := (blk_cell hbx 4).trans rfl
          clear hs hbx C q0 q1 q2 q3 q4
          rcases HST.out with ⟨rfl, hm⟩ | ⟨hne, hiff, hm⟩
          · have HM5 := Lib.hid hm
            clear hm HST
            go_wp2
            go_roundw
            case rel => exact ⟨k + 1, by go_num, by omega, H2, E, HW2.out, HM5.out, HE5.out⟩
            case measure => simp [intOf]; omega
          · rw [show topE E ⟨4, n, oneN, tx, eds⟩ = redoEd E from rfl] at hiff hm
            have g1 : (re != 11) = true := by simpa using hne
            have C := Lib.hid (he_ed_redo gh gh ge w H2 E w5 HE5.out HEK.out hghw)
            have HM5 := Lib.hid hm
            have HIF := Lib.hid hiff
            clear hne hiff hm HST
            generalize redoEd E = R2 at *
            obtain ⟨fe, E2⟩ := R2
            simp only at C
            go_wp2_with fail
            refine C.out.mono ?_
            rintro e w6 ⟨rfl, hs⟩
            have HE6 := Lib.hid hs
            clear hs C p4
            by_cases h0 : re = 0
            · have h1 := HIF.out.1 h0
              subst h0
              have h2 : fe = 0 := h1
              subst h2
              clear h1
              go_wp2
              go_roundw
              case rel => exact ⟨k + 1, by go_num, by omega, H2, E2, HW2.out, HM5.out, HE6.out⟩
              case measure => simp [intOf]; omega
            · have h1 : ¬ fe = 0 := fun h => h0 (HIF.out.2 h)
              have g2 : (re == 0) = false := by simpa using h0
              have g3 : (fe == 0) = false := by simpa using h1
              clear h0 h1
              go_wp2
              go_roundw
              case rel => exact ⟨k + 1, by go_num, by omega, H2, E2, HW2.out, HM5.out, HE6.out⟩
              case measure => simp [intOf]; omega
      · have g1 : (kd == 2) = false := by simp; omega
        have g2 : (kd == 3) = false := by simp; omega
        have g3 : (kd == 4) = false := by simp; omega
        clear hkd
        go_wp2
        go_roundw
        case rel => exact ⟨k + 1, by go_num, by omega, H, E, HW.out, HM.out, HH.out.below ((Below.refl _ _).alloc (Nat.le_refl _) _) hghw⟩
        case measure => simp [intOf]; omega
    · cases b with
      | false =>
        rcases hr1 : doF H (deedD 5 0 oneN []) with ⟨⟨s1, e1⟩, H1⟩
        rcases hr2 : doF H1 (deedD 7 0 oneN []) with ⟨⟨s2, e2⟩, H2⟩
        obtain ⟨ht, h1, h2, hu⟩ := top_end HW.out HM.out 5 (by decide) H1 H2 (s1, e1) (s2, e2) hr1 hr2
        simp only at h1 h2
        subst h1 h2
        have HW1 : Hid (HouseWell H1) := by have := HW.out.doF (deedD 5 0 oneN []); rwa [hr1] at this
        have HW2 : Hid (HouseWell H2) := by have := HW1.out.doF (deedD 7 0 oneN []); rwa [hr2] at this
        have R0 : Hid (doF H (deedD 8 0 oneN []) = ((E.text, 0), H)) := Prod.ext ht (doF_text H oneN)
        have R1 := Lib.hid hr1
        have R2 := Lib.hid hr2
        have R3 : Hid (doF H2 (deedD 8 0 oneN []) = ((E.text, 0), H2)) := Prod.ext hu (doF_text H2 oneN)
        clear ht hu hr1 hr2
        have C := Lib.hid (he_do gh gh ge w H E wr 8 0 oneN [] HH.out HW.out.ok hghw HT.out)
        rw [R0.out] at C
        simp only at C
        go_wp2_with fail
        refine C.out.mono ?_
        rintro e w5 ⟨rfl, hs⟩
        have HE5 := Lib.hid hs
        clear hs C
        go_wp2_with fail
        have hba : ∀ o, Below w5.heap.size w5 (w5.alloc o) := fun o => (Below.refl _ _).alloc (Nat.le_refl _) _
        have C := Lib.hid (he_do gh gh ge w H E (w5.alloc (.cells #[.int .i64 5, .int .i64 0, .string ⟨#[111, 110, 101]⟩, .string ⟨#[]⟩, .slice none 0 0] 25)) 5 0 oneN [] (HE5.out.below (hba _) hghw) HW.out.ok hghw HT.out)
        rw [R1.out] at C
        simp only at C
        clear hba
        refine C.out.mono ?_
        rintro e w6 ⟨rfl, hs⟩
        have HE6 := Lib.hid hs
        clear hs C
        have C := Lib.hid (he_do gh gh ge w H1 E w6 7 0 oneN [] HE6.out HW1.out.ok hghw HT.out)
        rw [R2.out] at C
        simp only at C
        go_wp2_with fail
        refine C.out.mono ?_
        rintro e w7 ⟨rfl, hs⟩
        have HE7 := Lib.hid hs
        clear hs C
        have C := Lib.hid (he_do gh gh ge w H2 E w7 8 0 oneN [] HE7.out HW2.out.ok hghw HT.out)
        rw [R3.out] at C
        simp only at C
        go_wp2_with fail
        refine C.out.mono ?_
        rintro e w8 ⟨rfl, hs⟩
        have HE8 := Lib.hid hs
        clear hs C
        go_wp2_with fail
        refine (top_good w8.heap.size 4 [0, 0, 0, 0] _ (by decide) (four_cells _ _ _ _ (heap_new _ _))).mono ?_
        rintro e w9 ⟨rfl, rfl⟩
        have hal : ([0, 0, 0, 0] : List Int).all (· == 0) = true := rfl
        rw [hal]
        have HE9 := Lib.hid (HE8.out.below ((Below.refl _ _).alloc (Nat.le_refl _) (.cells #[.int .i64 0, .int .i64 0, .int .i64 0, .int .i64 0] 29)) hghw)
        clear hal
        obtain ⟨F, Fe, _, hE9, _⟩ := HE9.out
        have C := Lib.hid (undo_text ge E Fe _ hE9)
        clear hE9
        go_wp2_with fail
        refine C.out.mono ?_
        rintro e w10 ⟨rfl, hb⟩
        have HE10 := Lib.hid (HE9.out.below hb hghw)
        clear hb C
        go_wp2
        go_ret
        refine ⟨rfl, ?_⟩
        rw [HGH.out]
        exact HE10.out.out
      | true =>
        rcases hr1 : doF H (deedD 6 0 oneN []) with ⟨⟨s1, e1⟩, H1⟩
        rcases hr2 : doF H1 (deedD 7 0 oneN []) with ⟨⟨s2, e2⟩, H2⟩
        obtain ⟨ht, h1, h2, hu⟩ := top_end HW.out HM.out 6 (by decide) H1 H2 (s1, e1) (s2, e2) hr1 hr2
        simp only at h1 h2
        subst h1 h2
        have HW1 : Hid (HouseWell H1) := by have := HW.out.doF (deedD 6 0 oneN []); rwa [hr1] at this
        have HW2 : Hid (HouseWell H2) := by have := HW1.out.doF (deedD 7 0 oneN []); rwa [hr2] at this
        have R0 : Hid (doF H (deedD 8 0 oneN []) = ((E.text, 0), H)) := Prod.ext ht (doF_text H oneN)
        have R1 := Lib.hid hr1
        have R2 := Lib.hid hr2
        have R3 : Hid (doF H2 (deedD 8 0 oneN []) = ((E.text, 0), H2)) := Prod.ext hu (doF_text H2 oneN)
        clear ht hu hr1 hr2
        have C := Lib.hid (he_do gh gh ge w H E wr 8 0 oneN [] HH.out HW.out.ok hghw HT.out)
        rw [R0.out] at C
        simp only at C
        go_wp2_with fail
        refine C.out.mono ?_
        rintro e w5 ⟨rfl, hs⟩
        have HE5 := Lib.hid hs
        clear hs C
        go_wp2_with fail
        have hba : ∀ o, Below w5.heap.size w5 (w5.alloc o) := fun o => (Below.refl _ _).alloc (Nat.le_refl _) _
        have C := Lib.hid (he_do gh gh ge w H E (w5.alloc (.cells #[.int .i64 6, .int .i64 0, .string ⟨#[111, 110, 101]⟩, .string ⟨#[]⟩, .slice none 0 0] 25)) 6 0 oneN [] (HE5.out.below (hba _) hghw) HW.out.ok hghw HT.out)
        rw [R1.out] at C
        simp only at C
        clear hba
        refine C.out.mono ?_
        rintro e w6 ⟨rfl, hs⟩
        have HE6 := Lib.hid hs
        clear hs C
        have C := Lib.hid (he_do gh gh ge w H1 E w6 7 0 oneN [] HE6.out HW1.out.ok hghw HT.out)
        rw [R2.out] at C
        simp only at C
        go_wp2_with fail
        refine C.out.mono ?_
        rintro e w7 ⟨rfl, hs⟩
        have HE7 := Lib.hid hs
        clear hs C
        have C := Lib.hid (he_do gh gh ge w H2 E w7 8 0 oneN [] HE7.out HW2.out.ok hghw HT.out)
        rw [R3.out] at C
        simp only at C
        go_wp2_with fail
        refine C.out.mono ?_
        rintro e w8 ⟨rfl, hs⟩
        have HE8 := Lib.hid hs
        clear hs C
        go_wp2_with fail
        refine (top_good w8.heap.size 4 [0, 0, 0, 0] _ (by decide) (four_cells _ _ _ _ (heap_new _ _))).mono ?_
        rintro e w9 ⟨rfl, rfl⟩
        have hal : ([0, 0, 0, 0] : List Int).all (· == 0) = true := rfl
        rw [hal]
        have HE9 := Lib.hid (HE8.out.below ((Below.refl _ _).alloc (Nat.le_refl _) (.cells #[.int .i64 0, .int .i64 0, .int .i64 0, .int .i64 0] 29)) hghw)
        clear hal
        obtain ⟨F, Fe, _, hE9, _⟩ := HE9.out
        have C := Lib.hid (undo_text ge E Fe _ hE9)
        clear hE9
        go_wp2_with fail
        refine C.out.mono ?_
        rintro e w10 ⟨rfl, hb⟩
        have HE10 := Lib.hid (HE9.out.below hb hghw)
        clear hb C
        go_wp2
        go_ret
        refine ⟨rfl, ?_⟩
        rw [HGH.out]
        exact HE10.out.out

theorem top_walk (v : Value) (D : List Dd) (s : List UInt8) (b : Bool) (w : World) (hD : DeedsAt w.heap.size w v D) (hT : Tab w.heap.size w) :
    Calls Tryd.prog 9 #[.string (bs s), v, .bool b] w (TopEnd w) := by
  by_cases hs : s.length ≤ 200
  · exact top_walk_ok v D s b w hD hT hs
  · exact top_walk_long v D s b w hD hT (by omega)
end Go.Proofs.YtclebkgfogienaaDoor
