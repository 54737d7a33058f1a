/- The walk of HouseKeeps. -/
import Derived.Test.YtclebkgfogienaaDoorRowRefuses
import Derived.Test.YtclebkgfogienaaDoorKeepsP
namespace Go.Proofs.YtclebkgfogienaaDoor
set_option linter.unusedSimpArgs false
set_option linter.unusedVariables false
open Go.RowKit

theorem has_strs (A : Option Addr) (c : Nat) (l : List (List UInt8)) (x : List UInt8) (W : World) (h : OwnC 9 1 W A l.length c (strCells l)) (hl : l.length ≤ 9223372036854775807) :
    Calls Tryd.prog 22 #[.slice A l.length c, .string (bs x)] W fun e w' => e = .returned (.bool (decide (x ∈ l))) ∧ w' = W := by
  by_cases h0 : l.length = 0
  · have : l = [] := List.eq_nil_of_length_eq_zero h0
    subst this
    exact Tryd.slices_Contains_string_empty A c (bs x) W
  · obtain ⟨b, off, rfl, _, _⟩ := h.addr (by omega)
    refine (Tryd.slices_Contains_string b off l.length c (l.map bs) (bs x) W (by simp) hl (fun j hj => ?_)).mono ?_
    · have hj' : j < l.length := by simpa using hj
      rw [h.cell j (by omega), strs_getD l j hj']
    · rintro e w' ⟨rfl, rfl⟩
      refine ⟨?_, rfl⟩
      rw [List.take_of_length_le (by simp)]
      have e2 : Lib.containsS (l.map bs) (bs x) = decide (x ∈ l) := by
        rw [Bool.eq_iff_iff, Lib.containsS_iff, decide_eq_true_iff]
        constructor
        · intro h
          obtain ⟨s, hs, he⟩ := List.mem_map.1 h
          rw [← bs_inj he]; exact hs
        · intro h
          exact List.mem_map_of_mem h
      rw [e2]

/-- a house, and a row of strings apart from it -/
def HRow (B gh : Nat) (w0 : World) (H : List PageS) (A : Option Addr) (c : Nat) (T : List (List UInt8)) (w : World) : Prop :=
  ∃ F, IsHouse w gh H F ∧ (∀ x ∈ F, B ≤ x) ∧ OwnC 9 1 w A T.length c (strCells T) ∧ (∀ b ∈ blk A, B ≤ b ∧ b ∉ F) ∧ Below B w0 w
theorem HRow.below {B gh : Nat} {w0 w w' : World} {H : List PageS} {A : Option Addr} {c : Nat} {T : List (List UInt8)} (h : HRow B gh w0 H A c T w) (hb : Below w.heap.size w w') (hB : B ≤ w0.heap.size) : HRow B gh w0 H A c T w' := by
  obtain ⟨F, h1, h2, h3, h4, h5⟩ := h
  exact ⟨F, h1.below hb, h2, h3.below hb, h4, h5.trans (hb.mono (Nat.le_trans hB h5.size))⟩
theorem HRow.row {B gh : Nat} {w0 w : World} {H : List PageS} {A : Option Addr} {c : Nat} {T : List (List UInt8)} (h : HRow B gh w0 H A c T w) : OwnC 9 1 w A T.length c (strCells T) := by
  obtain ⟨F, h1, h2, h3, h4, h5⟩ := h
  exact h3
theorem HRow.out {B gh : Nat} {w0 w : World} {H : List PageS} {A : Option Addr} {c : Nat} {T : List (List UInt8)} (h : HRow B gh w0 H A c T w) : Below B w0 w := by
  obtain ⟨F, h1, h2, h3, h4, h5⟩ := h
  exact h5
theorem HRow.grow {B gh : Nat} {w0 w w' : World} {H : List PageS} {A A' : Option Addr} {c c' : Nat} {T T' : List (List UInt8)} (h : HRow B gh w0 H A c T w) (ho : OwnC 9 1 w' A' T'.length c' (strCells T')) (hu : Upd (blk A) w w') (hn : ∀ b ∈ blk A', b ∈ blk A ∨ w.heap.size ≤ b) (hB : B ≤ w0.heap.size) : HRow B gh w0 H A' c' T' w' := by
  obtain ⟨F, h1, h2, h3, h4, h5⟩ := h
  have hs := h5.size
  refine ⟨F, h1.upd hu (fun b hb hm => (h4 b hm).2 hb), h2, ho, fun b hb => ?_, h5.trans (hu.below (fun k hk => (h4 k hk).1) (by omega))⟩
  rcases hn b hb with h | h
  · exact h4 b h
  · exact ⟨by omega, fun hm => by have := h1.lt b hm; omega⟩
theorem hr_deed (B gh : Nat) (w0 : World) (H : List PageS) (A : Option Addr) (c : Nat) (T : List (List UInt8)) (w : World) (d : Dd) (ev : Value) (h : HRow B gh w0 H A c T w) (hH : HouseOk H) (hv : EditsAt w ev d.edits) (hl : d.edits ≠ [] → ∀ A n c, ev = .slice A n c → ∀ x ∈ blk A, x < B) (hB : B ≤ w0.heap.size) (hT : Tab B w0) :
    Calls Tryd.prog 12 #[.pointer (some ⟨gh, 0, none⟩), ddV d ev] w fun e w' =>
      e = .returned (.tuple #[.string (bs (doF H d).1.1), .int .i64 (doF H d).1.2]) ∧ HRow B gh w0 (doF H d).2 A c T w' := by
  obtain ⟨F, h1, h2, h3, h4, h5⟩ := h
  refine (house_do_low B gh H F d ev w h1 hH hv hl (Nat.le_trans hB h5.size) (hT.on h5) h2).mono ?_
  rintro e w' ⟨rfl, F', a, b, k, hu, hf⟩
  refine ⟨rfl, F', a, b, h3.upd hu (fun x hx => (h4 x hx).2), fun x hx => ⟨(h4 x hx).1, fun hm => ?_⟩, h5.trans k⟩
  rcases hf x hm with h | h
  · exact (h4 x hx).2 h
  · have := h3.lt x hx; omega
theorem hr_do (B gh : Nat) (w0 : World) (H : List PageS) (A : Option Addr) (c : Nat) (T : List (List UInt8)) (w : World) (k n : Int) (nm tx : List UInt8) (h : HRow B gh w0 H A c T w) (hH : HouseOk H) (hB : B ≤ w0.heap.size) (hT : Tab B w0) :
    Calls Tryd.prog 12 #[.pointer (some ⟨gh, 0, none⟩), .agg #[.int .i64 k, .int .i64 n, .string (bs nm), .string (bs tx), .slice none 0 0]] w fun e w' =>
      e = .returned (.tuple #[.string (bs (doF H (deedD k n nm tx)).1.1), .int .i64 (doF H (deedD k n nm tx)).1.2]) ∧ HRow B gh w0 (doF H (deedD k n nm tx)).2 A c T w' :=
  hr_deed B gh w0 H A c T w (deedD k n nm tx) (.slice none 0 0) h hH (editsAt_none w) (fun h => absurd rfl h) hB hT
theorem hr_text (B gh : Nat) (w0 : World) (H : List PageS) (A : Option Addr) (c : Nat) (T : List (List UInt8)) (w : World) (nm : List UInt8) (h : HRow B gh w0 H A c T w) (hH : HouseOk H) (hB : B ≤ w0.heap.size) (hT : Tab B w0) :
    Calls Tryd.prog 15 #[.pointer (some ⟨gh, 0, none⟩), .string (bs nm)] w fun e w' =>
      e = .returned (.tuple #[.string (bs (doF H (textD nm)).1.1), .bool ((doF H (textD nm)).1.2 == 0)]) ∧ HRow B gh w0 H A c T w' := by
  obtain ⟨F, h1, h2, h3, h4, h5⟩ := h
  refine (keep_textOf B gh H F nm w h1 hH (Nat.le_trans hB h5.size) (hT.on h5) h2).mono ?_
  rintro e w' ⟨rfl, F', a, b, k, hu, hf⟩
  refine ⟨rfl, F', a, b, h3.upd hu (fun x hx => (h4 x hx).2), fun x hx => ⟨(h4 x hx).1, fun hm => ?_⟩, h5.trans k⟩
  rcases hf x hm with h | h
  · exact (h4 x hx).2 h
  · have := h3.lt x hx; omega

/-- what the loop of HouseKeeps keeps -/
def KeepsInv (gh : Nat) (nm : List UInt8) (w : World) (k : Nat) (tv : Value) (wr : World) : Prop :=
  ∃ H A c T, tv = .slice A T.length c ∧ T.length ≤ k + 1 ∧ HouseWell H ∧ Kept H nm T ∧ HRow w.heap.size gh w H A c T wr
def KeepsEnd (w : World) (e : Ending) (w' : World) : Prop := e = .returned (.bool true) ∧ Below w.heap.size w w'
theorem strCells_last {T : List (List UInt8)} {s : List UInt8} (h : T.getLast? = some s) : ∃ n, T.length = n + 1 ∧ (strCells T)[n]? = some (.string (bs s)) := by
  have hne : T ≠ [] := by intro h0; subst h0; simp at h
  have hl : 0 < T.length := List.length_pos_iff.2 hne
  refine ⟨T.length - 1, by omega, ?_⟩
  rw [List.getLast?_eq_getElem?] at h
  simp [strCells, h]

set_option maxRecDepth 100000 in
set_option maxHeartbeats 3200000 in
theorem keeps_walk (v v2 : Value) (D M : List Dd) (nm : List UInt8) (keep : Int) (w : World) (hD : DeedsAt w.heap.size w v D) (hM : DeedsAt w.heap.size w v2 M) (hm : M.length * 72 ≤ 140737488351232) (hT : Tab w.heap.size w) :
    Calls Tryd.prog 6 #[v, .string (bs nm), v2, .int .i64 keep] w (KeepsEnd w) := by
  have HD := Lib.hid hD
  have HM := Lib.hid hM
  have HT := Lib.hid hT
  obtain ⟨A, c, rfl, -⟩ := hD
  obtain ⟨A2, c2, rfl, hc2, hl2, hcells⟩ := hM
  have HCE := Lib.hid hcells
  clear hT hcells
  have CH := Lib.hid (keep_houses w.heap.size w (Nat.le_refl _) HT.out)
  have HW : Hid (HouseWell (runF [] D)) := HouseWell.nil.runF D
  generalize hH : runF [] D = H at *
  have HR := Lib.hid hH
  clear hH
  rcases hr1 : doF H (deedD 5 0 nm []) with ⟨⟨s1, e1⟩, H1⟩
  have HR1 := Lib.hid hr1
  have HW1 : Hid (HouseWell H1) := by have := HW.out.doF (deedD 5 0 nm []); rwa [hr1] at this
  have HK1 : Hid (e1 = 0 → ∃ s, (doF H1 (textD nm)).1 = (s, 0) ∧ Kept H1 nm [s]) := fun h0 => by
    have := Kept.start HW.out (nm := nm) (by rw [hr1]; exact h0)
    rwa [hr1] at this
  clear hr1
  go_enter Tryd.func6, Tryd.ntmps6
  go_wp2_with fail
  refine CH.out.mono ?_
  rintro e w1 ⟨rfl, hb1⟩
  have HB1 := Lib.hid hb1
  clear hb1
  go_wp2_with fail
  refine (st_worked w.heap.size (.slice A D.length c) D w w1 HD.out HB1.out (Nat.le_refl _) HT.out).mono ?_
  rintro e w2 ⟨gh, rfl, hs⟩
  rw [HR.out] at hs
  have HS2 := Lib.hid hs
  clear hs
  have C := Lib.hid (st_do w.heap.size gh w H w2 5 0 nm [] HS2.out HW.out.ok (Nat.le_refl _) HT.out)
  rw [HR1.out] at C
  simp only at C
  go_wp2_with fail
  refine C.out.mono ?_
  rintro e w3 ⟨rfl, hs⟩
  have HS3 := Lib.hid hs
  clear hs C
  by_cases he1 : e1 = 0
  · obtain ⟨s, ht, hkp⟩ := HK1.out he1
    have HTX := Lib.hid ht
    have HKP := Lib.hid hkp
    subst he1
    clear ht hkp
    have C := Lib.hid (st_text w.heap.size gh w H1 w3 nm HS3.out HW1.out.ok (Nat.le_refl _) HT.out)
    rw [HTX.out] at C
    simp only at C
    go_wp2_with fail
    refine C.out.mono ?_
    rintro e w4 ⟨rfl, hs⟩
    have HS4 := Lib.hid hs
    clear hs C
    go_wp2
    go_loopw [14, 52] (fun tv iv wr => ∃ (k : Nat), iv = .int .i64 k ∧ k ≤ M.length ∧ Hid (KeepsInv gh nm w k tv wr)) (fun _ iv _ => M.length - (intOf iv).toNat)
    case atStart =>
      refine ⟨0, rfl, by omega, H1, _, _, [s], rfl, by simp, HW1.out, HKP.out, ?_⟩
      obtain ⟨F, h1, h2, h3⟩ := HS4.out
      have hba : ∀ o, Below w4.heap.size w4 (w4.alloc o) := fun o => (Below.refl _ _).alloc (Nat.le_refl _) _
      have := h3.size
      refine ⟨F, h1.below (hba _), h2, own_one w4 s, fun b hb => ?_, h3.trans ((hba _).mono (by omega))⟩
      simp [blk] at hb
      subst hb
      exact ⟨by omega, fun hm => by have := h1.lt _ hm; omega⟩
    case round =>
      obtain ⟨k, rfl, hk, HI⟩ := hrel
      obtain ⟨Hk, At, ct, T, rfl, hTl, hwk, hkp, hrow⟩ := HI.out
      have HWk := Lib.hid hwk
      have HKP := Lib.hid hkp
      have HRW := Lib.hid hrow
      clear HI hwk hkp hrow HTX
      by_cases hlt : k < M.length
      · obtain ⟨b, off, rfl, hbB, hall⟩ := HCE.out (by intro h; simp [h] at hlt)
        obtain ⟨ev, hd⟩ := hall k hlt
        have hd' := hd.on hbB (Nat.le_refl _) HRW.out.out
        clear hall
        generalize M[k] = d at *
        obtain ⟨kd, n, dn, tx, eds⟩ := d
        have q0 := hd'.c0
        have q1 := hd'.c1
        have q2 := hd'.c2
        have q3 := hd'.c3
        have q4 := hd'.c4
        have HED := Lib.hid hd.ed
        have HLO := Lib.hid hd.low
        simp only at q0 q1 q2 q3
        obtain ⟨Ae, ce, hev, -⟩ := hd'.ed
        subst hev
        clear hd' hd
        have hba : Below wr.heap.size wr (wr.alloc (.cells #[.int .i64 kd, .int .i64 n, .string (bs dn), .string (bs tx), .slice Ae eds.length ce] 25)) := (Below.refl _ _).alloc (Nat.le_refl _) _
        have HRA := Lib.hid (HRW.out.below hba (Nat.le_refl _))
        clear hba
        by_cases hsk : kd = 9 ∨ kd = 7 ∨ kd = 6
        · rcases hsk with rfl | rfl | rfl
          all_goals
            go_wp2
            go_roundw
            case rel => exact ⟨k + 1, by go_num, by omega, Hk, At, ct, T, rfl, by omega, HWk.out, HKP.out, HRA.out⟩
            case measure => simp [intOf]; omega
        · have g1 : (kd == 9) = false := by simp; omega
          have g2 : (kd == 7) = false := by simp; omega
          have g3 : (kd == 6) = false := by simp; omega
          obtain ⟨s', ht', hkp'⟩ := HKP.out.step HWk.out ⟨kd, n, dn, tx, eds⟩ ⟨fun h => hsk (.inr (.inr h)), fun h => hsk (.inr (.inl h)), fun h => hsk (.inl h)⟩
          have HTX := Lib.hid ht'
          have HKP' := Lib.hid hkp'
          have HWn := Lib.hid (HWk.out.doF ⟨kd, n, dn, tx, eds⟩)
          clear hsk ht' hkp'
          have C := Lib.hid (hr_deed w.heap.size gh w Hk At ct T _ ⟨kd, n, dn, tx, eds⟩ (.slice Ae eds.length ce) HRA.out HWk.out.ok (editsAt_low HED.out HLO.out (Nat.le_refl _) HRA.out.out) HLO.out (Nat.le_refl _) HT.out)
          simp only [ddV] at C
          generalize doF Hk ⟨kd, n, dn, tx, eds⟩ = R at *
          obtain ⟨⟨rs, re⟩, Hn⟩ := R
          simp only at C HTX HKP' HWn
          go_wp2_with fail
          refine C.out.mono ?_
          rintro e w5 ⟨rfl, hs⟩
          have HR5 := Lib.hid hs
          clear hs C
          have C := Lib.hid (hr_text w.heap.size gh w Hn At ct T w5 nm HR5.out HWn.out.ok (Nat.le_refl _) HT.out)
          rw [HTX.out] at C
          simp only at C
          go_wp2_with fail
          refine C.out.mono ?_
          rintro e w6 ⟨rfl, hs⟩
          have HR6 := Lib.hid hs
          clear hs C
          obtain ⟨i0, hi, hz0, hz1, hz2⟩ := info_parts info_str
          have HI := Lib.hid hi
          have HZ0 := Lib.hid hz0
          have HZ1 := Lib.hid hz1
          have HZ2 := Lib.hid hz2
          have hba : ∀ o, Below w6.heap.size w6 (w6.alloc o) := fun o => (Below.refl _ _).alloc (Nat.le_refl _) _
          have HR7 := Lib.hid (HR6.out.below (hba (.cells #[.string (bs s')] 9)) (Nat.le_refl _))
          clear hi hz0 hz1 hz2 hba
          go_wp2_with (at_builtin; refine wpList_append_C rfl _ _ 33 9 1 16 rfl i0 _ Tryd.underlying33 HI.out HZ0.out HZ1.out HZ2.out rfl At T.length ct (strCells T) rfl HR7.out.row ⟨w6.heap.size, 0, none⟩ 1 1 [.string (bs s')] rfl rfl ?c1 ?c2 (by decide) ?c3 ?c4 ?_)
          case c1 => exact cell_one_new' w6 _ _
          case c2 => intro u hu; simp at hu; subst hu; rfl
          case c3 => unfold maxLen; omega
          case c4 => omega
          intro A' c' w8 ho hu hn
          have HO8 := Lib.hid ho
          have HU8 := Lib.hid hu
          have HN8 := Lib.hid hn
          clear ho hu hn
          go_wp2
          go_roundw
          case rel =>
            refine ⟨k + 1, by go_num, by omega, Hn, A', c', T ++ [s'], by simp, by simp; omega, HWn.out, HKP'.out, HR7.out.grow ?_ HU8.out (fun b hb => by have := HN8.out b hb; simpa using this) (Nat.le_refl _)⟩
            have := HO8.out
            simpa [strCells] using this
          case measure => simp [intOf]; omega
      · rcases hr2 : doF Hk (deedD 7 keep nm []) with ⟨⟨s2, e2⟩, H2⟩
        obtain ⟨s, ht, hor⟩ := HKP.out.crash HWk.out keep H2 (s2, e2) hr2
        have HR2 := Lib.hid hr2
        have HTX := Lib.hid ht
        have HW2 : Hid (HouseWell H2) := by have := HWk.out.doF (deedD 7 keep nm []); rwa [hr2] at this
        clear hr2 ht
        have C := Lib.hid (hr_do w.heap.size gh w Hk At ct T wr 7 keep nm [] HRW.out HWk.out.ok (Nat.le_refl _) HT.out)
        rw [HR2.out] at C
        simp only at C
        simp only at hor
        rcases hor with ⟨hne, hlast⟩ | ⟨rfl, hin, hund⟩
        · obtain ⟨n, hTn, hcell⟩ := strCells_last hlast
          have q1 : (e2 != 0) = true := by simpa using hne
          clear hne hlast
          rw [hTn] at hTl ⊢
          have HCL := Lib.hid hcell
          have HTN := Lib.hid hTn
          clear hcell hTn
          go_wp2_with fail
          refine C.out.mono ?_
          rintro e w5 ⟨rfl, hs⟩
          have HR5 := Lib.hid hs
          clear hs C
          have C := Lib.hid (hr_text w.heap.size gh w H2 At ct T w5 nm HR5.out HW2.out.ok (Nat.le_refl _) HT.out)
          rw [HTX.out] at C
          simp only at C
          go_wp2_with fail
          refine C.out.mono ?_
          rintro e w6 ⟨rfl, hs⟩
          have HR6 := Lib.hid hs
          clear hs C
          obtain ⟨b, off, hA, _, _⟩ := HR6.out.row.addr (by rw [HTN.out]; omega)
          subst hA
          have hc := HR6.out.row.cell n (by rw [HTN.out]; omega)
          rw [HCL.out] at hc
          have hj1 : ((n + 1 : Nat) : Int) - 1 = n := by omega
          have hj2 : (0 : Int) ≤ n := by omega
          have hj3 : (n : Int) < ((n + 1 : Nat) : Int) := by omega
          go_wp2
          go_ret
          exact ⟨rfl, HR6.out.out⟩
        · have HUN := Lib.hid hund
          have HIN := Lib.hid hin
          clear hund hin
          go_wp2_with fail
          refine C.out.mono ?_
          rintro e w5 ⟨rfl, hs⟩
          have HR5 := Lib.hid hs
          clear hs C
          have C := Lib.hid (hr_text w.heap.size gh w H2 At ct T w5 nm HR5.out HW2.out.ok (Nat.le_refl _) HT.out)
          rw [HTX.out] at C
          simp only at C
          go_wp2_with fail
          refine C.out.mono ?_
          rintro e w6 ⟨rfl, hs⟩
          have HR6 := Lib.hid hs
          clear hs C
          have C := Lib.hid (hr_do w.heap.size gh w H2 At ct T w6 3 0 nm [] HR6.out HW2.out.ok (Nat.le_refl _) HT.out)
          rw [HUN.out] at C
          generalize (doF H2 (deedD 3 0 nm [])).1.1 = us at *
          generalize (doF H2 (deedD 3 0 nm [])).2 = H3 at *
          go_wp2_with fail
          refine C.out.mono ?_
          rintro e w7 ⟨rfl, hs⟩
          have HR7 := Lib.hid hs
          clear hs C
          have C := Lib.hid (has_strs At ct T s w7 HR7.out.row (by omega))
          rw [decide_eq_true HIN.out] at C
          go_wp2_with fail
          refine C.out.mono ?_
          rintro e w8 ⟨rfl, rfl⟩
          go_wp2
          go_ret
          exact ⟨rfl, HR7.out.out⟩
  · have q1 : (e1 != 0) = true := by simpa using he1
    clear he1 HK1
    go_wp2
    go_ret
    exact ⟨rfl, HS3.out.out⟩
end Go.Proofs.YtclebkgfogienaaDoor
