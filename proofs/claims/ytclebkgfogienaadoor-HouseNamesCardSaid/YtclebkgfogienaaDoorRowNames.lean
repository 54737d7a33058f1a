/- The walk of HouseNames. -/
import Derived.Test.YtclebkgfogienaaDoorNamed
import Derived.Sort.Walk0
namespace Go.Proofs.YtclebkgfogienaaDoor
set_option linter.unusedSimpArgs false
set_option linter.unusedVariables false
open Go.RowKit

theorem names_has (H : List PageS) (An : Option Addr) (cn : Nat) (nm : List UInt8) (W : World) (hO : OwnC 9 1 W An H.length cn (strCells (namesF H))) (h6 : H.length ≤ 6) :
    Calls Tryd.prog 22 #[.slice An H.length cn, .string (bs nm)] W fun e w' => e = .returned (.bool (decide (nm ∈ H.map PageS.name))) ∧ w' = W := by
  by_cases h0 : H.length = 0
  · have : H = [] := List.eq_nil_of_length_eq_zero h0
    subst this
    exact Tryd.slices_Contains_string_empty An cn (bs nm) W
  · obtain ⟨b, off, rfl, _, _⟩ := hO.addr (by omega)
    have hl := namesF_length H
    refine (Tryd.slices_Contains_string b off H.length cn ((namesF H).map bs) (bs nm) W (by simp [hl]) (by omega) (fun j hj => ?_)).mono ?_
    · have hj' : j < (namesF H).length := by simpa using hj
      rw [hO.cell j (by omega)]
      simp [strCells, List.getD, hj']
    · rintro e w' ⟨rfl, rfl⟩
      refine ⟨?_, rfl⟩
      have e1 : ((namesF H).map bs).take H.length = (namesF H).map bs := List.take_of_length_le (by simp [hl])
      rw [e1]
      have e2 : Lib.containsS ((namesF H).map bs) (bs nm) = decide (nm ∈ H.map PageS.name) := by
        rw [Bool.eq_iff_iff, Lib.containsS_iff, decide_eq_true_iff, ← namesF_mem (H := H)]
        constructor
        · intro h
          obtain ⟨s, hs, he⟩ := List.mem_map.1 h
          rw [← bs_inj he]; exact hs
        · intro h
          exact List.mem_map_of_mem h
      rw [e2]

set_option maxRecDepth 100000 in
set_option maxHeartbeats 1600000 in
theorem names_walk (v : Value) (D : List Dd) (nm : List UInt8) (w : World) (hD : DeedsAt w.heap.size w v D) (hT : Tab w.heap.size w) :
    Calls Tryd.prog 7 #[v, .string (bs nm)] w fun e w' => e = .returned (.bool true) ∧ Below w.heap.size w w' := by
  have HD := Lib.hid hD
  have HT := Lib.hid hT
  obtain ⟨A, c, rfl, _⟩ := hD
  have C1 := Lib.hid (keep_houses w.heap.size w (Nat.le_refl _) HT.out)
  clear hT
  generalize hH : runF [] D = H at *
  have HNM : Hid (Named H) := by rw [← hH]; exact runF_named Named.nil D
  have HOK : Hid (HouseOk H) := by rw [← hH]; exact runF_ok HouseOk.nil D
  have HR := Lib.hid hH
  clear hH
  go_enter Tryd.func7, Tryd.ntmps7
  go_wp2_with fail
  refine C1.out.mono ?_
  rintro e w1 ⟨rfl, hb1⟩
  have HB1 := Lib.hid hb1
  clear hb1
  go_wp2_with fail
  refine (keep_worked w.heap.size (.slice A D.length c) D w1 (HD.out.on (Nat.le_refl _) HB1.out) HB1.out.size (HT.out.on HB1.out)).mono ?_
  rintro e w2 ⟨rfl, F2, hh, hf, hb⟩
  rw [HR.out] at hh
  have HH2 := Lib.hid hh
  have HF2 : Hid (∀ x ∈ F2, w.heap.size ≤ x) := fun x hx => Nat.le_trans HB1.out.size (hf x hx)
  have HB2 := Lib.hid (HB1.out.trans (hb.mono HB1.out.size))
  clear hh hf hb
  generalize w1.heap.size = gh at *
  go_wp2_with fail
  refine (house_names gh H F2 w2 HH2.out HOK.out.len).mono ?_
  rintro e w3 ⟨An, cn, rfl, ho, hb⟩
  have HO := Lib.hid (OwnC.of_row ho)
  have HDJ : Hid (∀ x ∈ blk An, x ∉ F2) := fun x hx hm => by
    have := owns_blk ho x hx
    have := HH2.out.lt x hm
    omega
  have HB3 := Lib.hid (HB2.out.trans (hb.mono HB2.out.size))
  have HH3 := Lib.hid (HH2.out.below hb)
  have hN6 := HOK.out.len
  have HNl := Lib.hid (namesF_length H)
  have HNlt := Lib.hid (namesF_lt HNM.out)
  have HNin := Lib.hid (fun s (hs : s ∈ namesF H) => (namesF_mem (H := H)).1 hs)
  clear ho hb
  go_wp2
  go_loopw [23] (fun iv wr => ∃ (k : Nat) (F : List Nat), iv = .int .i64 k ∧ k ≤ H.length ∧ Hid (IsHouse wr gh H F) ∧ Hid (∀ x ∈ F, w.heap.size ≤ x) ∧ Hid (Below w.heap.size w wr) ∧ Hid (OwnC 9 1 wr An H.length cn (strCells (namesF H))) ∧ Hid (∀ x ∈ blk An, x ∉ F)) (fun iv _ => H.length - (intOf iv).toNat)
  case atStart => exact ⟨0, F2, rfl, by omega, HH3.out, HF2.out, HB3.out, HO.out, HDJ.out⟩
  case round =>
    obtain ⟨k, F, rfl, hk, HH, HF, HB, HOr, HDr⟩ := hrel
    by_cases hlt : k < H.length
    · obtain ⟨b, off, rfl, hnc, hbl⟩ := HOr.out.addr (by omega)
      have hlt2 : k < (namesF H).length := by rw [HNl.out]; exact hlt
      have hc := HOr.out.cell k (by omega)
      have hc2 : (strCells (namesF H))[k]? = some (.string (bs (namesF H)[k])) := by simp [strCells, hlt2]
      rw [hc2] at hc
      have C := Lib.hid (keep_textOf w.heap.size gh H F (namesF H)[k] wr HH.out HOK.out HB.out.size (HT.out.on HB.out) HF.out)
      rw [text_ok HNM.out, decide_eq_true (HNin.out _ (List.getElem_mem hlt2))] at C
      clear hc2
      go_wp2_with fail
      refine C.out.mono ?_
      rintro e w4 ⟨rfl, F4, hh4, hf4, hb4, hu4, hfr4⟩
      have HH4 := Lib.hid hh4
      have HF4 := Lib.hid hf4
      have HB4 := Lib.hid (HB.out.trans hb4)
      have HO4 := Lib.hid (HOr.out.upd hu4 HDr.out)
      have HD4 : Hid (∀ x ∈ blk (some (⟨b, off, none⟩ : Addr)), x ∉ F4) := fun x hx hm => by
        rcases hfr4 x hm with h | h
        · exact HDr.out x hx h
        · have := HOr.out.lt x hx; omega
      clear hh4 hf4 hb4 hu4 hfr4
      cases k with
      | zero =>
        go_wp2
        go_roundw
        case rel => exact ⟨1, F4, by go_num, by omega, HH4.out, HF4.out, HB4.out, HO4.out, HD4.out⟩
        case measure => simp [intOf]; omega
      | succ j =>
        have hlj : j < (namesF H).length := by omega
        have hcj := HO4.out.cell j (by omega)
        have hc2 : (strCells (namesF H))[j]? = some (.string (bs (namesF H)[j])) := by simp [strCells, hlj]
        rw [hc2] at hcj
        have hlt' := List.pairwise_iff_getElem.1 HNlt.out j (j + 1) hlj hlt2 (by omega)
        have hj1 : ((j + 1 : Nat) : Int) - 1 = j := by omega
        have hj2 : (0 : Int) < ((j + 1 : Nat) : Int) := by omega
        have HLT := Lib.hid hlt'
        clear hc2 hlt'
        generalize (namesF H)[j] = sj at *
        generalize (namesF H)[j + 1] = sk at *
        have hbl : Op.bytesLess sj sk = true := by rw [bytesLess_eq]; exact decide_eq_true HLT.out
        go_wp2
        go_roundw
        case rel => exact ⟨j + 1 + 1, F4, by go_num, by omega, HH4.out, HF4.out, HB4.out, HO4.out, HD4.out⟩
        case measure => simp [intOf]; omega
    · have C := Lib.hid (keep_textOf w.heap.size gh H F nm wr HH.out HOK.out HB.out.size (HT.out.on HB.out) HF.out)
      rw [text_ok HNM.out] at C
      have HCT := Lib.hid (fun W hW => names_has H An cn nm W hW HOK.out.len)
      generalize decide (nm ∈ H.map PageS.name) = q at *
      go_wp2_with fail
      refine C.out.mono ?_
      rintro e w4 ⟨rfl, F4, hh4, hf4, hb4, hu4, hfr4⟩
      have HO4 := Lib.hid (HOr.out.upd hu4 HDr.out)
      have HB4 := Lib.hid (HB.out.trans hb4)
      have hlen : (H.length : Int) ≤ 6 := by omega
      clear hh4 hf4 hb4 hu4 hfr4
      go_wp2_with fail
      refine (HCT.out w4 HO4.out).mono ?_
      rintro e w5 ⟨rfl, rfl⟩
      go_wp2
      go_ret
      exact ⟨rfl, HB4.out⟩
end Go.Proofs.YtclebkgfogienaaDoor
