/- The walk of LogOwn. -/
import Derived.Test.YtclebkgfogienaaDoorRowRefuses
import Derived.SliceStrings
namespace Go.Proofs.YtclebkgfogienaaDoor
set_option linter.unusedSimpArgs false
set_option linter.unusedVariables false
open Go.RowKit Go.ChangeShapes Go.WideShapes Go.Deep

/-- the strings of a slice, as they lie in memory -/
def StrsAt (w : World) (v : Value) (l : List (List UInt8)) : Prop :=
  ∃ A c, v = .slice A l.length c ∧ l.length ≤ c ∧ l.length ≤ 9223372036854775807 ∧ (l ≠ [] → ∃ b off, A = some ⟨b, off, none⟩ ∧ b < w.heap.size ∧ ∀ i (h : i < l.length), w.cell? ⟨b, off + i, none⟩ = some (.string (bs l[i])))
section
variable {H : Type} {enc : TypeId × Value → H} {w : World}
theorem strsAt_open {fuel : Nat} {v : Value} {x : DataW H × List MemPlace} (h : DataW.trod enc Tryd.prog w 0 (fun _ => true) true fuel 33 [v] = some x) : ∃ l, StrsAt w v l := by
  rcases open_strings Tryd.underlying33 Tryd.underlying9 (by kernel_rfl) h with ⟨hcs, _⟩ | ⟨a, len, cap, ss, hcs, _, hl, hm, hss, _, hi, _⟩
  · obtain rfl : v = .slice none 0 0 := by simpa using hcs
    exact ⟨[], none, 0, rfl, by simp, by simp, fun h => absurd rfl h⟩
  · obtain rfl : v = .slice (some a) len cap := by simpa using hcs
    simp only [if_true] at hss
    have hm' : cap ≤ 9223372036854775807 := hm
    have hlen : ((ss.take len).map sl).length = len := by simp; omega
    by_cases h0 : len = 0
    · subst h0
      exact ⟨[], some a, cap, rfl, by simp, by simp, fun h => absurd rfl h⟩
    · obtain ⟨b, off, spot⟩ := a
      have hc := hi 0 (by omega)
      have hspot : spot = none := by simpa [Addr.add] using World.cell?_spot hc
      subst hspot
      have hb : b < w.heap.size := by
        have := World.block_lt_of_cell? w _ hc
        simpa [Addr.add] using this
      refine ⟨(ss.take len).map sl, some ⟨b, off, none⟩, cap, by rw [hlen], by rw [hlen]; exact hl, by rw [hlen]; omega, fun _ => ⟨b, off, rfl, hb, fun i hil => ?_⟩⟩
      have hil' : i < len := by rw [hlen] at hil; exact hil
      have := hi i (by omega)
      rw [addr_add] at this
      rw [this]
      simp [List.getD, bs_sl, show i < ss.length by omega]
end

theorem logs_scan : scan (appD [] [97, 98]).length (appD [] [97, 98]) = [[97, 98]] ∧ appE [] [97, 98] = 0 ∧ (appD [] [97, 98]).length = 8 := by decide +kernel

set_option maxRecDepth 100000 in
set_option maxHeartbeats 800000 in
theorem keep_logs (w : World) : Calls Tryd.prog 16 #[] w fun e w' => e = .returned (.bool true) ∧ Below w.heap.size w w' := by
  obtain ⟨l1, l2, l3⟩ := logs_scan
  have L1 := Lib.hid l1
  have L2 := Lib.hid l2
  have L3 := Lib.hid l3
  clear l1 l2 l3
  go_enter Tryd.func16, Tryd.ntmps16
  go_wp2_with fail
  refine (log_new w).mono ?_
  rintro e w1 ⟨rfl, hL, hb, hsz⟩
  have HL1 := Lib.hid hL
  have HB1 := Lib.hid hb
  have HZ := Lib.hid hsz
  clear hL hb hsz
  have C := Lib.hid (log_append w.heap.size [] [97, 98] 0 w1 HL1.out (by simp))
  rw [L2.out] at C
  go_wp2_with fail
  refine C.out.mono ?_
  rintro e w2 ⟨rfl, hL, hu⟩
  have HL2 := Lib.hid hL
  have HB2 := Lib.hid (HB1.out.trans (hu.below (B := w.heap.size) (fun k hk => by simp at hk; omega) HB1.out.size))
  clear hL hu C
  have h8 : (appD [] [97, 98]).length ≤ 4000 := by rw [L3.out]; decide
  have C := Lib.hid (log_size w.heap.size (appD [] [97, 98]) 0 w2 HL2.out h8)
  rw [L3.out] at C
  go_wp2_with fail
  refine C.out.mono ?_
  rintro e w3 ⟨rfl, hb⟩
  have HL3 := Lib.hid (HL2.out.below hb)
  have HB3 := Lib.hid (HB2.out.trans (hb.mono HB2.out.size))
  clear hb C
  go_wp2_with fail
  refine (log_sync w.heap.size (appD [] [97, 98]) 0 w3 HL3.out h8).mono ?_
  rintro e w4 ⟨rfl, hL, hu⟩
  have HL4 := Lib.hid hL
  have HB4 := Lib.hid (HB3.out.trans (hu.below (B := w.heap.size) (fun k hk => by simp at hk; omega) HB3.out.size))
  clear hL hu
  have C := Lib.hid (log_size w.heap.size (appD [] [97, 98]) (appD [] [97, 98]).length w4 HL4.out h8)
  rw [L3.out] at C
  go_wp2_with fail
  refine C.out.mono ?_
  rintro e w5 ⟨rfl, hb⟩
  have HL5 := Lib.hid (HL4.out.below hb)
  have HB5 := Lib.hid (HB4.out.trans (hb.mono HB4.out.size))
  clear hb C
  have C := Lib.hid (log_all w.heap.size (appD [] [97, 98]) (appD [] [97, 98]).length w5 HL5.out h8)
  rw [L1.out] at C
  go_wp2_with fail
  refine C.out.mono ?_
  rintro e w6 ⟨A, c, rfl, ho, hb⟩
  have HO6 := Lib.hid (OwnC.of_row ho)
  have HB6 := Lib.hid (HB5.out.trans (hb.mono HB5.out.size))
  clear ho hb C
  have hba : Below w6.heap.size w6 (w6.alloc (.cells #[.string ⟨#[97, 98]⟩] 9)) := (Below.refl _ _).alloc (Nat.le_refl _) _
  have HO7 : Hid (OwnC 9 1 (w6.alloc (.cells #[.string ⟨#[97, 98]⟩] 9)) A 1 c (strCells [[97, 98]])) := HO6.out.below hba
  have HN7 : Hid (OwnC 9 1 (w6.alloc (.cells #[.string ⟨#[97, 98]⟩] 9)) (some ⟨w6.heap.size, 0, none⟩) 1 1 (strCells [[97, 98]])) :=
    own_one w6 [97, 98]
  have HB7 := Lib.hid (HB6.out.alloc HB6.out.size (.cells #[.string ⟨#[97, 98]⟩] 9))
  have CE := Lib.hid (eq_strs A (some ⟨w6.heap.size, 0, none⟩) c 1 [[97, 98]] [[97, 98]] (w6.alloc (.cells #[.string ⟨#[97, 98]⟩] 9)) HO7.out HN7.out (by simp))
  have hdec : decide (([[97, 98]] : List (List UInt8)) = [[97, 98]]) = true := decide_eq_true rfl
  rw [hdec] at CE
  clear hdec hba h8
  go_wp2_with fail
  refine CE.out.mono ?_
  rintro e w8 ⟨rfl, hb⟩
  have HB8 := Lib.hid (HB7.out.trans (hb.mono HB7.out.size))
  clear hb
  go_wp2
  go_ret
  exact ⟨rfl, HB8.out⟩

theorem appD_le (d r : List UInt8) (h : d.length ≤ 4000) : (appD d r).length ≤ 4000 := by
  unfold appD
  split
  · rename_i h0
    have : ¬ 4000 < d.length + (r.length + 6) := fun hlt => by
      unfold appE at h0
      split at h0
      · exact absurd h0 (by decide)
      · first | exact absurd h0 (by decide) | (rw [if_pos hlt] at h0; exact absurd h0 (by decide))
    rw [List.length_append, frame_length]; omega
  · exact h
theorem used_ge : ∀ (l : List (List UInt8)), l.length * 6 ≤ used l
  | [] => by simp [used]
  | r :: l => by
    have := used_ge l
    simp [used] at this ⊢; omega
theorem scan_len (d : List UInt8) (h : d.length ≤ 4000) : (scan d.length d).length ≤ 1000 := by
  have h1 := scan_used_le d.length d
  have h2 := used_ge (scan d.length d)
  omega

/-- the disk behind a row of records -/
def fills (l : List (List UInt8)) : List UInt8 := l.foldl appD []
theorem fills_le : ∀ (l : List (List UInt8)) (d : List UInt8), d.length ≤ 4000 → (l.foldl appD d).length ≤ 4000
  | [], d, h => h
  | r :: l, d, h => fills_le l (appD d r) (appD_le d r h)
theorem fills_snoc (l : List (List UInt8)) (r : List UInt8) : fills (l ++ [r]) = appD (fills l) r := by simp [fills]

set_option maxRecDepth 100000 in
set_option maxHeartbeats 3200000 in
theorem log_walk (v v2 : Value) (l : List (List UInt8)) (D : List Dd) (w : World) (hl : StrsAt w v l) (hD : DeedsAt w.heap.size w v2 D) (hT : Tab w.heap.size w) :
    Calls Tryd.prog 5 #[v, v2] w fun e w' => e = .returned (.bool true) ∧ Below w.heap.size w w' := by
  have HD := Lib.hid hD
  have HT := Lib.hid hT
  obtain ⟨A, c, rfl, -⟩ := hD
  obtain ⟨A2, c2, rfl, hc2, hl2, hcells⟩ := hl
  have HCE := Lib.hid hcells
  clear hT hcells
  have HOK : Hid (HouseOk (runF [] D)) := runF_ok HouseOk.nil D
  generalize hH : runF [] D = H at *
  have HR := Lib.hid hH
  clear hH
  go_enter Tryd.func5, Tryd.ntmps5
  go_wp2_with fail
  refine (keep_logs w).mono ?_
  rintro e w1 ⟨rfl, hb1⟩
  have HB1 := Lib.hid hb1
  clear hb1
  have C1 := Lib.hid (keep_houses w.heap.size w1 HB1.out.size (HT.out.on HB1.out))
  go_wp2_with fail
  refine C1.out.mono ?_
  rintro e w2 ⟨rfl, hb2⟩
  have HB2 := Lib.hid (HB1.out.trans (hb2.mono HB1.out.size))
  clear hb2 C1
  go_wp2_with fail
  refine (log_new w2).mono ?_
  rintro e w3 ⟨rfl, hL, hb, hsz⟩
  generalize hgd : w2.heap.size = gd at *
  have HL3 := Lib.hid hL
  have hgd0 : w.heap.size ≤ gd := by have := HB2.out.size; omega
  have HB3 := Lib.hid (HB2.out.trans (hb.mono hgd0))
  have hgd3 : gd < w3.heap.size := by omega
  clear hL hb hsz hgd
  have CW := Lib.hid (keep_worked w.heap.size (.slice A D.length c) D w3 (HD.out.on (Nat.le_refl _) HB3.out) HB3.out.size (HT.out.on HB3.out))
  rw [HR.out] at CW
  go_wp2_with fail
  refine CW.out.mono ?_
  rintro e w4 ⟨rfl, F, hh, hf, hb⟩
  generalize hgh : w3.heap.size = gh at *
  have HL4 : Hid (IsLog w4 gd [] 0) := HL3.out.below (by rw [hgh]; exact hb)
  have HH4 := Lib.hid hh
  have HF4 : Hid (∀ x ∈ F, gd < x) := fun x hx => by have := hf x hx; omega
  have HB4 := Lib.hid (HB3.out.trans (hb.mono (by omega)))
  clear hh hf hb CW hgh
  go_wp2
  go_loopw [30] (fun iv wr => ∃ (k : Nat), iv = .int .i64 k ∧ k ≤ l.length ∧ Hid (IsLog wr gd (fills (l.take k)) 0) ∧ Hid (IsHouse wr gh H F) ∧ Hid (Below w.heap.size w wr)) (fun iv _ => l.length - (intOf iv).toNat)
  case atStart => exact ⟨0, rfl, by omega, HL4.out, HH4.out, HB4.out⟩
  case round =>
    obtain ⟨k, rfl, hk, HL, HH, HB⟩ := hrel
    by_cases hlt : k < l.length
    · obtain ⟨b, off, rfl, hbB, hall⟩ := HCE.out (by intro h; simp [h] at hlt)
      have q0 : wr.cell? ⟨b, off + k, none⟩ = some (.string (bs l[k])) := (HB.out.cell (p := ⟨b, _, none⟩) hbB).trans (hall k hlt)
      have HDE : Hid (fills (l.take (k + 1)) = appD (fills (l.take k)) l[k]) := by unfold Hid; rw [List.take_succ_eq_append_getElem hlt, fills_snoc]
      have hle : (fills (l.take k)).length ≤ 4000 := fills_le _ _ (by simp)
      clear hall
      generalize l[k] = r at *
      generalize fills (l.take k) = dk at *
      have C := Lib.hid (log_append gd dk r 0 wr HL.out hle)
      clear hle
      go_wp2_with fail
      refine C.out.mono ?_
      rintro e w5 ⟨rfl, hL, hu⟩
      have HL5 := Lib.hid hL
      have HH5 : Hid (IsHouse w5 gh H F) := HH.out.upd hu (fun x hx hm => by simp at hm; have := HF4.out x hx; omega)
      have HB5 := Lib.hid (HB.out.trans (hu.below (B := w.heap.size) (fun x hx => by simp at hx; omega) HB.out.size))
      clear hL hu C
      go_wp2
      go_roundw
      case rel => exact ⟨k + 1, by go_num, by omega, by unfold Hid; rw [HDE.out]; exact HL5.out, HH5.out, HB5.out⟩
      case measure => simp [intOf]; omega
    · have hE : l.take k = l := List.take_of_length_le (by omega)
      rw [hE] at HL
      have hle : (fills l).length ≤ 4000 := fills_le _ _ (by simp)
      have hsc : (scan (fills l).length (fills l)).length ≤ 1000 := scan_len _ hle
      generalize fills l = dk at *
      have C := Lib.hid (log_all gd dk 0 wr HL.out hle)
      have HLE := Lib.hid hle
      clear hle
      generalize hRS : scan dk.length dk = R at *
      have HRS := Lib.hid hRS
      clear hRS
      go_wp2_with fail
      refine C.out.mono ?_
      rintro e w5 ⟨Aa, ca, rfl, ho, hb⟩
      have HOA5 := Lib.hid (OwnC.of_row ho)
      have HLO5 := Lib.hid (owns_blk ho)
      have HL5 := Lib.hid (HL.out.below hb)
      have HH5 := Lib.hid (HH.out.below hb)
      have HB5 := Lib.hid (HB.out.trans (hb.mono HB.out.size))
      clear ho hb C
      go_wp2_with fail
      refine (st_names w.heap.size gh w H w5 ⟨F, HH5.out⟩ HOK.out).mono ?_
      rintro e w6 ⟨An, cn, rfl, ho, hlo, hb⟩
      have hn6 : (namesF H).length ≤ 6 := by rw [namesF_length]; exact HOK.out.len
      generalize hN : namesF H = N at *
      have HNF := Lib.hid hN
      clear hN
      have HON6 := Lib.hid ho
      have HLN6 := Lib.hid hlo
      have HOA6 := Lib.hid (HOA5.out.below hb)
      have HL6 := Lib.hid (HL5.out.below hb)
      have HH6 := Lib.hid (HH5.out.below hb)
      have HB6 := Lib.hid (HB5.out.trans (hb.mono HB5.out.size))
      have HLA6 : Hid (∀ b ∈ blk Aa, wr.heap.size ≤ b ∧ b < w5.heap.size) := fun b hb' => ⟨HLO5.out b hb', HOA5.out.lt b hb'⟩
      clear ho hlo hb
      go_wp2_with fail
      refine (clone_strs Aa ca R w6 HOA6.out (by omega)).mono ?_
      rintro e w7 ⟨Ak, ck, rfl, ho, hlo, hb⟩
      have HOK7 := Lib.hid ho
      have HLK7 := Lib.hid hlo
      have HOA7 := Lib.hid (HOA6.out.below hb)
      have HON7 := Lib.hid (HON6.out.below hb)
      have HL7 := Lib.hid (HL6.out.below hb)
      have HH7 := Lib.hid (HH6.out.below hb)
      have HB7 := Lib.hid (HB6.out.trans (hb.mono HB6.out.size))
      clear ho hlo hb
      go_wp2_with fail
      refine (clone_strs An cn N w7 HON7.out (by omega)).mono ?_
      rintro e w8 ⟨Am, cm, rfl, ho, hlo, hb⟩
      have HOM8 := Lib.hid ho
      have HLM8 := Lib.hid hlo
      have HOK8 := Lib.hid (HOK7.out.below hb)
      have HOA8 := Lib.hid (HOA7.out.below hb)
      have HON8 := Lib.hid (HON7.out.below hb)
      have HL8 := Lib.hid (HL7.out.below hb)
      have HH8 := Lib.hid (HH7.out.below hb)
      have HB8 := Lib.hid (HB7.out.trans (hb.mono HB7.out.size))
      clear ho hlo hb
      have hAk : ∀ b ∈ blk Aa, b ∉ blk Ak := fun b hb hm => by have := HOA6.out.lt b hb; have := HLK7.out b hm; omega
      have hAm : ∀ b ∈ blk Aa, b ∉ blk Am := fun b hb hm => by have := HOA7.out.lt b hb; have := HLM8.out b hm; omega
      have hNk : ∀ b ∈ blk An, b ∉ blk Ak := fun b hb hm => by have := HON6.out.lt b hb; have := HLK7.out b hm; omega
      have hNm : ∀ b ∈ blk An, b ∉ blk Am := fun b hb hm => by have := HON7.out.lt b hb; have := HLM8.out b hm; omega
      have hAn : ∀ b ∈ blk Aa, b ∉ blk An := fun b hb hm => by have := HOA5.out.lt b hb; have := HLN6.out b hm; omega
      have hAF : ∀ b ∈ blk Aa, b ∉ F := fun b hb hm => by have := HLO5.out b hb; have := HH.out.lt b hm; omega
      have hNF : ∀ b ∈ blk An, b ∉ F := fun b hb hm => by have := HLN6.out b hb; have := HH5.out.lt b hm; omega
      have hAg : gd ∉ blk Aa := fun hm => by have := HLO5.out gd hm; have := HL.out.lt; omega
      have hNg : gd ∉ blk An := fun hm => by have := HLN6.out gd hm; have := HL5.out.lt; omega
      have hAw : ∀ b ∈ blk Aa, w.heap.size ≤ b := fun b hb => by have := HLO5.out b hb; have := HB.out.size; omega
      have hNw : ∀ b ∈ blk An, w.heap.size ≤ b := fun b hb => by have := HLN6.out b hb; have := HB5.out.size; omega
      have XAk := Lib.hid hAk
      have XAm := Lib.hid hAm
      have XNk := Lib.hid hNk
      have XNm := Lib.hid hNm
      have XAn := Lib.hid hAn
      have XAF := Lib.hid hAF
      have XNF := Lib.hid hNF
      have XAg := Lib.hid hAg
      have XNg := Lib.hid hNg
      have XAw := Lib.hid hAw
      have XNw := Lib.hid hNw
      clear hAk hAm hNk hNm hAn hAF hNF hAg hNg hAw hNw
      go_wp2_with fail
      refine (keep_spoil Aa R.length ca (strCells R) [63] w8 HOA8.out).mono ?_
      rintro e w9 ⟨rfl, hu⟩
      have HOM9 := Lib.hid (HOM8.out.upd hu (fun b hb hm => XAm.out b hm hb))
      have HOK9 := Lib.hid (HOK8.out.upd hu (fun b hb hm => XAk.out b hm hb))
      have HON9 := Lib.hid (HON8.out.upd hu (fun b hb hm => XAn.out b hm hb))
      have HL9 := Lib.hid (HL8.out.upd hu XAg.out)
      have HH9 := Lib.hid (HH8.out.upd hu (fun b hb hm => XAF.out b hm hb))
      have HB9 := Lib.hid (HB8.out.trans (hu.below XAw.out HB8.out.size))
      clear hu
      go_wp2_with fail
      refine (keep_spoil An N.length cn (strCells N) [63] w9 HON9.out).mono ?_
      rintro e w10 ⟨rfl, hu⟩
      have HOM10 := Lib.hid (HOM9.out.upd hu (fun b hb hm => XNm.out b hm hb))
      have HOK10 := Lib.hid (HOK9.out.upd hu (fun b hb hm => XNk.out b hm hb))
      have HL10 := Lib.hid (HL9.out.upd hu XNg.out)
      have HH10 := Lib.hid (HH9.out.upd hu (fun b hb hm => XNF.out b hm hb))
      have HB10 := Lib.hid (HB9.out.trans (hu.below XNw.out HB9.out.size))
      clear hu
      have C := Lib.hid (log_all gd dk 0 w10 HL10.out HLE.out)
      rw [HRS.out] at C
      go_wp2_with fail
      refine C.out.mono ?_
      rintro e w11 ⟨Ab, cb, rfl, ho, hb⟩
      have HOB11 := Lib.hid (OwnC.of_row ho)
      have HOM11 := Lib.hid (HOM10.out.below hb)
      have HOK11 := Lib.hid (HOK10.out.below hb)
      have HH11 := Lib.hid (HH10.out.below hb)
      have HB11 := Lib.hid (HB10.out.trans (hb.mono HB10.out.size))
      clear ho hb C
      have C := Lib.hid (eq_strs Ab Ak cb ck R R w11 HOB11.out HOK11.out (by omega))
      have hdec : decide (R = R) = true := decide_eq_true rfl
      rw [hdec] at C
      clear hdec
      go_wp2_with fail
      refine C.out.mono ?_
      rintro e w12 ⟨rfl, hb⟩
      have HOM12 := Lib.hid (HOM11.out.below hb)
      have HH12 := Lib.hid (HH11.out.below hb)
      have HB12 := Lib.hid (HB11.out.trans (hb.mono HB11.out.size))
      clear hb C
      have C := Lib.hid (st_names w.heap.size gh w H w12 ⟨F, HH12.out⟩ HOK.out)
      rw [HNF.out] at C
      go_wp2_with fail
      refine C.out.mono ?_
      rintro e w13 ⟨Ad, cd, rfl, ho, hlo, hb⟩
      have HOD13 := Lib.hid ho
      have HOM13 := Lib.hid (HOM12.out.below hb)
      have HB13 := Lib.hid (HB12.out.trans (hb.mono HB12.out.size))
      clear ho hlo hb C
      have C := Lib.hid (eq_strs Ad Am cd cm N N w13 HOD13.out HOM13.out (by omega))
      have hdec : decide (N = N) = true := decide_eq_true rfl
      rw [hdec] at C
      clear hdec
      go_wp2_with fail
      refine C.out.mono ?_
      rintro e w14 ⟨rfl, hb⟩
      have HB14 := Lib.hid (HB13.out.trans (hb.mono HB13.out.size))
      clear hb C
      go_wp2
      go_ret
      exact ⟨rfl, HB14.out⟩
end Go.Proofs.YtclebkgfogienaaDoor
