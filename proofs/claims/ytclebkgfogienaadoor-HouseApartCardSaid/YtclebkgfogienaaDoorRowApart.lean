/- The walk of HouseApart. -/
import Derived.Test.YtclebkgfogienaaDoorApartC
import Derived.Test.YtclebkgfogienaaDoorRowKeeps
namespace Go.Proofs.YtclebkgfogienaaDoor
set_option linter.unusedSimpArgs false
set_option linter.unusedVariables false
open Go.RowKit

theorem keepOwn_map (nm : List UInt8) (L : List (Dd × Value)) : (keepL nm L).map Prod.fst = keepOwn nm (L.map Prod.fst) := by
  unfold keepL keepOwn
  rw [List.filter_map]
  rfl
theorem dl_deeds {B : Nat} {w : World} {b off c : Nat} {L : List (Dd × Value)} (hO : OwnC 25 5 w (some ⟨b, off, none⟩) L.length c (dCells L)) (hb : b < B) (hed : ∀ x ∈ L, EditsAt w x.2 x.1.edits ∧ (x.1.edits ≠ [] → ∀ A n c, x.2 = .slice A n c → ∀ y ∈ blk A, y < B)) : DeedsAt B w (.slice (some ⟨b, off, none⟩) (L.map Prod.fst).length c) (L.map Prod.fst) := by
  have hc : L.length ≤ c ∧ c ≤ 9223372036854775807 := by
    rcases hO.2 with ⟨h, _⟩ | ⟨_, _, _, _, _, h1, hcm, _⟩
    · cases h
    · exact ⟨h1, hcm⟩
  refine ⟨_, c, rfl, by simpa using hc.1, by simp; omega, fun _ => ⟨b, off, rfl, hb, fun i hi => ?_⟩⟩
  have hi' : i < L.length := by simpa using hi
  refine ⟨L[i].2, ?_⟩
  have hm := hed L[i] (List.getElem_mem hi')
  have hat : ∀ j, j < 5 → w.cell? ⟨b, off + i * 5 + j, none⟩ = (dCell L[i])[j]? := fun j hj => by
    rw [Nat.add_assoc, hO.cell (i * 5 + j) (by omega), dCells_at L i hi' j hj]
  have e : (L.map Prod.fst)[i] = L[i].1 := by simp
  refine ⟨?_, ?_, ?_, ?_, ?_, ?_, ?_⟩
  · rw [e]; exact hat 0 (by omega)
  · rw [e]; exact hat 1 (by omega)
  · rw [e]; exact hat 2 (by omega)
  · rw [e]; exact hat 3 (by omega)
  · exact hat 4 (by omega)
  · rw [e]; exact hm.1
  · rw [e]; exact hm.2
def ApartEnd (w : World) (e : Ending) (w' : World) : Prop := e = .returned (.bool true) ∧ Below w.heap.size w w'
theorem tw_names_a (B ga gb : Nat) (w0 : World) (Ha Hb : List PageS) (n : Nat) (nm : List UInt8) (W : World) (h : HTw B ga gb w0 Ha Hb W ∧ W.cell? ⟨n, 0, none⟩ = some (.string (bs nm))) (hH : HouseOk Ha) (hB : B ≤ w0.heap.size) (hn : n < B) :
    Calls Tryd.prog 14 #[.pointer (some ⟨ga, 0, none⟩)] W fun e w' => ∃ A c, e = .returned (.slice A (namesF Ha).length c) ∧
      OwnC 9 1 w' A (namesF Ha).length c (strCells (namesF Ha)) ∧ (HTw B ga gb w0 Ha Hb w' ∧ w'.cell? ⟨n, 0, none⟩ = some (.string (bs nm))) := by
  refine (st_names B ga w0 Ha W (by obtain ⟨Fa, Fb, h1, _⟩ := h.1; exact ⟨Fa, h1⟩) hH).mono ?_
  rintro e w' ⟨A, c, rfl, ho, _, hb⟩
  have hs := h.1.out.size
  exact ⟨A, c, rfl, ho, h.1.below hb hB, (hb.cell (p := ⟨n, 0, none⟩) (by show n < W.heap.size; omega)).trans h.2⟩


set_option maxRecDepth 100000 in
set_option maxHeartbeats 3200000 in
theorem apart_walk_few (v : Value) (D : List Dd) (nm : List UInt8) (w : World) (hD : DeedsAt w.heap.size w v D) (hsz : D.length * 72 ≤ 140737488351232) (hT : Tab w.heap.size w) (hfew : ¬ 5 < D.length) :
    Calls Tryd.prog 8 #[v, .string (bs nm)] w (ApartEnd w) := by
  have HT := Lib.hid hT
  have HD := Lib.hid hD
  obtain ⟨A, c, rfl, hc, hl, -⟩ := hD
  clear hT
  go_enter Tryd.func8, Tryd.ntmps8
  go_wp2_with fail
  have hb0 : Below w.heap.size w (w.alloc (.cells #[.string (bs nm)] 9)) := (Below.refl _ _).alloc (Nat.le_refl _) _
  have HB0 := Lib.hid hb0
  have hs0 : w.heap.size < (w.alloc (.cells #[.string (bs nm)] 9)).heap.size := by simp
  have HS0 := Lib.hid hs0
  have HK0 := Lib.hid (heap_new w (.cells #[.string (bs nm)] 9))
  have hT0 := HT.out.on hb0
  have HT0 := Lib.hid hT0
  clear hb0 hs0 hT0
  generalize w.alloc (.cells #[.string (bs nm)] 9) = w0 at *
  generalize hgn : w.heap.size = gn at *
  have HGW : Hid (gn ≤ w.heap.size) := Nat.le_of_eq hgn.symm
  have HGE := Lib.hid hgn
  clear hgn
  refine (keep_houses gn w0 (Nat.le_of_lt HS0.out) HT0.out).mono ?_
  rintro e w1 ⟨rfl, hb1⟩
  have HB1 := Lib.hid (HB0.out.trans (hb1.mono (Nat.le_of_lt HS0.out)))
  have HK1 : Hid (w1.heap[gn]? = some (.cells #[.string (bs nm)] 9 (0, 0))) := (hb1.block gn HS0.out).trans HK0.out
  have HS1 : Hid (gn < w1.heap.size) := Nat.lt_of_lt_of_le HS0.out hb1.size
  clear hb1
  generalize hw : w1 = w3 at *
  clear hw
  have HB3 : Hid (Below w.heap.size w w3) := by unfold Hid; rw [HGE.out]; exact HB1.out
  have HGN : Hid (gn < w3.heap.size) := HS1.out
  have HN3 : Hid (w3.cell? ⟨gn, 0, none⟩ = some (.string (bs nm))) := (blk_cell HK1.out 0).trans rfl
  have HT3 : Hid (Tab w3.heap.size w3) := (HT.out.on HB1.out).up (Nat.le_of_lt HS1.out)
  have HD3 : Hid (DeedsAt w3.heap.size w3 (.slice A D.length c) D) := (HD.out.on HGW.out HB1.out).up (Nat.le_of_lt HS1.out)
  have HRM : Hid (Room nm D) := .inl (by omega)
  have hlen : ¬ (5 : Int) < (D.length : Int) := by omega
  generalize hDD : D = D' at *
  have HCE : Hid (D' ≠ [] → ∃ b off, A = some ⟨b, off, none⟩ ∧ b < w3.heap.size ∧ ∀ i (h : i < D'.length), ∃ ev, DeedAt w3.heap.size w3 b (off + i * 5) D'[i] ev) := by
    obtain ⟨A', c', he, _, _, h⟩ := HD3.out
    cases he
    exact h
  clear hDD
  go_wp2_with fail
  refine (house_new w3).mono ?_
  rintro e w4 ⟨rfl, hH, hb⟩
  have HS4 : Hid (HSt w3.heap.size w3.heap.size w3 [] w4) := ⟨_, hH, fun x hx => by simp at hx; omega, hb⟩
  clear hH hb
  go_wp2_with fail
  refine (house_new w4).mono ?_
  rintro e w5 ⟨rfl, hH, hb⟩
  have HW5 : Hid (HTw w3.heap.size w3.heap.size w4.heap.size w3 [] [] w5) := HTw.make HS4.out hH (fun x hx => by simp at hx; omega) hb (Nat.le_refl _)
  clear hH hb HS4
  generalize hga : w3.heap.size = ga at *
  have HGA := Lib.hid hga
  clear hga
  generalize w4.heap.size = gb at *
  have hB3 : ga ≤ w3.heap.size := Nat.le_of_eq HGA.out.symm
  go_wp2
  go_loopw [32] (fun iv wr => ∃ (k : Nat), iv = .int .i64 k ∧ k ≤ D'.length ∧ Hid (HTw ga ga gb w3 (runF [] (D'.take k)) (runF [] (ownD nm (D'.take k))) wr)) (fun iv _ => D'.length - (intOf iv).toNat)
  case atStart => exact ⟨0, rfl, by omega, HW5.out⟩
  case round =>
    obtain ⟨k, rfl, hk, HH⟩ := hrel
    have hcn : wr.cell? ⟨gn, 0, none⟩ = some (.string (bs nm)) := (HH.out.out.cell (p := ⟨gn, 0, none⟩) HGN.out).trans HN3.out
    by_cases hlt : k < D'.length
    · obtain ⟨b, off, rfl, hbB, hall⟩ := HCE.out (by intro h; simp [h] at hlt)
      obtain ⟨ev, hd⟩ := hall k hlt
      have hd' := hd.on hbB hB3 HH.out.out
      have HOKa : Hid (HouseOk (runF [] (D'.take k))) := (HouseWell.nil.runF _).ok
      have HOKb : Hid (HouseOk (runF [] (ownD nm (D'.take k)))) := (HouseWell.nil.runF _).ok
      have HDE : Hid (runF [] (D'.take (k + 1)) = (doF (runF [] (D'.take k)) D'[k]).2) := by unfold Hid; rw [List.take_succ_eq_append_getElem hlt, runF_snoc]
      have HYES : Hid (D'[k].name = nm → (doF (runF [] (D'.take k)) D'[k]).1 = (doF (runF [] (ownD nm (D'.take k))) D'[k]).1 ∧ runF [] (ownD nm (D'.take (k + 1))) = (doF (runF [] (ownD nm (D'.take k))) D'[k]).2) := fun h =>
        ⟨twin_same HRM.out k hlt h, by rw [ownD_snoc_yes hlt h, runF_snoc]⟩
      have HNO : Hid (D'[k].name ≠ nm → runF [] (ownD nm (D'.take (k + 1))) = runF [] (ownD nm (D'.take k))) := fun h => by rw [ownD_snoc_no hlt h]
      clear hall
      generalize D'[k] = d at *
      generalize runF [] (D'.take k) = Ha at *
      generalize runF [] (ownD nm (D'.take k)) = Hb at *
      generalize hA2 : runF [] (D'.take (k + 1)) = Ha2 at *
      generalize hB2 : runF [] (ownD nm (D'.take (k + 1))) = Hb2 at *
      have HA2 := Lib.hid hA2
      have HB2 := Lib.hid hB2
      clear hA2 hB2
      obtain ⟨kd, n, dn, tx, eds⟩ := d
      have q0 := hd'.c0
      have q1 := hd'.c1
      have q2 := hd'.c2
      have q3 := hd'.c3
      have q4 := hd'.c4
      have HED := Lib.hid hd.ed
      have HLO := Lib.hid hd.low
      simp only at q0 q1 q2 q3 HYES HNO
      obtain ⟨Ae, ce, hev, -⟩ := hd'.ed
      subst hev
      clear hd' hd
      have C := Lib.hid (tw_deed_box ga ga gb w3 Ha Hb wr (.cells #[.int .i64 kd, .int .i64 n, .string (bs dn), .string (bs tx), .slice Ae eds.length ce] 25) ⟨kd, n, dn, tx, eds⟩ (.slice Ae eds.length ce) HH.out HOKa.out (editsAt_low HED.out HLO.out hB3 HH.out.out) HLO.out hB3 HT3.out)
      simp only [ddV] at C
      go_wp2_with fail
      refine C.out.mono ?_
      rintro e w6 ⟨rfl, hs, hbx⟩
      have HW6 := Lib.hid hs
      have HBX := Lib.hid hbx
      clear hs hbx C q0 q1 q2 q3 q4 hcn
      have p0 : w6.cell? ⟨wr.heap.size, 0, none⟩ = some (.int .i64 kd) := (blk_cell HBX.out 0).trans rfl
      have p1 : w6.cell? ⟨wr.heap.size, 1, none⟩ = some (.int .i64 n) := (blk_cell HBX.out 1).trans rfl
      have p2 : w6.cell? ⟨wr.heap.size, 2, none⟩ = some (.string (bs dn)) := (blk_cell HBX.out 2).trans rfl
      have p3 : w6.cell? ⟨wr.heap.size, 3, none⟩ = some (.string (bs tx)) := (blk_cell HBX.out 3).trans rfl
      have p4 : w6.cell? ⟨wr.heap.size, 4, none⟩ = some (.slice Ae eds.length ce) := (blk_cell HBX.out 4).trans rfl
      have hcn : w6.cell? ⟨gn, 0, none⟩ = some (.string (bs nm)) := (HW6.out.out.cell (p := ⟨gn, 0, none⟩) HGN.out).trans HN3.out
      by_cases hn : dn = nm
      · obtain ⟨hy1, hy2⟩ := HYES.out hn
        subst hn
        have C := Lib.hid (tw_deed ga gb ga w3 Hb (doF Ha ⟨kd, n, dn, tx, eds⟩).2 w6 ⟨kd, n, dn, tx, eds⟩ (.slice Ae eds.length ce) HW6.out.symm HOKb.out (editsAt_low HED.out HLO.out hB3 HW6.out.out) HLO.out hB3 HT3.out)
        simp only [ddV] at C
        rw [← hy1, ← HDE.out, ← hy2] at C
        clear hy1 hy2 HYES HNO
        generalize (doF Ha ⟨kd, n, dn, tx, eds⟩).1 = R at *
        obtain ⟨rs, re⟩ := R
        simp only at C
        go_wp2_with fail
        refine C.out.mono ?_
        rintro e w7 ⟨rfl, hs⟩
        have HW7 := Lib.hid hs.symm
        clear hs C p0 p1 p2 p3 p4 hcn
        go_wp2
        go_roundw
        case rel => exact ⟨k + 1, by go_num, by omega, by unfold Hid; rw [HA2.out, HB2.out]; exact HW7.out⟩
        case measure => simp [intOf]; omega
      · have hbn : bs dn ≠ bs nm := fun h => hn (bs_inj h)
        have hln : (dn == nm) = false := by simpa using hn
        have HW6' : Hid (HTw ga ga gb w3 Ha2 Hb2 w6) := by unfold Hid; rw [HDE.out, HNO.out hn]; exact HW6.out
        clear hn HYES HNO
        go_wp2
        go_roundw
        case rel => exact ⟨k + 1, by go_num, by omega, by unfold Hid; rw [HA2.out, HB2.out]; exact HW6'.out⟩
        case measure => simp [intOf]; omega
    · have hE : D'.take k = D' := List.take_of_length_le (by omega)
      rw [hE] at HH
      have HHAS := (twin_run HRM.out D'.length (Nat.le_refl _)).has
      rw [List.take_length] at HHAS
      have HOKa : Hid (HouseOk (runF [] D')) := (HouseWell.nil.runF _).ok
      have HOKb : Hid (HouseOk (runF [] (ownD nm D'))) := (HouseWell.nil.runF _).ok
      clear hE
      generalize runF [] D' = Ha at *
      generalize runF [] (ownD nm D') = Hb at *
      have hqa : decide (nm ∈ namesF Ha) = decide (nm ∈ Ha.map PageS.name) := decide_eq_decide.2 namesF_mem
      have hqb : decide (nm ∈ namesF Hb) = decide (nm ∈ Ha.map PageS.name) := by rw [HHAS]; exact decide_eq_decide.2 namesF_mem
      clear HHAS
      generalize decide (nm ∈ Ha.map PageS.name) = q at *
      have hla : (namesF Ha).length ≤ 6 := by rw [namesF_length]; exact HOKa.out.len
      have hlb : (namesF Hb).length ≤ 6 := by rw [namesF_length]; exact HOKb.out.len
      have CNa : Hid (∀ W, (HTw ga ga gb w3 Ha Hb W ∧ W.cell? ⟨gn, 0, none⟩ = some (.string (bs nm))) → Calls Tryd.prog 14 #[.pointer (some ⟨ga, 0, none⟩)] W fun e w' => ∃ A c, e = .returned (.slice A (namesF Ha).length c) ∧ OwnC 9 1 w' A (namesF Ha).length c (strCells (namesF Ha)) ∧ (HTw ga ga gb w3 Ha Hb w' ∧ w'.cell? ⟨gn, 0, none⟩ = some (.string (bs nm)))) := fun W h =>
        tw_names_a ga ga gb w3 Ha Hb gn nm W h HOKa.out hB3 HGN.out
      have CNb : Hid (∀ W, (HTw ga ga gb w3 Ha Hb W ∧ W.cell? ⟨gn, 0, none⟩ = some (.string (bs nm))) → Calls Tryd.prog 14 #[.pointer (some ⟨gb, 0, none⟩)] W fun e w' => ∃ A c, e = .returned (.slice A (namesF Hb).length c) ∧ OwnC 9 1 w' A (namesF Hb).length c (strCells (namesF Hb)) ∧ (HTw ga ga gb w3 Ha Hb w' ∧ w'.cell? ⟨gn, 0, none⟩ = some (.string (bs nm)))) := fun W h => by
        refine (tw_names_a ga gb ga w3 Hb Ha gn nm W ⟨h.1.symm, h.2⟩ HOKb.out hB3 HGN.out).mono ?_
        rintro e w' ⟨A, c, rfl, ho, h1, h2⟩
        exact ⟨A, c, rfl, ho, h1.symm, h2⟩
      have CCa : Hid (∀ A c W, OwnC 9 1 W A (namesF Ha).length c (strCells (namesF Ha)) → Calls Tryd.prog 22 #[.slice A (namesF Ha).length c, .string (bs nm)] W fun e w' => e = .returned (.bool q) ∧ w' = W) := fun A c W h => by
        rw [← hqa]; exact has_strs A c (namesF Ha) nm W h (by omega)
      have CCb : Hid (∀ A c W, OwnC 9 1 W A (namesF Hb).length c (strCells (namesF Hb)) → Calls Tryd.prog 22 #[.slice A (namesF Hb).length c, .string (bs nm)] W fun e w' => e = .returned (.bool q) ∧ w' = W) := fun A c W h => by
        rw [← hqb]; exact has_strs A c (namesF Hb) nm W h (by omega)
      have hS0 : HTw ga ga gb w3 Ha Hb wr.drew ∧ wr.drew.cell? ⟨gn, 0, none⟩ = some (.string (bs nm)) := ⟨HH.out.below (Below.refl _ _).drew hB3, hcn⟩
      clear hqa hqb hla hlb
      have HEND : Hid (∀ W, HTw ga ga gb w3 Ha Hb W → Below w.heap.size w W) := fun W h => HB3.out.trans (h.out.mono (by have := HGN.out; have := HGE.out; omega))
      clear hcn
      go_wp2
      go_region_held3 (fun W : World => HTw ga ga gb w3 Ha Hb W ∧ W.cell? ⟨gn, 0, none⟩ = some (.string (bs nm))) (first | exact hS0 | assumption) (first | (go_at_call 14; go_fit (CNa.out _ (by assumption)); rintro e wa ⟨Aa, ca, rfl, hoa, hsa⟩) | (go_at_call 14; go_must (go_fit (CNb.out _ (by assumption)); rintro e wb ⟨Ab, cb, rfl, hob, hsb⟩)) | (go_at_call 22; go_fit (CCa.out _ _ _ (by assumption)); rintro e wc ⟨rfl, rfl⟩) | (go_at_call 22; go_must (go_fit (CCb.out _ _ _ (by assumption)); rintro e wc ⟨rfl, rfl⟩)))
      go_wp2
      go_ret
      exact ⟨rfl, HEND.out _ hsb.1⟩


set_option maxRecDepth 100000 in
set_option maxHeartbeats 3200000 in
theorem apart_walk_many (v : Value) (D : List Dd) (nm : List UInt8) (w : World) (hD : DeedsAt w.heap.size w v D) (hsz : D.length * 72 ≤ 140737488351232) (hT : Tab w.heap.size w) (hfew : 5 < D.length) :
    Calls Tryd.prog 8 #[v, .string (bs nm)] w (ApartEnd w) := by
  have HT := Lib.hid hT
  have HD := Lib.hid hD
  obtain ⟨A, c, rfl, hc, hl, -⟩ := hD
  clear hT
  go_enter Tryd.func8, Tryd.ntmps8
  go_wp2_with fail
  have hb0 : Below w.heap.size w (w.alloc (.cells #[.string (bs nm)] 9)) := (Below.refl _ _).alloc (Nat.le_refl _) _
  have HB0 := Lib.hid hb0
  have hs0 : w.heap.size < (w.alloc (.cells #[.string (bs nm)] 9)).heap.size := by simp
  have HS0 := Lib.hid hs0
  have HK0 := Lib.hid (heap_new w (.cells #[.string (bs nm)] 9))
  have hT0 := HT.out.on hb0
  have HT0 := Lib.hid hT0
  clear hb0 hs0 hT0
  generalize w.alloc (.cells #[.string (bs nm)] 9) = w0 at *
  generalize hgn : w.heap.size = gn at *
  have HGW : Hid (gn ≤ w.heap.size) := Nat.le_of_eq hgn.symm
  have HGE := Lib.hid hgn
  clear hgn
  refine (keep_houses gn w0 (Nat.le_of_lt HS0.out) HT0.out).mono ?_
  rintro e w1 ⟨rfl, hb1⟩
  have HB1 := Lib.hid (HB0.out.trans (hb1.mono (Nat.le_of_lt HS0.out)))
  have HK1 : Hid (w1.heap[gn]? = some (.cells #[.string (bs nm)] 9 (0, 0))) := (hb1.block gn HS0.out).trans HK0.out
  have HS1 : Hid (gn < w1.heap.size) := Nat.lt_of_lt_of_le HS0.out hb1.size
  clear hb1
  obtain ⟨b0, off0, L, rfl, hb0, hmap, hDL⟩ := deeds_list ((HD.out.on HGW.out HB1.out)) (by intro h; simp [h] at hfew)
  have hlL : D.length = L.length := by rw [← hmap]; simp
  have HDL := Lib.hid hDL
  have HMP := Lib.hid hmap
  have hlen : (5 : Int) < (L.length : Int) := by omega
  have hszL : L.length * 72 ≤ 140737488351232 := by omega
  rw [hlL] at hc hl ⊢
  clear hDL hmap hlL
  go_wp2_with fail
  refine (apart_clone gn b0 off0 c L w1 HDL.out (by omega) hszL).mono ?_
  rintro e w2 ⟨b1, off1, c1, rfl, ho, hbl, hb⟩
  have HO2 := Lib.hid ho
  have HB2 := Lib.hid (HB1.out.trans (hb.mono (Nat.le_of_lt HS1.out)))
  have HBW := Lib.hid (hb.mono (Nat.le_of_lt HS1.out))
  have HK2 : Hid (w2.heap[gn]? = some (.cells #[.string (bs nm)] 9 (0, 0))) := (hb.block gn HS1.out).trans HK1.out
  have HS2 : Hid (gn < w2.heap.size) := Nat.lt_of_lt_of_le HS1.out hb.size
  have hne : gn ≠ b1 := by have := HS1.out; omega
  have HNE := Lib.hid hne
  have hb2 : b1 < w2.heap.size := ho.lt b1 (by simp [blk])
  have HB12 := Lib.hid hb2
  have hbg : gn ≤ b1 := by have := HS1.out; omega
  have HBG := Lib.hid hbg
  clear ho hbl hb hne hb2 hbg
  have C := Lib.hid (apart_delete b1 off1 c1 L nm gn w2 HO2.out (by omega) ((blk_cell HK2.out 0).trans rfl) HS2.out HNE.out HDL.out.sl)
  go_wp2_with fail
  refine C.out.mono ?_
  rintro e w3 ⟨rfl, ho, hu⟩
  have HB3' := Lib.hid (HB2.out.trans (hu.below (B := gn) (fun x hx => by simp at hx; have := HBG.out; omega) (Nat.le_of_lt HS2.out)))
  have HB3 : Hid (Below w.heap.size w w3) := by unfold Hid; rw [HGE.out]; exact HB3'.out
  have HGN : Hid (gn < w3.heap.size) := Nat.lt_of_lt_of_le HS2.out hu.size
  have HN3 : Hid (w3.cell? ⟨gn, 0, none⟩ = some (.string (bs nm))) := by
    have := (hu.block gn HS2.out (by have := HNE.out; simpa using this)).trans HK2.out
    exact (blk_cell this 0).trans rfl
  have HT3 : Hid (Tab w3.heap.size w3) := (HT.out.on HB3'.out).up (Nat.le_of_lt HGN.out)
  have HD3' : Hid (DeedsAt w3.heap.size w3 (.slice (some ⟨b1, off1, none⟩) ((keepL nm L).map Prod.fst).length c1) ((keepL nm L).map Prod.fst)) := by
    refine dl_deeds ho (Nat.lt_of_lt_of_le HB12.out hu.size) (fun x hx => ?_)
    have hxL : x ∈ L := by unfold keepL at hx; exact (List.mem_filter.1 hx).1
    obtain ⟨i, hi, rfl⟩ := List.getElem_of_mem hxL
    have h4 := HDL.out.at_ i hi
    have hw13 : Below gn w1 w3 := HBW.out.trans (hu.below (B := gn) (fun x hx => by simp at hx; have := HBG.out; omega) (Nat.le_of_lt HS2.out))
    exact ⟨editsAt_low h4.ed h4.low (Nat.le_of_lt HS1.out) hw13, fun hne A n c hA y hy => Nat.lt_trans (h4.low hne A n c hA y hy) HGN.out⟩
  have HRM0 : Hid (Room nm ((keepL nm L).map Prod.fst)) := by
    unfold Hid
    rw [keepOwn_map]
    exact .inr fun d hd => keepOwn_mem hd
  have hll : (keepL nm L).length = ((keepL nm L).map Prod.fst).length := by simp
  rw [hll]
  clear hll ho hu C hlen
  generalize hDD : (keepL nm L).map Prod.fst = D' at *
  have HRM : Hid (Room nm D') := HRM0.out
  have HCE : Hid (D' ≠ [] → ∃ b off, (some (⟨b1, off1, none⟩ : Addr)) = some ⟨b, off, none⟩ ∧ b < w3.heap.size ∧ ∀ i (h : i < D'.length), ∃ ev, DeedAt w3.heap.size w3 b (off + i * 5) D'[i] ev) := by
    obtain ⟨A', c', he, _, _, h⟩ := HD3'.out
    cases he
    exact h
  have hl' : D'.length ≤ 9223372036854775807 := by
    obtain ⟨_, _, _, _, h, _⟩ := HD3'.out
    exact h
  have hc' : D'.length ≤ c1 := by
    obtain ⟨_, _, he, h, _⟩ := HD3'.out
    cases he
    exact h
  clear hDD
  go_wp2_with fail
  refine (house_new w3).mono ?_
  rintro e w4 ⟨rfl, hH, hb⟩
  have HS4 : Hid (HSt w3.heap.size w3.heap.size w3 [] w4) := ⟨_, hH, fun x hx => by simp at hx; omega, hb⟩
  clear hH hb
  go_wp2_with fail
  refine (house_new w4).mono ?_
  rintro e w5 ⟨rfl, hH, hb⟩
  have HW5 : Hid (HTw w3.heap.size w3.heap.size w4.heap.size w3 [] [] w5) := HTw.make HS4.out hH (fun x hx => by simp at hx; omega) hb (Nat.le_refl _)
  clear hH hb HS4
  generalize hga : w3.heap.size = ga at *
  have HGA := Lib.hid hga
  clear hga
  generalize w4.heap.size = gb at *
  have hB3 : ga ≤ w3.heap.size := Nat.le_of_eq HGA.out.symm
  go_wp2
  go_loopw [32] (fun iv wr => ∃ (k : Nat), iv = .int .i64 k ∧ k ≤ D'.length ∧ Hid (HTw ga ga gb w3 (runF [] (D'.take k)) (runF [] (ownD nm (D'.take k))) wr)) (fun iv _ => D'.length - (intOf iv).toNat)
  case atStart => exact ⟨0, rfl, by omega, HW5.out⟩
  case round =>
    obtain ⟨k, rfl, hk, HH⟩ := hrel
    have hcn : wr.cell? ⟨gn, 0, none⟩ = some (.string (bs nm)) := (HH.out.out.cell (p := ⟨gn, 0, none⟩) HGN.out).trans HN3.out
    by_cases hlt : k < D'.length
    · obtain ⟨b, off, hbe, hbB, hall⟩ := HCE.out (by intro h; simp [h] at hlt)
      cases hbe
      obtain ⟨ev, hd⟩ := hall k hlt
      have hd' := hd.on hbB hB3 HH.out.out
      have HOKa : Hid (HouseOk (runF [] (D'.take k))) := (HouseWell.nil.runF _).ok
      have HOKb : Hid (HouseOk (runF [] (ownD nm (D'.take k)))) := (HouseWell.nil.runF _).ok
      have HDE : Hid (runF [] (D'.take (k + 1)) = (doF (runF [] (D'.take k)) D'[k]).2) := by unfold Hid; rw [List.take_succ_eq_append_getElem hlt, runF_snoc]
      have HYES : Hid (D'[k].name = nm → (doF (runF [] (D'.take k)) D'[k]).1 = (doF (runF [] (ownD nm (D'.take k))) D'[k]).1 ∧ runF [] (ownD nm (D'.take (k + 1))) = (doF (runF [] (ownD nm (D'.take k))) D'[k]).2) := fun h =>
        ⟨twin_same HRM.out k hlt h, by rw [ownD_snoc_yes hlt h, runF_snoc]⟩
      have HNO : Hid (D'[k].name ≠ nm → runF [] (ownD nm (D'.take (k + 1))) = runF [] (ownD nm (D'.take k))) := fun h => by rw [ownD_snoc_no hlt h]
      clear hall
      generalize D'[k] = d at *
      generalize runF [] (D'.take k) = Ha at *
      generalize runF [] (ownD nm (D'.take k)) = Hb at *
      generalize hA2 : runF [] (D'.take (k + 1)) = Ha2 at *
      generalize hB2 : runF [] (ownD nm (D'.take (k + 1))) = Hb2 at *
      have HA2 := Lib.hid hA2
      have HB2 := Lib.hid hB2
      clear hA2 hB2
      obtain ⟨kd, n, dn, tx, eds⟩ := d
      have q0 := hd'.c0
      have q1 := hd'.c1
      have q2 := hd'.c2
      have q3 := hd'.c3
      have q4 := hd'.c4
      have HED := Lib.hid hd.ed
      have HLO := Lib.hid hd.low
      simp only at q0 q1 q2 q3 HYES HNO
      obtain ⟨Ae, ce, hev, -⟩ := hd'.ed
      subst hev
      clear hd' hd
      have C := Lib.hid (tw_deed_box ga ga gb w3 Ha Hb wr (.cells #[.int .i64 kd, .int .i64 n, .string (bs dn), .string (bs tx), .slice Ae eds.length ce] 25) ⟨kd, n, dn, tx, eds⟩ (.slice Ae eds.length ce) HH.out HOKa.out (editsAt_low HED.out HLO.out hB3 HH.out.out) HLO.out hB3 HT3.out)
      simp only [ddV] at C
      go_wp2_with fail
      refine C.out.mono ?_
      rintro e w6 ⟨rfl, hs, hbx⟩
      have HW6 := Lib.hid hs
      have HBX := Lib.hid hbx
      clear hs hbx C q0 q1 q2 q3 q4 hcn
      have p0 : w6.cell? ⟨wr.heap.size, 0, none⟩ = some (.int .i64 kd) := (blk_cell HBX.out 0).trans rfl
      have p1 : w6.cell? ⟨wr.heap.size, 1, none⟩ = some (.int .i64 n) := (blk_cell HBX.out 1).trans rfl
      have p2 : w6.cell? ⟨wr.heap.size, 2, none⟩ = some (.string (bs dn)) := (blk_cell HBX.out 2).trans rfl
      have p3 : w6.cell? ⟨wr.heap.size, 3, none⟩ = some (.string (bs tx)) := (blk_cell HBX.out 3).trans rfl
      have p4 : w6.cell? ⟨wr.heap.size, 4, none⟩ = some (.slice Ae eds.length ce) := (blk_cell HBX.out 4).trans rfl
      have hcn : w6.cell? ⟨gn, 0, none⟩ = some (.string (bs nm)) := (HW6.out.out.cell (p := ⟨gn, 0, none⟩) HGN.out).trans HN3.out
      by_cases hn : dn = nm
      · obtain ⟨hy1, hy2⟩ := HYES.out hn
        subst hn
        have C := Lib.hid (tw_deed ga gb ga w3 Hb (doF Ha ⟨kd, n, dn, tx, eds⟩).2 w6 ⟨kd, n, dn, tx, eds⟩ (.slice Ae eds.length ce) HW6.out.symm HOKb.out (editsAt_low HED.out HLO.out hB3 HW6.out.out) HLO.out hB3 HT3.out)
        simp only [ddV] at C
        rw [← hy1, ← HDE.out, ← hy2] at C
        clear hy1 hy2 HYES HNO
        generalize (doF Ha ⟨kd, n, dn, tx, eds⟩).1 = R at *
        obtain ⟨rs, re⟩ := R
        simp only at C
        go_wp2_with fail
        refine C.out.mono ?_
        rintro e w7 ⟨rfl, hs⟩
        have HW7 := Lib.hid hs.symm
        clear hs C p0 p1 p2 p3 p4 hcn
        go_wp2
        go_roundw
        case rel => exact ⟨k + 1, by go_num, by omega, by unfold Hid; rw [HA2.out, HB2.out]; exact HW7.out⟩
        case measure => simp [intOf]; omega
      · have hbn : bs dn ≠ bs nm := fun h => hn (bs_inj h)
        have hln : (dn == nm) = false := by simpa using hn
        have HW6' : Hid (HTw ga ga gb w3 Ha2 Hb2 w6) := by unfold Hid; rw [HDE.out, HNO.out hn]; exact HW6.out
        clear hn HYES HNO
        go_wp2
        go_roundw
        case rel => exact ⟨k + 1, by go_num, by omega, by unfold Hid; rw [HA2.out, HB2.out]; exact HW6'.out⟩
        case measure => simp [intOf]; omega
    · have hE : D'.take k = D' := List.take_of_length_le (by omega)
      rw [hE] at HH
      have HHAS := (twin_run HRM.out D'.length (Nat.le_refl _)).has
      rw [List.take_length] at HHAS
      have HOKa : Hid (HouseOk (runF [] D')) := (HouseWell.nil.runF _).ok
      have HOKb : Hid (HouseOk (runF [] (ownD nm D'))) := (HouseWell.nil.runF _).ok
      clear hE
      generalize runF [] D' = Ha at *
      generalize runF [] (ownD nm D') = Hb at *
      have hqa : decide (nm ∈ namesF Ha) = decide (nm ∈ Ha.map PageS.name) := decide_eq_decide.2 namesF_mem
      have hqb : decide (nm ∈ namesF Hb) = decide (nm ∈ Ha.map PageS.name) := by rw [HHAS]; exact decide_eq_decide.2 namesF_mem
      clear HHAS
      generalize decide (nm ∈ Ha.map PageS.name) = q at *
      have hla : (namesF Ha).length ≤ 6 := by rw [namesF_length]; exact HOKa.out.len
      have hlb : (namesF Hb).length ≤ 6 := by rw [namesF_length]; exact HOKb.out.len
      have CNa : Hid (∀ W, (HTw ga ga gb w3 Ha Hb W ∧ W.cell? ⟨gn, 0, none⟩ = some (.string (bs nm))) → Calls Tryd.prog 14 #[.pointer (some ⟨ga, 0, none⟩)] W fun e w' => ∃ A c, e = .returned (.slice A (namesF Ha).length c) ∧ OwnC 9 1 w' A (namesF Ha).length c (strCells (namesF Ha)) ∧ (HTw ga ga gb w3 Ha Hb w' ∧ w'.cell? ⟨gn, 0, none⟩ = some (.string (bs nm)))) := fun W h =>
        tw_names_a ga ga gb w3 Ha Hb gn nm W h HOKa.out hB3 HGN.out
      have CNb : Hid (∀ W, (HTw ga ga gb w3 Ha Hb W ∧ W.cell? ⟨gn, 0, none⟩ = some (.string (bs nm))) → Calls Tryd.prog 14 #[.pointer (some ⟨gb, 0, none⟩)] W fun e w' => ∃ A c, e = .returned (.slice A (namesF Hb).length c) ∧ OwnC 9 1 w' A (namesF Hb).length c (strCells (namesF Hb)) ∧ (HTw ga ga gb w3 Ha Hb w' ∧ w'.cell? ⟨gn, 0, none⟩ = some (.string (bs nm)))) := fun W h => by
        refine (tw_names_a ga gb ga w3 Hb Ha gn nm W ⟨h.1.symm, h.2⟩ HOKb.out hB3 HGN.out).mono ?_
        rintro e w' ⟨A, c, rfl, ho, h1, h2⟩
        exact ⟨A, c, rfl, ho, h1.symm, h2⟩
      have CCa : Hid (∀ A c W, OwnC 9 1 W A (namesF Ha).length c (strCells (namesF Ha)) → Calls Tryd.prog 22 #[.slice A (namesF Ha).length c, .string (bs nm)] W fun e w' => e = .returned (.bool q) ∧ w' = W) := fun A c W h => by
        rw [← hqa]; exact has_strs A c (namesF Ha) nm W h (by omega)
      have CCb : Hid (∀ A c W, OwnC 9 1 W A (namesF Hb).length c (strCells (namesF Hb)) → Calls Tryd.prog 22 #[.slice A (namesF Hb).length c, .string (bs nm)] W fun e w' => e = .returned (.bool q) ∧ w' = W) := fun A c W h => by
        rw [← hqb]; exact has_strs A c (namesF Hb) nm W h (by omega)
      have hS0 : HTw ga ga gb w3 Ha Hb wr.drew ∧ wr.drew.cell? ⟨gn, 0, none⟩ = some (.string (bs nm)) := ⟨HH.out.below (Below.refl _ _).drew hB3, hcn⟩
      clear hqa hqb hla hlb
      have HEND : Hid (∀ W, HTw ga ga gb w3 Ha Hb W → Below w.heap.size w W) := fun W h => HB3.out.trans (h.out.mono (by have := HGN.out; have := HGE.out; omega))
      clear hcn
      go_wp2
      go_region_held3 (fun W : World => HTw ga ga gb w3 Ha Hb W ∧ W.cell? ⟨gn, 0, none⟩ = some (.string (bs nm))) (first | exact hS0 | assumption) (first | (go_at_call 14; go_fit (CNa.out _ (by assumption)); rintro e wa ⟨Aa, ca, rfl, hoa, hsa⟩) | (go_at_call 14; go_must (go_fit (CNb.out _ (by assumption)); rintro e wb ⟨Ab, cb, rfl, hob, hsb⟩)) | (go_at_call 22; go_fit (CCa.out _ _ _ (by assumption)); rintro e wc ⟨rfl, rfl⟩) | (go_at_call 22; go_must (go_fit (CCb.out _ _ _ (by assumption)); rintro e wc ⟨rfl, rfl⟩)))
      go_wp2
      go_ret
      exact ⟨rfl, HEND.out _ hsb.1⟩


theorem apart_walk (v : Value) (D : List Dd) (nm : List UInt8) (w : World) (hD : DeedsAt w.heap.size w v D) (hsz : D.length * 72 ≤ 140737488351232) (hT : Tab w.heap.size w) :
    Calls Tryd.prog 8 #[v, .string (bs nm)] w (ApartEnd w) := by
  by_cases h : 5 < D.length
  · exact apart_walk_many v D nm w hD hsz hT h
  · exact apart_walk_few v D nm w hD hsz hT h
end Go.Proofs.YtclebkgfogienaaDoor
