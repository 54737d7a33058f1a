/- The walk of HouseRefuses. -/
import Derived.Test.YtclebkgfogienaaDoorStrs
namespace Go.Proofs.YtclebkgfogienaaDoor
set_option linter.unusedSimpArgs false
set_option linter.unusedVariables false
open Go.RowKit

/-- two houses, apart -/
def HTw (B ga gb : Nat) (w0 : World) (Ha Hb : List PageS) (w : World) : Prop :=
  ∃ Fa Fb, IsHouse w ga Ha Fa ∧ IsHouse w gb Hb Fb ∧ (∀ x ∈ Fa, B ≤ x) ∧ (∀ x ∈ Fb, B ≤ x) ∧ Dis Fa Fb ∧ Below B w0 w
theorem HTw.symm {B ga gb : Nat} {w0 w : World} {Ha Hb : List PageS} (h : HTw B ga gb w0 Ha Hb w) : HTw B gb ga w0 Hb Ha w := by
  obtain ⟨Fa, Fb, h1, h2, h3, h4, h5, h6⟩ := h
  exact ⟨Fb, Fa, h2, h1, h4, h3, h5.symm, h6⟩
theorem HTw.below {B ga gb : Nat} {w0 w w' : World} {Ha Hb : List PageS} (h : HTw B ga gb w0 Ha Hb w) (hb : Below w.heap.size w w') (hB : B ≤ w0.heap.size) : HTw B ga gb w0 Ha Hb w' := by
  obtain ⟨Fa, Fb, h1, h2, h3, h4, h5, h6⟩ := h
  exact ⟨Fa, Fb, h1.below hb, h2.below hb, h3, h4, h5, h6.trans (hb.mono (Nat.le_trans hB h6.size))⟩
theorem HTw.out {B ga gb : Nat} {w0 w : World} {Ha Hb : List PageS} (h : HTw B ga gb w0 Ha Hb w) : Below B w0 w := by
  obtain ⟨Fa, Fb, h1, h2, h3, h4, h5, h6⟩ := h
  exact h6
theorem HTw.make {B ga gb : Nat} {w0 w1 w2 : World} {Ha Hb : List PageS} (h : HSt B ga w0 Ha w1) {Fb : List Nat} (h2 : IsHouse w2 gb Hb Fb) (hF : ∀ x ∈ Fb, w1.heap.size ≤ x) (hb : Below w1.heap.size w1 w2) (hB : B ≤ w0.heap.size) : HTw B ga gb w0 Ha Hb w2 := by
  obtain ⟨Fa, k1, k2, k3⟩ := h
  have := k3.size
  exact ⟨Fa, Fb, k1.below hb, h2, k2, fun x hx => by have := hF x hx; omega, fun x hx hx2 => by have := k1.lt x hx; have := hF x hx2; omega, k3.trans (hb.mono (by omega))⟩
theorem tw_deed (B ga gb : Nat) (w0 : World) (Ha Hb : List PageS) (w : World) (d : Dd) (ev : Value) (h : HTw B ga gb w0 Ha Hb w) (hH : HouseOk Ha) (hv : EditsAt w ev d.edits) (hl : d.edits ≠ [] → ∀ A n c, ev = .slice A n c → ∀ x ∈ blk A, x < B) (hB : B ≤ w0.heap.size) (hT : Tab B w0) :
    Calls Tryd.prog 12 #[.pointer (some ⟨ga, 0, none⟩), ddV d ev] w fun e w' =>
      e = .returned (.tuple #[.string (bs (doF Ha d).1.1), .int .i64 (doF Ha d).1.2]) ∧ HTw B ga gb w0 (doF Ha d).2 Hb w' := by
  obtain ⟨Fa, Fb, h1, h2, h3, h4, h5, h6⟩ := h
  refine (house_do_low B ga Ha Fa d ev w h1 hH hv hl (Nat.le_trans hB h6.size) (hT.on h6) h3).mono ?_
  rintro e w' ⟨rfl, F', a, b, c, hu, hf⟩
  exact ⟨rfl, F', Fb, a, h2.upd hu h5.symm, b, h4, h5.fresh hf h2.lt, h6.trans c⟩
theorem st_names (B gh : Nat) (w0 : World) (H : List PageS) (w : World) (h : ∃ F, IsHouse w gh H F) (hH : HouseOk H) :
    Calls Tryd.prog 14 #[.pointer (some ⟨gh, 0, none⟩)] w fun e w' => ∃ A c, e = .returned (.slice A (namesF H).length c) ∧
      OwnC 9 1 w' A (namesF H).length c (strCells (namesF H)) ∧ (∀ b ∈ blk A, w.heap.size ≤ b) ∧ Below w.heap.size w w' := by
  obtain ⟨F, h⟩ := h
  refine (house_names gh H F w h hH.len).mono ?_
  rintro e w' ⟨A, c, rfl, ho, hb⟩
  rw [← namesF_length H] at ho ⊢
  exact ⟨A, c, rfl, OwnC.of_row ho, owns_blk ho, hb⟩

/-- .. where the deed has just been laid into a new block, which stands behind the call -/
theorem tw_deed_box (B ga gb : Nat) (w0 : World) (Ha Hb : List PageS) (w : World) (o : Obj) (d : Dd) (ev : Value) (h : HTw B ga gb w0 Ha Hb w) (hH : HouseOk Ha) (hv : EditsAt w ev d.edits) (hl : d.edits ≠ [] → ∀ A n c, ev = .slice A n c → ∀ x ∈ blk A, x < B) (hB : B ≤ w0.heap.size) (hT : Tab B w0) :
    Calls Tryd.prog 12 #[.pointer (some ⟨ga, 0, none⟩), ddV d ev] (w.alloc o) fun e w' =>
      e = .returned (.tuple #[.string (bs (doF Ha d).1.1), .int .i64 (doF Ha d).1.2]) ∧ HTw B ga gb w0 (doF Ha d).2 Hb w' ∧ w'.heap[w.heap.size]? = some o := by
  have hba : Below w.heap.size w (w.alloc o) := (Below.refl _ _).alloc (Nat.le_refl _) _
  have h' := h.below hba hB
  obtain ⟨Fa, Fb, h1, h2, h3, h4, h5, h6⟩ := h'
  obtain ⟨Fa0, Fb0, g1, g2, g3, g4, g5, g6⟩ := h
  have j1 := g1.below hba
  have j2 := g2.below hba
  have j6 : Below B w0 (w.alloc o) := h6
  refine (house_do_low B ga Ha Fa0 d ev (w.alloc o) j1 hH (editsAt_upd hv hba) hl (Nat.le_trans hB j6.size) (hT.on j6) g3).mono ?_
  rintro e w' ⟨rfl, F', a, b, c, hu, hf⟩
  refine ⟨rfl, ⟨F', Fb0, a, j2.upd hu g5.symm, b, g4, g5.fresh hf j2.lt, j6.trans c⟩, ?_⟩
  rw [hu.block w.heap.size (by simp) (fun hm => by have := g1.lt _ hm; omega)]
  exact heap_new _ _
theorem DeedsAt.up {B B' : Nat} {w : World} {v : Value} {D : List Dd} (h : DeedsAt B w v D) (hB : B ≤ B') : DeedsAt B' w v D := by
  obtain ⟨A, c, rfl, hc, hl, h2⟩ := h
  refine ⟨A, c, rfl, hc, hl, fun hne => ?_⟩
  obtain ⟨b, off, rfl, hlt, h3⟩ := h2 hne
  refine ⟨b, off, rfl, by omega, fun i hi => ?_⟩
  obtain ⟨ev, h4⟩ := h3 i hi
  exact ⟨ev, h4.c0, h4.c1, h4.c2, h4.c3, h4.c4, h4.ed, fun hne A n c hA x hx => Nat.lt_of_lt_of_le (h4.low hne A n c hA x hx) hB⟩

def RefusesEnd (w : World) (e : Ending) (w' : World) : Prop := e = .returned (.bool true) ∧ Below w.heap.size w w'

set_option maxRecDepth 100000 in
set_option maxHeartbeats 3200000 in
theorem refuses_walk (v v2 ev : Value) (D M : List Dd) (d : Dd) (w : World) (hD : DeedsAt w.heap.size w v D) (hM : DeedsAt w.heap.size w v2 M) (hd : EditsAt w ev d.edits) (hl : d.edits ≠ [] → ∀ A n c, ev = .slice A n c → ∀ x ∈ blk A, x < w.heap.size) (hT : Tab w.heap.size w) :
    Calls Tryd.prog 3 #[v, ddV d ev, v2] w (RefusesEnd w) := by
  have HW : Hid (HouseWell (runF [] D)) := HouseWell.nil.runF D
  have HD := Lib.hid hD
  have HM := Lib.hid hM
  have HT := Lib.hid hT
  have HED := Lib.hid hd
  have HLO := Lib.hid hl
  obtain ⟨A, c, rfl, -⟩ := hD
  obtain ⟨A2, c2, rfl, hc2, hl2, hcells⟩ := hM
  obtain ⟨A3, c3, rfl, -⟩ := hd
  clear hT hl hcells
  generalize hH : runF [] D = H at *
  have HR := Lib.hid hH
  clear hH
  have HQ : Hid ((doF H d).1.2 ≠ 0 → (doF H d).2 = H) := doF_no HW.out.sync d
  obtain ⟨kd, n, nm, tx, eds⟩ := d
  simp only [ddV] at HED HLO ⊢
  rcases hr : doF H ⟨kd, n, nm, tx, eds⟩ with ⟨⟨s1, e1⟩, H1⟩
  have HDR := Lib.hid hr
  rw [hr] at HQ
  simp only at HQ
  clear hr
  have ht : e1 = 0 ∨ (e1 ≠ 0 ∧ H1 = H) := by
    by_cases h : e1 = 0
    · exact .inl h
    · exact .inr ⟨h, HQ.out h⟩
  clear HQ
  go_enter Tryd.func3, Tryd.ntmps3
  go_wp2_with fail
  have hb0 : Below w.heap.size w (w.alloc (.cells #[.int .i64 kd, .int .i64 n, .string (bs nm), .string (bs tx), .slice A3 eds.length c3] 25)) := (Below.refl _ _).alloc (Nat.le_refl _) _
  have HB0 := Lib.hid hb0
  have hs0 : (w.alloc (.cells #[.int .i64 kd, .int .i64 n, .string (bs nm), .string (bs tx), .slice A3 eds.length c3] 25)).heap.size = w.heap.size + 1 := by simp
  have HS0 := Lib.hid hs0
  have hk0 := heap_new w (.cells #[.int .i64 kd, .int .i64 n, .string (bs nm), .string (bs tx), .slice A3 eds.length c3] 25)
  have HK0 := Lib.hid hk0
  clear hb0 hs0 hk0
  generalize w.alloc (.cells #[.int .i64 kd, .int .i64 n, .string (bs nm), .string (bs tx), .slice A3 eds.length c3] 25) = w0 at *
  generalize hg : w.heap.size = g at *
  have HG := Lib.hid hg
  clear hg
  have hgw : g ≤ w.heap.size := Nat.le_of_eq HG.out.symm
  have hle : g ≤ w0.heap.size := by have := HS0.out; omega
  have HT0 : Hid (Tab w0.heap.size w0) := ((HT.out.on HB0.out)).up hle
  have HD0 : Hid (DeedsAt w0.heap.size w0 (.slice A D.length c) D) := (HD.out.on hgw HB0.out).up hle
  have HM0 : Hid (DeedsAt w0.heap.size w0 (.slice A2 M.length c2) M) := (HM.out.on hgw HB0.out).up hle
  have HCE : Hid (M ≠ [] → ∃ b off, A2 = some ⟨b, off, none⟩ ∧ b < w0.heap.size ∧ ∀ i (h : i < M.length), ∃ ev, DeedAt w0.heap.size w0 b (off + i * 5) M[i] ev) := by
    obtain ⟨A', c', he, _, _, h⟩ := HM0.out
    cases he
    exact h
  have HED0 : Hid (EditsAt w0 (.slice A3 eds.length c3) eds) := editsAt_low HED.out HLO.out hgw HB0.out
  have HLO0 : Hid (eds ≠ [] → ∀ A n c, Value.slice A3 eds.length c3 = .slice A n c → ∀ x ∈ blk A, x < w0.heap.size) := fun h A n c hA x hx => Nat.lt_of_lt_of_le (HLO.out h A n c hA x hx) hle
  refine (keep_houses w0.heap.size w0 (Nat.le_refl _) HT0.out).mono ?_
  rintro e w1 ⟨rfl, hb1⟩
  have HB1 := Lib.hid hb1
  clear hb1
  go_wp2_with fail
  refine (st_worked w0.heap.size (.slice A D.length c) D w0 w1 HD0.out HB1.out (Nat.le_refl _) HT0.out).mono ?_
  rintro e w2 ⟨ga, rfl, hs⟩
  rw [HR.out] at hs
  have HS2 := Lib.hid hs
  clear hs
  have CW := Lib.hid (keep_worked w0.heap.size (.slice A D.length c) D w2 (HD0.out.on (Nat.le_refl _) HS2.out.out) HS2.out.out.size (HT0.out.on HS2.out.out))
  rw [HR.out] at CW
  go_wp2_with fail
  refine CW.out.mono ?_
  rintro e w3 ⟨rfl, Fb, hh, hf, hb⟩
  generalize hgb : w2.heap.size = gb at *
  have HW3 : Hid (HTw w0.heap.size ga gb w0 H H w3) := HTw.make HS2.out hh (by rw [hgb]; exact hf) (by rw [hgb]; exact hb) (Nat.le_refl _)
  clear hh hf hb CW hgb
  have HK3 : Hid (w3.heap[g]? = some (.cells #[.int .i64 kd, .int .i64 n, .string (bs nm), .string (bs tx), .slice A3 eds.length c3] 25)) := by
    have := HW3.out.out.block g (by have := HS0.out; omega)
    exact this.trans HK0.out
  have p0 : w3.cell? ⟨g, 0, none⟩ = some (.int .i64 kd) := (blk_cell HK3.out 0).trans rfl
  have p1 : w3.cell? ⟨g, 1, none⟩ = some (.int .i64 n) := (blk_cell HK3.out 1).trans rfl
  have p2 : w3.cell? ⟨g, 2, none⟩ = some (.string (bs nm)) := (blk_cell HK3.out 2).trans rfl
  have p3 : w3.cell? ⟨g, 3, none⟩ = some (.string (bs tx)) := (blk_cell HK3.out 3).trans rfl
  have p4 : w3.cell? ⟨g, 4, none⟩ = some (.slice A3 eds.length c3) := (blk_cell HK3.out 4).trans rfl
  have C := Lib.hid (tw_deed w0.heap.size ga gb w0 H H w3 ⟨kd, n, nm, tx, eds⟩ (.slice A3 eds.length c3) HW3.out HW.out.ok (editsAt_low HED0.out HLO0.out (Nat.le_refl _) HW3.out.out) HLO0.out (Nat.le_refl _) HT0.out)
  rw [HDR.out] at C
  simp only [ddV] at C
  go_wp2_with fail
  refine C.out.mono ?_
  rintro e w4 ⟨rfl, hs⟩
  have HW4 := Lib.hid hs
  clear hs C p0 p1 p2 p3 p4
  rcases ht with rfl | ⟨hne, rfl⟩
  · go_wp2
    go_ret
    have := HW4.out.out
    refine ⟨rfl, ?_⟩
    rw [HG.out]
    exact HB0.out.trans (this.mono hle)
  · have q1 : (e1 == 0) = false := by simpa using hne
    clear hne
    go_wp2
    go_loopw [39] (fun iv wr => ∃ (k : Nat), iv = .int .i64 k ∧ k ≤ M.length ∧ Hid (HTw w0.heap.size ga gb w0 (runF H1 (M.take k)) (runF H1 (M.take k)) wr)) (fun iv _ => M.length - (intOf iv).toNat)
    case atStart => exact ⟨0, rfl, by omega, HW4.out⟩
    case round =>
      obtain ⟨k, rfl, hk, HH⟩ := hrel
      by_cases hlt : k < M.length
      · obtain ⟨b, off, rfl, hbB, hall⟩ := HCE.out (by intro h; simp [h] at hlt)
        obtain ⟨ev, hd⟩ := hall k hlt
        have hd' := hd.on hbB (Nat.le_refl _) HH.out.out
        have HDE : Hid (runF H1 (M.take (k + 1)) = (doF (runF H1 (M.take k)) M[k]).2) := by unfold Hid; rw [List.take_succ_eq_append_getElem hlt, runF_snoc]
        have HOK : Hid (HouseOk (runF H1 (M.take k))) := runF_ok HW.out.ok _
        clear hall
        generalize M[k] = d at *
        generalize runF H1 (M.take k) = Hk at *
        obtain ⟨kd, n, nm, tx, eds⟩ := d
        have q0 := hd'.c0
        have q1 := hd'.c1
        have q2 := hd'.c2
        have q3 := hd'.c3
        have q4 := hd'.c4
        have HED := Lib.hid hd.ed
        have HLO := Lib.hid hd.low
        simp only at q0 q1 q2 q3
        obtain ⟨Ae, ce, hev, -⟩ := hd'.ed
        subst hev
        clear hd' hd
        have C := Lib.hid (tw_deed_box w0.heap.size ga gb w0 Hk Hk wr (.cells #[.int .i64 kd, .int .i64 n, .string (bs nm), .string (bs tx), .slice Ae eds.length ce] 25) ⟨kd, n, nm, tx, eds⟩ (.slice Ae eds.length ce) HH.out HOK.out (editsAt_low HED.out HLO.out (Nat.le_refl _) HH.out.out) HLO.out (Nat.le_refl _) HT0.out)
        simp only [ddV] at C
        go_wp2_with fail
        refine C.out.mono ?_
        rintro e w5 ⟨rfl, hs, hbx⟩
        have HW5 := Lib.hid hs
        have HBX := Lib.hid hbx
        clear hs hbx C q0 q1 q2 q3 q4
        have p0 : w5.cell? ⟨wr.heap.size, 0, none⟩ = some (.int .i64 kd) := (blk_cell HBX.out 0).trans rfl
        have p1 : w5.cell? ⟨wr.heap.size, 1, none⟩ = some (.int .i64 n) := (blk_cell HBX.out 1).trans rfl
        have p2 : w5.cell? ⟨wr.heap.size, 2, none⟩ = some (.string (bs nm)) := (blk_cell HBX.out 2).trans rfl
        have p3 : w5.cell? ⟨wr.heap.size, 3, none⟩ = some (.string (bs tx)) := (blk_cell HBX.out 3).trans rfl
        have p4 : w5.cell? ⟨wr.heap.size, 4, none⟩ = some (.slice Ae eds.length ce) := (blk_cell HBX.out 4).trans rfl
        have C := Lib.hid (tw_deed w0.heap.size gb ga w0 Hk (doF Hk ⟨kd, n, nm, tx, eds⟩).2 w5 ⟨kd, n, nm, tx, eds⟩ (.slice Ae eds.length ce) HW5.out.symm HOK.out (editsAt_low HED.out HLO.out (Nat.le_refl _) HW5.out.out) HLO.out (Nat.le_refl _) HT0.out)
        simp only [ddV] at C
        generalize hR : (doF Hk ⟨kd, n, nm, tx, eds⟩) = R at *
        obtain ⟨⟨rs, re⟩, Hn⟩ := R
        have HRE := Lib.hid hR
        clear hR
        simp only at C
        go_wp2_with fail
        refine C.out.mono ?_
        rintro e w6 ⟨rfl, hs⟩
        have HW6 := Lib.hid hs.symm
        clear hs C p0 p1 p2 p3 p4
        go_wp2
        go_roundw
        case rel => exact ⟨k + 1, by go_num, by omega, by unfold Hid; rw [HDE.out]; exact HW6.out⟩
        case measure => simp [intOf]; omega
      · have hE : M.take k = M := List.take_of_length_le (by omega)
        rw [hE] at HH
        have HOK : Hid (HouseOk (runF H1 M)) := runF_ok HW.out.ok _
        generalize runF H1 M = Hk at *
        go_wp2_with fail
        refine (st_names w0.heap.size ga w0 Hk wr (by obtain ⟨Fa, Fb, h1, _⟩ := HH.out; exact ⟨Fa, h1⟩) HOK.out).mono ?_
        rintro e w5 ⟨Aa, ca, rfl, ho, hlo, hb⟩
        have HW5 := Lib.hid (HH.out.below hb (Nat.le_refl _))
        have HOA := Lib.hid ho
        clear ho hlo hb
        go_wp2_with fail
        refine (st_names w0.heap.size gb w0 Hk w5 (by obtain ⟨Fa, Fb, _, h1, _⟩ := HW5.out; exact ⟨Fb, h1⟩) HOK.out).mono ?_
        rintro e w6 ⟨Ab, cb, rfl, ho, hlo, hb⟩
        have HW6 := Lib.hid (HW5.out.below hb (Nat.le_refl _))
        have HOB := Lib.hid ho
        have HOA6 := Lib.hid (HOA.out.below hb)
        clear ho hlo hb
        have CE := Lib.hid (eq_strs Aa Ab ca cb (namesF Hk) (namesF Hk) w6 HOA6.out HOB.out (by rw [namesF_length]; have := HOK.out.len; omega))
        have hdec : decide (namesF Hk = namesF Hk) = true := decide_eq_true rfl
        rw [hdec] at CE
        clear hdec
        go_wp2_with fail
        refine CE.out.mono ?_
        rintro e w7 ⟨rfl, hb⟩
        have hb7 := (HW6.out.below hb (Nat.le_refl _)).out
        clear hb
        go_wp2
        go_ret
        refine ⟨rfl, ?_⟩
        rw [HG.out]
        exact HB0.out.trans (hb7.mono hle)
end Go.Proofs.YtclebkgfogienaaDoor
