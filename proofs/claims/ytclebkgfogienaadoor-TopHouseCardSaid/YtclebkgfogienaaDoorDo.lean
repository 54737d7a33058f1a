/- What a call of House.Do leaves, kind by kind. -/
import Derived.Test.YtclebkgfogienaaDoorDoP
namespace Go.Proofs.YtclebkgfogienaaDoor
set_option linter.unusedSimpArgs false
set_option linter.unusedVariables false
open Go.RowKit

set_option maxRecDepth 100000 in
set_option maxHeartbeats 1600000 in
theorem house_do_edit (B gh b off c k : Nat) (R : List PgM) (n : Int) (nm tx : List UInt8) (eds : List Ed) (ev : Value) (w : World) (hM : IsHouseM w gh R (some ⟨b, off, none⟩) c) (h6 : R.length ≤ 6) (hkl : k < R.length) (hidx : idxI (R.map PgM.s) nm = k) (hnm : nameE nm = 0) (hP : PgOk R[k].s.E R[k].s.L) (hv : EditsAt w ev eds) (hB : B ≤ w.heap.size) (hT : Tab B w) (hF : ∀ x ∈ R[k].fp, B ≤ x) (hvf : eds ≠ [] → ∀ A n c, ev = .slice A n c → ∀ x ∈ blk A, x ∉ R[k].fp) :
    Calls Tryd.prog 12 #[.pointer (some ⟨gh, 0, none⟩), .agg #[.int .i64 2, .int .i64 n, .string (bs nm), .string (bs tx), ev]] w (HsPost gh ((R.map PgM.s).set k ⟨R[k].s.name, (pgEdit R[k].s.E R[k].s.L eds).2.1, (pgEdit R[k].s.E R[k].s.L eds).2.2⟩) (hfp gh R (some ⟨b, off, none⟩)) w (.tuple #[.string ByteArray.empty, .int .i64 (pgEdit R[k].s.E R[k].s.L eds).1])) := by
  generalize hRR : pgEdit R[k].s.E R[k].s.L eds = RR
  obtain ⟨r, E', L'⟩ := RR
  have HRR := Lib.hid hRR
  simp only
  clear hRR
  have HV := Lib.hid hv
  have HT := Lib.hid hT
  have HF := Lib.hid hF
  have HVF := Lib.hid hvf
  clear hv hT hF hvf
  have HM := Lib.hid hM
  have HX := Lib.hid hidx
  have HN := Lib.hid hnm
  have HPK := Lib.hid hP
  have hgl := blk_lt hM.cell
  clear hM hidx hnm hP
  go_enter Tryd.func12, Tryd.ntmps12
  go_wp2_with fail
  refine (house_name nm _).mono ?_
  rw [HN.out]
  rintro e w1 ⟨rfl, hb1⟩
  have hB1 : Below w.heap.size w w1 := ((Below.refl _ _).alloc (Nat.le_refl _) _).trans (hb1.mono (by simp))
  have hs1 : w.heap.size + 1 ≤ w1.heap.size := by have := hb1.size; simp at this; exact this
  have hd1 := (hb1.block w.heap.size (by simp)).trans (heap_new w (.cells #[.int .i64 2, .int .i64 n, .string (bs nm), .string (bs tx), ev] 25))
  have hM1 := HM.out.upd (Upd.of (S := []) hB1) (by simp)
  have HM1 := Lib.hid hM1
  have HB1 := Lib.hid hB1
  have HD1 := Lib.hid hd1
  have HS1 := Lib.hid hs1
  have c0 : w1.cell? ⟨gh, 0, none⟩ = some (.slice (some ⟨b, off, none⟩) R.length c) := (blk_cell hM1.cell 0).trans rfl
  have k0 : w1.cell? ⟨w.heap.size, 0, none⟩ = some (.int .i64 2) := (blk_cell hd1 0).trans rfl
  have k2 : w1.cell? ⟨w.heap.size, 2, none⟩ = some (.string (bs nm)) := (blk_cell hd1 2).trans rfl
  clear hM1 hb1 hB1 hs1 hd1
  go_wp2_with fail
  refine (house_index (some ⟨b, off, none⟩) c R nm w.heap.size w1 HM1.out.own h6 k2 (by have := HS1.out; omega)).mono ?_
  rw [HX.out]
  rintro e w2 ⟨rfl, hb2⟩
  have hB2 := HB1.out.trans (hb2.mono HB1.out.size)
  have hd2 := (hb2.block w.heap.size (by have := HS1.out; omega)).trans HD1.out
  have hM2 := HM.out.upd (Upd.of (S := []) hB2) (by simp)
  have HM2 := Lib.hid hM2
  have HB2 := Lib.hid hB2
  have HD2 := Lib.hid hd2
  have HS2 : Hid (w.heap.size + 1 ≤ w2.heap.size) := Nat.le_trans HS1.out hb2.size
  obtain ⟨hat, hbf⟩ := hM2.at hkl
  have HAT := Lib.hid hat
  have HBF := Lib.hid hbf
  have HPG := Lib.hid (hM2.pg _ (List.getElem_mem hkl))
  have g0 : w2.cell? ⟨w.heap.size, 0, none⟩ = some (.int .i64 2) := (blk_cell hd2 0).trans rfl
  have g1 : w2.cell? ⟨w.heap.size, 1, none⟩ = some (.int .i64 n) := (blk_cell hd2 1).trans rfl
  have g3 : w2.cell? ⟨w.heap.size, 3, none⟩ = some (.string (bs tx)) := (blk_cell hd2 3).trans rfl
  have g4 : w2.cell? ⟨w.heap.size, 4, none⟩ = some ev := (blk_cell hd2 4).trans rfl
  have d0 : w2.cell? ⟨gh, 0, none⟩ = some (.slice (some ⟨b, off, none⟩) R.length c) := (blk_cell hM2.cell 0).trans rfl
  have d1 : ∀ i, w2.frozen? ⟨gh, i, none⟩ = false := fun i => blk_frozen hM2.cell i
  have p1 := hat.c1
  have p2 := hat.c2
  have hbl := hat.lt
  have i1 : (k : Int) < (R.length : Int) := by omega
  have i2 : ¬ (k : Int) < 0 := by omega
  clear hM2 hd2 hB2 hb2 hat hbf c0 k0 k2
  have C := Lib.hid (page_edit B b (off + k * 3) R[k].s.name R[k].ge R[k].gl R[k].s.E R[k].s.L R[k].fp ev eds w2 HAT.out HBF.out HPG.out HPK.out (editsAt_upd HV.out HB2.out) (Nat.le_trans hB HB2.out.size) (HT.out.to hB HB2.out) HF.out HVF.out)
  rw [HRR.out] at C
  simp only at C
  go_wp2_with fail
  refine C.out.mono ?_
  rintro e w3 ⟨rfl, hpost⟩
  have T := Lib.hid ((house_turn (v := .int .i64 r) (e := .returned (.int .i64 r)) HM2.out hkl (PgPost.pk HAT.out HBF.out ⟨rfl, hpost⟩)).from HB2.out)
  clear hpost
  go_wp2
  go_ret2
  exact T.out.then (Below.refl _ _)

set_option maxRecDepth 100000 in
set_option maxHeartbeats 1600000 in
theorem house_do_undo (B gh b off c k : Nat) (R : List PgM) (n : Int) (nm tx : List UInt8) (eds : List Ed) (ev : Value) (w : World) (hM : IsHouseM w gh R (some ⟨b, off, none⟩) c) (h6 : R.length ≤ 6) (hkl : k < R.length) (hidx : idxI (R.map PgM.s) nm = k) (hnm : nameE nm = 0) (hP : PgOk R[k].s.E R[k].s.L) :
    Calls Tryd.prog 12 #[.pointer (some ⟨gh, 0, none⟩), .agg #[.int .i64 3, .int .i64 n, .string (bs nm), .string (bs tx), ev]] w (HsPost gh ((R.map PgM.s).set k ⟨R[k].s.name, (pgStep R[k].s.E R[k].s.L true).2.1, (pgStep R[k].s.E R[k].s.L true).2.2⟩) (hfp gh R (some ⟨b, off, none⟩)) w (.tuple #[.string ByteArray.empty, .int .i64 (pgStep R[k].s.E R[k].s.L true).1])) := by
  generalize hRR : pgStep R[k].s.E R[k].s.L true = RR
  obtain ⟨r, E', L'⟩ := RR
  have HRR := Lib.hid hRR
  simp only
  clear hRR
  have HM := Lib.hid hM
  have HX := Lib.hid hidx
  have HN := Lib.hid hnm
  have HPK := Lib.hid hP
  have hgl := blk_lt hM.cell
  clear hM hidx hnm hP
  go_enter Tryd.func12, Tryd.ntmps12
  go_wp2_with fail
  refine (house_name nm _).mono ?_
  rw [HN.out]
  rintro e w1 ⟨rfl, hb1⟩
  have hB1 : Below w.heap.size w w1 := ((Below.refl _ _).alloc (Nat.le_refl _) _).trans (hb1.mono (by simp))
  have hs1 : w.heap.size + 1 ≤ w1.heap.size := by have := hb1.size; simp at this; exact this
  have hd1 := (hb1.block w.heap.size (by simp)).trans (heap_new w (.cells #[.int .i64 3, .int .i64 n, .string (bs nm), .string (bs tx), ev] 25))
  have hM1 := HM.out.upd (Upd.of (S := []) hB1) (by simp)
  have HM1 := Lib.hid hM1
  have HB1 := Lib.hid hB1
  have HD1 := Lib.hid hd1
  have HS1 := Lib.hid hs1
  have c0 : w1.cell? ⟨gh, 0, none⟩ = some (.slice (some ⟨b, off, none⟩) R.length c) := (blk_cell hM1.cell 0).trans rfl
  have k0 : w1.cell? ⟨w.heap.size, 0, none⟩ = some (.int .i64 3) := (blk_cell hd1 0).trans rfl
  have k2 : w1.cell? ⟨w.heap.size, 2, none⟩ = some (.string (bs nm)) := (blk_cell hd1 2).trans rfl
  clear hM1 hb1 hB1 hs1 hd1
  go_wp2_with fail
  refine (house_index (some ⟨b, off, none⟩) c R nm w.heap.size w1 HM1.out.own h6 k2 (by have := HS1.out; omega)).mono ?_
  rw [HX.out]
  rintro e w2 ⟨rfl, hb2⟩
  have hB2 := HB1.out.trans (hb2.mono HB1.out.size)
  have hd2 := (hb2.block w.heap.size (by have := HS1.out; omega)).trans HD1.out
  have hM2 := HM.out.upd (Upd.of (S := []) hB2) (by simp)
  have HM2 := Lib.hid hM2
  have HB2 := Lib.hid hB2
  have HD2 := Lib.hid hd2
  have HS2 : Hid (w.heap.size + 1 ≤ w2.heap.size) := Nat.le_trans HS1.out hb2.size
  obtain ⟨hat, hbf⟩ := hM2.at hkl
  have HAT := Lib.hid hat
  have HBF := Lib.hid hbf
  have HPG := Lib.hid (hM2.pg _ (List.getElem_mem hkl))
  have g0 : w2.cell? ⟨w.heap.size, 0, none⟩ = some (.int .i64 3) := (blk_cell hd2 0).trans rfl
  have g1 : w2.cell? ⟨w.heap.size, 1, none⟩ = some (.int .i64 n) := (blk_cell hd2 1).trans rfl
  have g3 : w2.cell? ⟨w.heap.size, 3, none⟩ = some (.string (bs tx)) := (blk_cell hd2 3).trans rfl
  have g4 : w2.cell? ⟨w.heap.size, 4, none⟩ = some ev := (blk_cell hd2 4).trans rfl
  have d0 : w2.cell? ⟨gh, 0, none⟩ = some (.slice (some ⟨b, off, none⟩) R.length c) := (blk_cell hM2.cell 0).trans rfl
  have d1 : ∀ i, w2.frozen? ⟨gh, i, none⟩ = false := fun i => blk_frozen hM2.cell i
  have p1 := hat.c1
  have p2 := hat.c2
  have hbl := hat.lt
  have i1 : (k : Int) < (R.length : Int) := by omega
  have i2 : ¬ (k : Int) < 0 := by omega
  clear hM2 hd2 hB2 hb2 hat hbf c0 k0 k2
  have C := Lib.hid (page_undo b (off + k * 3) R[k].s.name R[k].ge R[k].gl R[k].s.E R[k].s.L R[k].fp w2 HAT.out HBF.out HPG.out HPK.out)
  rw [HRR.out] at C
  simp only at C
  go_wp2_with fail
  refine C.out.mono ?_
  rintro e w3 ⟨rfl, hpost⟩
  have T := Lib.hid ((house_turn (v := .int .i64 r) (e := .returned (.int .i64 r)) HM2.out hkl (PgPost.pk HAT.out HBF.out ⟨rfl, hpost⟩)).from HB2.out)
  clear hpost
  go_wp2
  go_ret2
  exact T.out.then (Below.refl _ _)

set_option maxRecDepth 100000 in
set_option maxHeartbeats 1600000 in
theorem house_do_redo (B gh b off c k : Nat) (R : List PgM) (n : Int) (nm tx : List UInt8) (eds : List Ed) (ev : Value) (w : World) (hM : IsHouseM w gh R (some ⟨b, off, none⟩) c) (h6 : R.length ≤ 6) (hkl : k < R.length) (hidx : idxI (R.map PgM.s) nm = k) (hnm : nameE nm = 0) (hP : PgOk R[k].s.E R[k].s.L) :
    Calls Tryd.prog 12 #[.pointer (some ⟨gh, 0, none⟩), .agg #[.int .i64 4, .int .i64 n, .string (bs nm), .string (bs tx), ev]] w (HsPost gh ((R.map PgM.s).set k ⟨R[k].s.name, (pgStep R[k].s.E R[k].s.L false).2.1, (pgStep R[k].s.E R[k].s.L false).2.2⟩) (hfp gh R (some ⟨b, off, none⟩)) w (.tuple #[.string ByteArray.empty, .int .i64 (pgStep R[k].s.E R[k].s.L false).1])) := by
  generalize hRR : pgStep R[k].s.E R[k].s.L false = RR
  obtain ⟨r, E', L'⟩ := RR
  have HRR := Lib.hid hRR
  simp only
  clear hRR
  have HM := Lib.hid hM
  have HX := Lib.hid hidx
  have HN := Lib.hid hnm
  have HPK := Lib.hid hP
  have hgl := blk_lt hM.cell
  clear hM hidx hnm hP
  go_enter Tryd.func12, Tryd.ntmps12
  go_wp2_with fail
  refine (house_name nm _).mono ?_
  rw [HN.out]
  rintro e w1 ⟨rfl, hb1⟩
  have hB1 : Below w.heap.size w w1 := ((Below.refl _ _).alloc (Nat.le_refl _) _).trans (hb1.mono (by simp))
  have hs1 : w.heap.size + 1 ≤ w1.heap.size := by have := hb1.size; simp at this; exact this
  have hd1 := (hb1.block w.heap.size (by simp)).trans (heap_new w (.cells #[.int .i64 4, .int .i64 n, .string (bs nm), .string (bs tx), ev] 25))
  have hM1 := HM.out.upd (Upd.of (S := []) hB1) (by simp)
  have HM1 := Lib.hid hM1
  have HB1 := Lib.hid hB1
  have HD1 := Lib.hid hd1
  have HS1 := Lib.hid hs1
  have c0 : w1.cell? ⟨gh, 0, none⟩ = some (.slice (some ⟨b, off, none⟩) R.length c) := (blk_cell hM1.cell 0).trans rfl
  have k0 : w1.cell? ⟨w.heap.size, 0, none⟩ = some (.int .i64 4) := (blk_cell hd1 0).trans rfl
  have k2 : w1.cell? ⟨w.heap.size, 2, none⟩ = some (.string (bs nm)) := (blk_cell hd1 2).trans rfl
  clear hM1 hb1 hB1 hs1 hd1
  go_wp2_with fail
  refine (house_index (some ⟨b, off, none⟩) c R nm w.heap.size w1 HM1.out.own h6 k2 (by have := HS1.out; omega)).mono ?_
  rw [HX.out]
  rintro e w2 ⟨rfl, hb2⟩
  have hB2 := HB1.out.trans (hb2.mono HB1.out.size)
  have hd2 := (hb2.block w.heap.size (by have := HS1.out; omega)).trans HD1.out
  have hM2 := HM.out.upd (Upd.of (S := []) hB2) (by simp)
  have HM2 := Lib.hid hM2
  have HB2 := Lib.hid hB2
  have HD2 := Lib.hid hd2
  have HS2 : Hid (w.heap.size + 1 ≤ w2.heap.size) := Nat.le_trans HS1.out hb2.size
  obtain ⟨hat, hbf⟩ := hM2.at hkl
  have HAT := Lib.hid hat
  have HBF := Lib.hid hbf
  have HPG := Lib.hid (hM2.pg _ (List.getElem_mem hkl))
  have g0 : w2.cell? ⟨w.heap.size, 0, none⟩ = some (.int .i64 4) := (blk_cell hd2 0).trans rfl
  have g1 : w2.cell? ⟨w.heap.size, 1, none⟩ = some (.int .i64 n) := (blk_cell hd2 1).trans rfl
  have g3 : w2.cell? ⟨w.heap.size, 3, none⟩ = some (.string (bs tx)) := (blk_cell hd2 3).trans rfl
  have g4 : w2.cell? ⟨w.heap.size, 4, none⟩ = some ev := (blk_cell hd2 4).trans rfl
  have d0 : w2.cell? ⟨gh, 0, none⟩ = some (.slice (some ⟨b, off, none⟩) R.length c) := (blk_cell hM2.cell 0).trans rfl
  have d1 : ∀ i, w2.frozen? ⟨gh, i, none⟩ = false := fun i => blk_frozen hM2.cell i
  have p1 := hat.c1
  have p2 := hat.c2
  have hbl := hat.lt
  have i1 : (k : Int) < (R.length : Int) := by omega
  have i2 : ¬ (k : Int) < 0 := by omega
  clear hM2 hd2 hB2 hb2 hat hbf c0 k0 k2
  have C := Lib.hid (page_redo b (off + k * 3) R[k].s.name R[k].ge R[k].gl R[k].s.E R[k].s.L R[k].fp w2 HAT.out HBF.out HPG.out HPK.out)
  rw [HRR.out] at C
  simp only at C
  go_wp2_with fail
  refine C.out.mono ?_
  rintro e w3 ⟨rfl, hpost⟩
  have T := Lib.hid ((house_turn (v := .int .i64 r) (e := .returned (.int .i64 r)) HM2.out hkl (PgPost.pk HAT.out HBF.out ⟨rfl, hpost⟩)).from HB2.out)
  clear hpost
  go_wp2
  go_ret2
  exact T.out.then (Below.refl _ _)

set_option maxRecDepth 100000 in
set_option maxHeartbeats 1600000 in
theorem house_do_pack (B gh b off c k : Nat) (R : List PgM) (n : Int) (nm tx : List UInt8) (eds : List Ed) (ev : Value) (w : World) (hM : IsHouseM w gh R (some ⟨b, off, none⟩) c) (h6 : R.length ≤ 6) (hkl : k < R.length) (hidx : idxI (R.map PgM.s) nm = k) (hnm : nameE nm = 0) (hP : PgOk R[k].s.E R[k].s.L) :
    Calls Tryd.prog 12 #[.pointer (some ⟨gh, 0, none⟩), .agg #[.int .i64 6, .int .i64 n, .string (bs nm), .string (bs tx), ev]] w (HsPost gh ((R.map PgM.s).set k ⟨R[k].s.name, (pgPack R[k].s.E R[k].s.L n).2.1, (pgPack R[k].s.E R[k].s.L n).2.2⟩) (hfp gh R (some ⟨b, off, none⟩)) w (.tuple #[.string ByteArray.empty, .int .i64 (pgPack R[k].s.E R[k].s.L n).1])) := by
  generalize hRR : pgPack R[k].s.E R[k].s.L n = RR
  obtain ⟨r, E', L'⟩ := RR
  have HRR := Lib.hid hRR
  simp only
  clear hRR
  have HM := Lib.hid hM
  have HX := Lib.hid hidx
  have HN := Lib.hid hnm
  have HPK := Lib.hid hP
  have hgl := blk_lt hM.cell
  clear hM hidx hnm hP
  go_enter Tryd.func12, Tryd.ntmps12
  go_wp2_with fail
  refine (house_name nm _).mono ?_
  rw [HN.out]
  rintro e w1 ⟨rfl, hb1⟩
  have hB1 : Below w.heap.size w w1 := ((Below.refl _ _).alloc (Nat.le_refl _) _).trans (hb1.mono (by simp))
  have hs1 : w.heap.size + 1 ≤ w1.heap.size := by have := hb1.size; simp at this; exact this
  have hd1 := (hb1.block w.heap.size (by simp)).trans (heap_new w (.cells #[.int .i64 6, .int .i64 n, .string (bs nm), .string (bs tx), ev] 25))
  have hM1 := HM.out.upd (Upd.of (S := []) hB1) (by simp)
  have HM1 := Lib.hid hM1
  have HB1 := Lib.hid hB1
  have HD1 := Lib.hid hd1
  have HS1 := Lib.hid hs1
  have c0 : w1.cell? ⟨gh, 0, none⟩ = some (.slice (some ⟨b, off, none⟩) R.length c) := (blk_cell hM1.cell 0).trans rfl
  have k0 : w1.cell? ⟨w.heap.size, 0, none⟩ = some (.int .i64 6) := (blk_cell hd1 0).trans rfl
  have k2 : w1.cell? ⟨w.heap.size, 2, none⟩ = some (.string (bs nm)) := (blk_cell hd1 2).trans rfl
  clear hM1 hb1 hB1 hs1 hd1
  go_wp2_with fail
  refine (house_index (some ⟨b, off, none⟩) c R nm w.heap.size w1 HM1.out.own h6 k2 (by have := HS1.out; omega)).mono ?_
  rw [HX.out]
  rintro e w2 ⟨rfl, hb2⟩
  have hB2 := HB1.out.trans (hb2.mono HB1.out.size)
  have hd2 := (hb2.block w.heap.size (by have := HS1.out; omega)).trans HD1.out
  have hM2 := HM.out.upd (Upd.of (S := []) hB2) (by simp)
  have HM2 := Lib.hid hM2
  have HB2 := Lib.hid hB2
  have HD2 := Lib.hid hd2
  have HS2 : Hid (w.heap.size + 1 ≤ w2.heap.size) := Nat.le_trans HS1.out hb2.size
  obtain ⟨hat, hbf⟩ := hM2.at hkl
  have HAT := Lib.hid hat
  have HBF := Lib.hid hbf
  have HPG := Lib.hid (hM2.pg _ (List.getElem_mem hkl))
  have g0 : w2.cell? ⟨w.heap.size, 0, none⟩ = some (.int .i64 6) := (blk_cell hd2 0).trans rfl
  have g1 : w2.cell? ⟨w.heap.size, 1, none⟩ = some (.int .i64 n) := (blk_cell hd2 1).trans rfl
  have g3 : w2.cell? ⟨w.heap.size, 3, none⟩ = some (.string (bs tx)) := (blk_cell hd2 3).trans rfl
  have g4 : w2.cell? ⟨w.heap.size, 4, none⟩ = some ev := (blk_cell hd2 4).trans rfl
  have d0 : w2.cell? ⟨gh, 0, none⟩ = some (.slice (some ⟨b, off, none⟩) R.length c) := (blk_cell hM2.cell 0).trans rfl
  have d1 : ∀ i, w2.frozen? ⟨gh, i, none⟩ = false := fun i => blk_frozen hM2.cell i
  have p1 := hat.c1
  have p2 := hat.c2
  have hbl := hat.lt
  have i1 : (k : Int) < (R.length : Int) := by omega
  have i2 : ¬ (k : Int) < 0 := by omega
  clear hM2 hd2 hB2 hb2 hat hbf c0 k0 k2
  have C := Lib.hid (page_pack b (off + k * 3) R[k].s.name R[k].ge R[k].gl R[k].s.E R[k].s.L R[k].fp n w2 HAT.out HBF.out HPG.out HPK.out)
  rw [HRR.out] at C
  simp only at C
  go_wp2_with fail
  refine C.out.mono ?_
  rintro e w3 ⟨rfl, hpost⟩
  have T := Lib.hid ((house_turn (v := .int .i64 r) (e := .returned (.int .i64 r)) HM2.out hkl (⟨rfl, hpost⟩)).from HB2.out)
  clear hpost
  go_wp2
  go_ret2
  exact T.out.then (Below.refl _ _)

set_option maxRecDepth 100000 in
set_option maxHeartbeats 1600000 in
theorem house_do_save (B gh b off c k : Nat) (R : List PgM) (n : Int) (nm tx : List UInt8) (eds : List Ed) (ev : Value) (w : World) (hM : IsHouseM w gh R (some ⟨b, off, none⟩) c) (h6 : R.length ≤ 6) (hkl : k < R.length) (hidx : idxI (R.map PgM.s) nm = k) (hnm : nameE nm = 0) (hP : PgOk R[k].s.E R[k].s.L) :
    Calls Tryd.prog 12 #[.pointer (some ⟨gh, 0, none⟩), .agg #[.int .i64 5, .int .i64 n, .string (bs nm), .string (bs tx), ev]] w (HsPost gh ((R.map PgM.s).set k ⟨R[k].s.name, R[k].s.E, lfSave R[k].s.L⟩) (hfp gh R (some ⟨b, off, none⟩)) w (.tuple #[.string ByteArray.empty, .int .i64 0])) := by
  have HM := Lib.hid hM
  have HX := Lib.hid hidx
  have HN := Lib.hid hnm
  have HPK := Lib.hid hP
  have hgl := blk_lt hM.cell
  clear hM hidx hnm hP
  go_enter Tryd.func12, Tryd.ntmps12
  go_wp2_with fail
  refine (house_name nm _).mono ?_
  rw [HN.out]
  rintro e w1 ⟨rfl, hb1⟩
  have hB1 : Below w.heap.size w w1 := ((Below.refl _ _).alloc (Nat.le_refl _) _).trans (hb1.mono (by simp))
  have hs1 : w.heap.size + 1 ≤ w1.heap.size := by have := hb1.size; simp at this; exact this
  have hd1 := (hb1.block w.heap.size (by simp)).trans (heap_new w (.cells #[.int .i64 5, .int .i64 n, .string (bs nm), .string (bs tx), ev] 25))
  have hM1 := HM.out.upd (Upd.of (S := []) hB1) (by simp)
  have HM1 := Lib.hid hM1
  have HB1 := Lib.hid hB1
  have HD1 := Lib.hid hd1
  have HS1 := Lib.hid hs1
  have c0 : w1.cell? ⟨gh, 0, none⟩ = some (.slice (some ⟨b, off, none⟩) R.length c) := (blk_cell hM1.cell 0).trans rfl
  have k0 : w1.cell? ⟨w.heap.size, 0, none⟩ = some (.int .i64 5) := (blk_cell hd1 0).trans rfl
  have k2 : w1.cell? ⟨w.heap.size, 2, none⟩ = some (.string (bs nm)) := (blk_cell hd1 2).trans rfl
  clear hM1 hb1 hB1 hs1 hd1
  go_wp2_with fail
  refine (house_index (some ⟨b, off, none⟩) c R nm w.heap.size w1 HM1.out.own h6 k2 (by have := HS1.out; omega)).mono ?_
  rw [HX.out]
  rintro e w2 ⟨rfl, hb2⟩
  have hB2 := HB1.out.trans (hb2.mono HB1.out.size)
  have hd2 := (hb2.block w.heap.size (by have := HS1.out; omega)).trans HD1.out
  have hM2 := HM.out.upd (Upd.of (S := []) hB2) (by simp)
  have HM2 := Lib.hid hM2
  have HB2 := Lib.hid hB2
  have HD2 := Lib.hid hd2
  have HS2 : Hid (w.heap.size + 1 ≤ w2.heap.size) := Nat.le_trans HS1.out hb2.size
  obtain ⟨hat, hbf⟩ := hM2.at hkl
  have HAT := Lib.hid hat
  have HBF := Lib.hid hbf
  have HPG := Lib.hid (hM2.pg _ (List.getElem_mem hkl))
  have g0 : w2.cell? ⟨w.heap.size, 0, none⟩ = some (.int .i64 5) := (blk_cell hd2 0).trans rfl
  have g1 : w2.cell? ⟨w.heap.size, 1, none⟩ = some (.int .i64 n) := (blk_cell hd2 1).trans rfl
  have g3 : w2.cell? ⟨w.heap.size, 3, none⟩ = some (.string (bs tx)) := (blk_cell hd2 3).trans rfl
  have g4 : w2.cell? ⟨w.heap.size, 4, none⟩ = some ev := (blk_cell hd2 4).trans rfl
  have d0 : w2.cell? ⟨gh, 0, none⟩ = some (.slice (some ⟨b, off, none⟩) R.length c) := (blk_cell hM2.cell 0).trans rfl
  have d1 : ∀ i, w2.frozen? ⟨gh, i, none⟩ = false := fun i => blk_frozen hM2.cell i
  have p1 := hat.c1
  have p2 := hat.c2
  have hbl := hat.lt
  have i1 : (k : Int) < (R.length : Int) := by omega
  have i2 : ¬ (k : Int) < 0 := by omega
  clear hM2 hd2 hB2 hb2 hat hbf c0 k0 k2
  obtain ⟨fe, fl, h1, h2, h3, h4⟩ := HPG.out
  have HE := Lib.hid h1
  have H3 := Lib.hid h3
  have H4 := Lib.hid h4
  have C := Lib.hid (leaf_save R[k].gl R[k].s.L fl w2 h2 HPK.out.leaf)
  clear h1 h2 h3 h4
  go_wp2_with fail
  refine C.out.mono ?_
  rintro e w3 ⟨rfl, fl', hL', hu, hfr⟩
  have T := Lib.hid ((house_turn (v := .int .i64 0) (e := .returned (.int .i64 0)) HM2.out hkl (PgPost.pk HAT.out HBF.out ⟨rfl, _, IsPg.leaf HE.out H3.out H4.out hL' hu hfr⟩)).from HB2.out)
  clear hL' hu hfr
  go_wp2
  go_ret2
  exact T.out.then (Below.refl _ _)

set_option maxRecDepth 100000 in
set_option maxHeartbeats 1600000 in
theorem house_do_text (B gh b off c k : Nat) (R : List PgM) (n : Int) (nm tx : List UInt8) (eds : List Ed) (ev : Value) (w : World) (hM : IsHouseM w gh R (some ⟨b, off, none⟩) c) (h6 : R.length ≤ 6) (hkl : k < R.length) (hidx : idxI (R.map PgM.s) nm = k) (hnm : nameE nm = 0) (hP : PgOk R[k].s.E R[k].s.L) :
    Calls Tryd.prog 12 #[.pointer (some ⟨gh, 0, none⟩), .agg #[.int .i64 8, .int .i64 n, .string (bs nm), .string (bs tx), ev]] w (HsPost gh (R.map PgM.s) (hfp gh R (some ⟨b, off, none⟩)) w (.tuple #[.string (bs R[k].s.E.text), .int .i64 0])) := by
  have HM := Lib.hid hM
  have HX := Lib.hid hidx
  have HN := Lib.hid hnm
  have HPK := Lib.hid hP
  have hgl := blk_lt hM.cell
  clear hM hidx hnm hP
  go_enter Tryd.func12, Tryd.ntmps12
  go_wp2_with fail
  refine (house_name nm _).mono ?_
  rw [HN.out]
  rintro e w1 ⟨rfl, hb1⟩
  have hB1 : Below w.heap.size w w1 := ((Below.refl _ _).alloc (Nat.le_refl _) _).trans (hb1.mono (by simp))
  have hs1 : w.heap.size + 1 ≤ w1.heap.size := by have := hb1.size; simp at this; exact this
  have hd1 := (hb1.block w.heap.size (by simp)).trans (heap_new w (.cells #[.int .i64 8, .int .i64 n, .string (bs nm), .string (bs tx), ev] 25))
  have hM1 := HM.out.upd (Upd.of (S := []) hB1) (by simp)
  have HM1 := Lib.hid hM1
  have HB1 := Lib.hid hB1
  have HD1 := Lib.hid hd1
  have HS1 := Lib.hid hs1
  have c0 : w1.cell? ⟨gh, 0, none⟩ = some (.slice (some ⟨b, off, none⟩) R.length c) := (blk_cell hM1.cell 0).trans rfl
  have k0 : w1.cell? ⟨w.heap.size, 0, none⟩ = some (.int .i64 8) := (blk_cell hd1 0).trans rfl
  have k2 : w1.cell? ⟨w.heap.size, 2, none⟩ = some (.string (bs nm)) := (blk_cell hd1 2).trans rfl
  clear hM1 hb1 hB1 hs1 hd1
  go_wp2_with fail
  refine (house_index (some ⟨b, off, none⟩) c R nm w.heap.size w1 HM1.out.own h6 k2 (by have := HS1.out; omega)).mono ?_
  rw [HX.out]
  rintro e w2 ⟨rfl, hb2⟩
  have hB2 := HB1.out.trans (hb2.mono HB1.out.size)
  have hd2 := (hb2.block w.heap.size (by have := HS1.out; omega)).trans HD1.out
  have hM2 := HM.out.upd (Upd.of (S := []) hB2) (by simp)
  have HM2 := Lib.hid hM2
  have HB2 := Lib.hid hB2
  have HD2 := Lib.hid hd2
  have HS2 : Hid (w.heap.size + 1 ≤ w2.heap.size) := Nat.le_trans HS1.out hb2.size
  obtain ⟨hat, hbf⟩ := hM2.at hkl
  have HAT := Lib.hid hat
  have HBF := Lib.hid hbf
  have HPG := Lib.hid (hM2.pg _ (List.getElem_mem hkl))
  have g0 : w2.cell? ⟨w.heap.size, 0, none⟩ = some (.int .i64 8) := (blk_cell hd2 0).trans rfl
  have g1 : w2.cell? ⟨w.heap.size, 1, none⟩ = some (.int .i64 n) := (blk_cell hd2 1).trans rfl
  have g3 : w2.cell? ⟨w.heap.size, 3, none⟩ = some (.string (bs tx)) := (blk_cell hd2 3).trans rfl
  have g4 : w2.cell? ⟨w.heap.size, 4, none⟩ = some ev := (blk_cell hd2 4).trans rfl
  have d0 : w2.cell? ⟨gh, 0, none⟩ = some (.slice (some ⟨b, off, none⟩) R.length c) := (blk_cell hM2.cell 0).trans rfl
  have d1 : ∀ i, w2.frozen? ⟨gh, i, none⟩ = false := fun i => blk_frozen hM2.cell i
  have p1 := hat.c1
  have p2 := hat.c2
  have hbl := hat.lt
  have i1 : (k : Int) < (R.length : Int) := by omega
  have i2 : ¬ (k : Int) < 0 := by omega
  clear hM2 hd2 hB2 hb2 hat hbf c0 k0 k2
  obtain ⟨fe, fl, h1, h2, h3, h4⟩ := HPG.out
  have C := Lib.hid (undo_text_eq R[k].ge R[k].s.E fe w2 h1)
  clear h1 h2 h3 h4
  go_wp2_with fail
  refine C.out.mono ?_
  rintro e w3 ⟨rfl, rfl⟩
  go_wp2
  go_ret2
  exact HsPost.same ⟨R, _, c, HM.out, rfl, rfl⟩ HB2.out

set_option maxRecDepth 100000 in
set_option maxHeartbeats 1600000 in
theorem house_do_make (B gh b off c k : Nat) (R : List PgM) (n : Int) (nm tx : List UInt8) (eds : List Ed) (ev : Value) (w : World) (hM : IsHouseM w gh R (some ⟨b, off, none⟩) c) (h6 : R.length ≤ 6) (hkl : k < R.length) (hidx : idxI (R.map PgM.s) nm = k) (hnm : nameE nm = 0) (hP : PgOk R[k].s.E R[k].s.L) (hB : B ≤ w.heap.size) (hT : Tab B w) (hF : ∀ x ∈ R[k].fp, B ≤ x) :
    Calls Tryd.prog 12 #[.pointer (some ⟨gh, 0, none⟩), .agg #[.int .i64 10, .int .i64 n, .string (bs nm), .string (bs tx), ev]] w (HsPost gh ((R.map PgM.s).set k ⟨R[k].s.name, (pgMake R[k].s.E R[k].s.L tx).2.1, (pgMake R[k].s.E R[k].s.L tx).2.2⟩) (hfp gh R (some ⟨b, off, none⟩)) w (.tuple #[.string ByteArray.empty, .int .i64 (pgMake R[k].s.E R[k].s.L tx).1])) := by
  generalize hRR : pgMake R[k].s.E R[k].s.L tx = RR
  obtain ⟨r, E', L'⟩ := RR
  have HRR := Lib.hid hRR
  simp only
  clear hRR
  have HT := Lib.hid hT
  have HF := Lib.hid hF
  clear hT hF
  have HM := Lib.hid hM
  have HX := Lib.hid hidx
  have HN := Lib.hid hnm
  have HPK := Lib.hid hP
  have hgl := blk_lt hM.cell
  clear hM hidx hnm hP
  go_enter Tryd.func12, Tryd.ntmps12
  go_wp2_with fail
  refine (house_name nm _).mono ?_
  rw [HN.out]
  rintro e w1 ⟨rfl, hb1⟩
  have hB1 : Below w.heap.size w w1 := ((Below.refl _ _).alloc (Nat.le_refl _) _).trans (hb1.mono (by simp))
  have hs1 : w.heap.size + 1 ≤ w1.heap.size := by have := hb1.size; simp at this; exact this
  have hd1 := (hb1.block w.heap.size (by simp)).trans (heap_new w (.cells #[.int .i64 10, .int .i64 n, .string (bs nm), .string (bs tx), ev] 25))
  have hM1 := HM.out.upd (Upd.of (S := []) hB1) (by simp)
  have HM1 := Lib.hid hM1
  have HB1 := Lib.hid hB1
  have HD1 := Lib.hid hd1
  have HS1 := Lib.hid hs1
  have c0 : w1.cell? ⟨gh, 0, none⟩ = some (.slice (some ⟨b, off, none⟩) R.length c) := (blk_cell hM1.cell 0).trans rfl
  have k0 : w1.cell? ⟨w.heap.size, 0, none⟩ = some (.int .i64 10) := (blk_cell hd1 0).trans rfl
  have k2 : w1.cell? ⟨w.heap.size, 2, none⟩ = some (.string (bs nm)) := (blk_cell hd1 2).trans rfl
  clear hM1 hb1 hB1 hs1 hd1
  go_wp2_with fail
  refine (house_index (some ⟨b, off, none⟩) c R nm w.heap.size w1 HM1.out.own h6 k2 (by have := HS1.out; omega)).mono ?_
  rw [HX.out]
  rintro e w2 ⟨rfl, hb2⟩
  have hB2 := HB1.out.trans (hb2.mono HB1.out.size)
  have hd2 := (hb2.block w.heap.size (by have := HS1.out; omega)).trans HD1.out
  have hM2 := HM.out.upd (Upd.of (S := []) hB2) (by simp)
  have HM2 := Lib.hid hM2
  have HB2 := Lib.hid hB2
  have HD2 := Lib.hid hd2
  have HS2 : Hid (w.heap.size + 1 ≤ w2.heap.size) := Nat.le_trans HS1.out hb2.size
  obtain ⟨hat, hbf⟩ := hM2.at hkl
  have HAT := Lib.hid hat
  have HBF := Lib.hid hbf
  have HPG := Lib.hid (hM2.pg _ (List.getElem_mem hkl))
  have g0 : w2.cell? ⟨w.heap.size, 0, none⟩ = some (.int .i64 10) := (blk_cell hd2 0).trans rfl
  have g1 : w2.cell? ⟨w.heap.size, 1, none⟩ = some (.int .i64 n) := (blk_cell hd2 1).trans rfl
  have g3 : w2.cell? ⟨w.heap.size, 3, none⟩ = some (.string (bs tx)) := (blk_cell hd2 3).trans rfl
  have g4 : w2.cell? ⟨w.heap.size, 4, none⟩ = some ev := (blk_cell hd2 4).trans rfl
  have d0 : w2.cell? ⟨gh, 0, none⟩ = some (.slice (some ⟨b, off, none⟩) R.length c) := (blk_cell hM2.cell 0).trans rfl
  have d1 : ∀ i, w2.frozen? ⟨gh, i, none⟩ = false := fun i => blk_frozen hM2.cell i
  have p1 := hat.c1
  have p2 := hat.c2
  have hbl := hat.lt
  have i1 : (k : Int) < (R.length : Int) := by omega
  have i2 : ¬ (k : Int) < 0 := by omega
  clear hM2 hd2 hB2 hb2 hat hbf c0 k0 k2
  obtain ⟨fe, fl, h1, h2, h3, h4⟩ := HPG.out
  have C1 : Hid (Calls Tryd.prog 33 #[.pointer (some ⟨R[k].ge, 0, none⟩)] w2.drew fun e w' => e = .returned (.string (bs R[k].s.E.text)) ∧ w' = w2.drew) := undo_text_eq R[k].ge R[k].s.E fe w2.drew h1
  have C2 := Lib.hid (diff_make R[k].s.E.text tx w2.drew)
  have D1 : w2.drew.cell? ⟨b, off + k * 3 + 1, none⟩ = some (.pointer (some ⟨R[k].ge, 0, none⟩)) := p1
  have D3 : w2.drew.cell? ⟨w.heap.size, 3, none⟩ = some (.string (bs tx)) := g3
  have HSz := Lib.hid (show w2.drew.heap.size = w2.heap.size from rfl)
  have HBd : Hid (Below w2.heap.size w2 w2.drew) := (Below.refl _ _).drew
  have hgd2 : w.heap.size < w2.heap.size := by have := HS2.out; omega
  clear h1 h2 h3 h4
  go_wp2_with fail
  go_region_held3 (fun W : World => W.cell? ⟨b, off + k * 3 + 1, none⟩ = some (.pointer (some ⟨R[k].ge, 0, none⟩)) ∧ W.cell? ⟨w.heap.size, 3, none⟩ = some (.string (bs tx))) (first | exact ⟨D1, D3⟩ | exact ⟨(hb4.cell (p := ⟨b, off + k * 3 + 1, none⟩) hbl).trans D1, (hb4.cell (p := ⟨w.heap.size, 3, none⟩) hgd2).trans D3⟩) (first | (go_at_call 33; go_must (go_fit (C1.out); rintro e w3 ⟨rfl, rfl⟩)) | (go_at_call 40; go_must (go_fit (C2.out); rintro e w4 ⟨v, rfl, hv4, hvf4, hb4⟩)))
  all_goals
    have HV4 := Lib.hid hv4
    have hbb : Below w2.heap.size w2 w4 := HBd.out.trans hb4
    have HBB := Lib.hid hbb
    have hM4 := HM2.out.upd (Upd.of (S := []) hbb) (by simp)
    have HM4 := Lib.hid hM4
    obtain ⟨hat4, hbf4⟩ := hM4.at hkl
    have HAT4 := Lib.hid hat4
    have HB4 := Lib.hid (HB2.out.trans (hbb.mono HB2.out.size))
    have HPG4 := Lib.hid (hM4.pg _ (List.getElem_mem hkl))
    have hvv : Hid (∀ A n c, v = .slice A n c → ∀ x ∈ blk A, x ∉ R[k].fp) := fun A n c hA x hx hm => by
      have := hvf4 A n c hA x hx
      have := (HM2.out.pg _ (List.getElem_mem hkl)).lt x hm
      rw [HSz.out] at *
      omega
    clear hv4 hb4 hat4 hbb hvf4 hM4
    by_cases hq : (makeF R[k].s.E.text tx).2 = 0
    · have hF2 : pgMake R[k].s.E R[k].s.L tx = pgEdit R[k].s.E R[k].s.L (makeF R[k].s.E.text tx).1 := by unfold pgMake; exact if_pos hq
      have C := Lib.hid (page_edit B b (off + k * 3) R[k].s.name R[k].ge R[k].gl R[k].s.E R[k].s.L R[k].fp v (makeF R[k].s.E.text tx).1 w4 HAT4.out HBF.out HPG4.out HPK.out HV4.out (Nat.le_trans hB HB4.out.size) (HT.out.to hB HB4.out) HF.out (fun _ => hvv.out))
      rw [← hF2, HRR.out] at C
      simp only at C
      have HQ := Lib.hid hq
      clear hF2
      go_wp2_with fail
      refine C.out.mono ?_
      rintro e w5 ⟨rfl, hpost⟩
      have T := Lib.hid ((house_turn (v := .int .i64 r) (e := .returned (.int .i64 r)) HM4.out hkl (PgPost.pk HAT4.out HBF.out ⟨rfl, hpost⟩)).from HB4.out)
      clear hpost
      go_wp2
      go_ret2
      exact T.out.then (Below.refl _ _)
    · have hF2 : pgMake R[k].s.E R[k].s.L tx = ((makeF R[k].s.E.text tx).2, R[k].s.E, R[k].s.L) := by unfold pgMake; exact if_neg hq
      have hne : ((makeF R[k].s.E.text tx).2 == 0) = false := by simpa using hq
      have HF2 := Lib.hid (HRR.out.symm.trans hF2)
      clear hq hF2
      have T := Lib.hid ((house_turn (v := .int .i64 0) (e := .returned (.int .i64 0)) HM4.out hkl (PgPost.pk HAT4.out HBF.out (PgPost.same HPG4.out (Below.refl _ _)))).from HB4.out)
      go_wp2
      go_ret2
      have e := HF2.out
      injection e with e1 e2
      injection e2 with e2 e3
      subst e1 e2 e3
      exact T.out.then (Below.refl _ _)

end Go.Proofs.YtclebkgfogienaaDoor
