/- What a call of House.Do leaves: a drop, a beginning, and the errors. -/
import Derived.Test.YtclebkgfogienaaDoorDo2
namespace Go.Proofs.YtclebkgfogienaaDoor
set_option linter.unusedSimpArgs false
set_option linter.unusedVariables false
open Go.RowKit

/-- one page less -/
theorem house_less {w w3 : World} {gh : Nat} {R : List PgM} {b off c k m : Nat} {v : Value} (hM : IsHouseM w gh R (some ⟨b, off, none⟩) c) (hu : Upd [b] w w3)
    (hO : OwnC 64 3 w3 (some ⟨b, off, none⟩) m c (pgCells (R.eraseIdx k))) (hm : (R.eraseIdx k).length = m) :
    HsPost gh ((R.map PgM.s).eraseIdx k) (hfp gh R (some ⟨b, off, none⟩)) w v (.returned v) (w3.setCell ⟨gh, 0, none⟩ (.slice (some ⟨b, off, none⟩) m c)) := by
  subst hm
  have hbA : b ∈ blk (some (⟨b, off, none⟩ : Addr)) := by simp [blk]
  have hghb : gh ≠ b := fun hh => hM.d1 (by simp [blk, hh])
  have hset := Upd.setCell w3 gh 0 (.slice (some ⟨b, off, none⟩) (R.eraseIdx k).length c)
  have hmem : ∀ r ∈ R.eraseIdx k, r ∈ R := fun r hr => List.mem_of_mem_eraseIdx hr
  have e3 : w3.heap[gh]? = some (.cells #[.slice (some ⟨b, off, none⟩) R.length c] 66 (0, 0)) := (hu.block gh (blk_lt hM.cell) (by simpa using hghb)).trans hM.cell
  refine ⟨rfl, hfp gh (R.eraseIdx k) (some ⟨b, off, none⟩), ⟨R.eraseIdx k, some ⟨b, off, none⟩, c, ⟨?_, ?_, ?_, hM.d1, ?_, ?_⟩, ?_, rfl⟩, ?_, ?_⟩
  · rw [blk_set e3 0 _]; simp
  · exact hO.upd hset (fun x hx hm => by simp [blk] at hx hm; exact hghb (hm.symm.trans hx))
  · intro r hr
    refine ((hM.pg r (hmem r hr)).upd hu (fun x hx hm => ?_)).upd hset (fun x hx hm => ?_)
    · simp at hm; subst hm
      exact (hM.d2 r (hmem r hr)).2 x hbA hx
    · simp at hm; subst hm
      exact (hM.d2 r (hmem r hr)).1 hx
  · exact fun r hr => hM.d2 r (hmem r hr)
  · exact hM.d3.sublist ((List.eraseIdx_sublist R k).map PgM.fp)
  · simp [List.eraseIdx_eq_take_drop_succ, List.map_take, List.map_drop]
  · exact (hu.mono (fun x hx => by simp at hx; subst hx; exact mem_hfp.2 (.inr (.inl hbA)))).trans hset (fun x hx => .inl (by simp at hx; subst hx; exact mem_hfp.2 (.inl rfl)))
  · intro x hx
    rcases mem_hfp.1 hx with rfl | hx | ⟨r, hr, hxr⟩
    · exact .inl (mem_hfp.2 (.inl rfl))
    · exact .inl (mem_hfp.2 (.inr (.inl hx)))
    · exact .inl (mem_hfp.2 (.inr (.inr ⟨r, hmem r hr, hxr⟩)))

set_option maxRecDepth 100000 in
set_option maxHeartbeats 1600000 in
theorem house_do_drop (B gh b off c k : Nat) (R : List PgM) (n : Int) (nm tx : List UInt8) (eds : List Ed) (ev : Value) (w : World) (hM : IsHouseM w gh R (some ⟨b, off, none⟩) c) (h6 : R.length ≤ 6) (hkl : k < R.length) (hidx : idxI (R.map PgM.s) nm = k) (hnm : nameE nm = 0) (hP : PgOk R[k].s.E R[k].s.L) :
    Calls Tryd.prog 12 #[.pointer (some ⟨gh, 0, none⟩), .agg #[.int .i64 9, .int .i64 n, .string (bs nm), .string (bs tx), ev]] w (HsPost gh ((R.map PgM.s).eraseIdx k) (hfp gh R (some ⟨b, off, none⟩)) w (.tuple #[.string ByteArray.empty, .int .i64 0])) := by
  have HM := Lib.hid hM
  have HX := Lib.hid hidx
  have HN := Lib.hid hnm
  have HPK := Lib.hid hP
  have hgl := blk_lt hM.cell
  clear hM hidx hnm hP
  go_enter Tryd.func12, Tryd.ntmps12
  go_wp2_with fail
  refine (house_name nm _).mono ?_
  rw [HN.out]
  rintro e w1 ⟨rfl, hb1⟩
  have hB1 : Below w.heap.size w w1 := ((Below.refl _ _).alloc (Nat.le_refl _) _).trans (hb1.mono (by simp))
  have hs1 : w.heap.size + 1 ≤ w1.heap.size := by have := hb1.size; simp at this; exact this
  have hd1 := (hb1.block w.heap.size (by simp)).trans (heap_new w (.cells #[.int .i64 9, .int .i64 n, .string (bs nm), .string (bs tx), ev] 25))
  have hM1 := HM.out.upd (Upd.of (S := []) hB1) (by simp)
  have HM1 := Lib.hid hM1
  have HB1 := Lib.hid hB1
  have HD1 := Lib.hid hd1
  have HS1 := Lib.hid hs1
  have c0 : w1.cell? ⟨gh, 0, none⟩ = some (.slice (some ⟨b, off, none⟩) R.length c) := (blk_cell hM1.cell 0).trans rfl
  have k0 : w1.cell? ⟨w.heap.size, 0, none⟩ = some (.int .i64 9) := (blk_cell hd1 0).trans rfl
  have k2 : w1.cell? ⟨w.heap.size, 2, none⟩ = some (.string (bs nm)) := (blk_cell hd1 2).trans rfl
  clear hM1 hb1 hB1 hs1 hd1
  go_wp2_with fail
  refine (house_index (some ⟨b, off, none⟩) c R nm w.heap.size w1 HM1.out.own h6 k2 (by have := HS1.out; omega)).mono ?_
  rw [HX.out]
  rintro e w2 ⟨rfl, hb2⟩
  have hB2 := HB1.out.trans (hb2.mono HB1.out.size)
  have hd2 := (hb2.block w.heap.size (by have := HS1.out; omega)).trans HD1.out
  have hM2 := HM.out.upd (Upd.of (S := []) hB2) (by simp)
  have HM2 := Lib.hid hM2
  have HB2 := Lib.hid hB2
  have HD2 := Lib.hid hd2
  have HS2 : Hid (w.heap.size + 1 ≤ w2.heap.size) := Nat.le_trans HS1.out hb2.size
  obtain ⟨hat, hbf⟩ := hM2.at hkl
  have HAT := Lib.hid hat
  have HBF := Lib.hid hbf
  have HPG := Lib.hid (hM2.pg _ (List.getElem_mem hkl))
  have g0 : w2.cell? ⟨w.heap.size, 0, none⟩ = some (.int .i64 9) := (blk_cell hd2 0).trans rfl
  have g1 : w2.cell? ⟨w.heap.size, 1, none⟩ = some (.int .i64 n) := (blk_cell hd2 1).trans rfl
  have g3 : w2.cell? ⟨w.heap.size, 3, none⟩ = some (.string (bs tx)) := (blk_cell hd2 3).trans rfl
  have g4 : w2.cell? ⟨w.heap.size, 4, none⟩ = some ev := (blk_cell hd2 4).trans rfl
  have d0 : w2.cell? ⟨gh, 0, none⟩ = some (.slice (some ⟨b, off, none⟩) R.length c) := (blk_cell hM2.cell 0).trans rfl
  have d1 : ∀ i, w2.frozen? ⟨gh, i, none⟩ = false := fun i => blk_frozen hM2.cell i
  have p1 := hat.c1
  have p2 := hat.c2
  have hbl := hat.lt
  have i1 : (k : Int) < (R.length : Int) := by omega
  have i2 : ¬ (k : Int) < 0 := by omega
  clear hM2 hd2 hB2 hb2 hat hbf c0 k0 k2
  obtain ⟨m, hm⟩ : ∃ m, R.length = m + 1 := ⟨R.length - 1, by omega⟩
  have HO := Lib.hid HM2.out.own
  rw [hm] at HO
  have C := Lib.hid (house_delete b off c R k m w2 hm HO.out (by omega) (by omega))
  have HMM := Lib.hid hm
  rw [hm] at d0
  have i3 : (k : Int) < (m : Int) + 1 := by omega
  clear hm HO
  go_wp2_with fail
  refine C.out.mono ?_
  rintro e w3 ⟨rfl, hO3, hu3⟩
  have hghb : gh ∉ [b] := fun hh => HM.out.d1 (by simpa [blk] using hh)
  have e3 := (hu3.block gh (blk_lt HM2.out.cell) hghb).trans HM2.out.cell
  rw [HMM.out] at e3
  have q1 : w3.cell? ⟨gh, 0, none⟩ = some (.slice (some ⟨b, off, none⟩) (m + 1) c) := (blk_cell e3 0).trans rfl
  have q2 : w3.frozen? ⟨gh, 0, none⟩ = false := blk_frozen e3 0
  have T := Lib.hid ((house_less (v := .int .i64 0) HM2.out hu3 hO3 (by rw [List.length_eraseIdx, HMM.out, if_pos (by omega)]; rfl)).from HB2.out)
  clear e3 hO3 hu3
  go_wp2
  go_ret2
  exact T.out.then (Below.refl _ _)

set_option maxRecDepth 100000 in
set_option maxHeartbeats 1600000 in
theorem house_do_kind (gh : Nat) (H : List PageS) (F : List Nat) (kd n : Int) (nm tx : List UInt8) (eds : List Ed) (ev : Value) (w : World) (h : IsHouse w gh H F) (hk : kd < 1 ∨ 10 < kd) :
    Calls Tryd.prog 12 #[.pointer (some ⟨gh, 0, none⟩), .agg #[.int .i64 kd, .int .i64 n, .string (bs nm), .string (bs tx), ev]] w (HsPost gh (H) F w (.tuple #[.string ByteArray.empty, .int .i64 1])) := by
  have HH := Lib.hid h
  clear h
  by_cases h1 : kd < 1
  · have q : decide (kd < 1) = true := by simpa using h1
    go_enter Tryd.func12, Tryd.ntmps12
    go_wp2
    go_ret2
    exact HsPost.same HH.out ((Below.refl _ _).alloc (Nat.le_refl _) _)
  · have q : decide (kd < 1) = false := by simpa using h1
    have q2 : decide (10 < kd) = true := by simp; omega
    go_enter Tryd.func12, Tryd.ntmps12
    go_wp2
    go_ret2
    exact HsPost.same HH.out ((Below.refl _ _).alloc (Nat.le_refl _) _)

set_option maxRecDepth 100000 in
set_option maxHeartbeats 1600000 in
theorem house_do_name (gh : Nat) (H : List PageS) (F : List Nat) (kd n : Int) (nm tx : List UInt8) (eds : List Ed) (ev : Value) (w : World) (h : IsHouse w gh H F) (hk : ¬ (kd < 1 ∨ 10 < kd)) (hn : nameE nm ≠ 0) :
    Calls Tryd.prog 12 #[.pointer (some ⟨gh, 0, none⟩), .agg #[.int .i64 kd, .int .i64 n, .string (bs nm), .string (bs tx), ev]] w (HsPost gh (H) F w (.tuple #[.string ByteArray.empty, .int .i64 (nameE nm)])) := by
  have HH := Lib.hid h
  have q : decide (kd < 1) = false := by simp; omega
  have q2 : decide (10 < kd) = false := by simp; omega
  have q3 : (nameE nm == 0) = false := by simpa using hn
  have C := Lib.hid (house_name nm)
  generalize nameE nm = E at *
  clear h hk hn
  go_enter Tryd.func12, Tryd.ntmps12
  go_wp2_with fail
  refine (C.out _).mono ?_
  rintro e w1 ⟨rfl, hb1⟩
  go_wp2
  go_ret2
  exact HsPost.same HH.out (((Below.refl _ _).alloc (Nat.le_refl _) _).trans (hb1.mono (by simp)))

set_option maxRecDepth 100000 in
set_option maxHeartbeats 1600000 in
theorem house_do_none (gh : Nat) (H : List PageS) (F : List Nat) (kd n : Int) (nm tx : List UInt8) (eds : List Ed) (ev : Value) (w : World) (h : IsHouse w gh H F) (h6 : H.length ≤ 6) (hk : ¬ (kd < 1 ∨ 10 < kd)) (h1 : kd ≠ 1) (hidx : idxI H nm = -1) (hnm : nameE nm = 0) :
    Calls Tryd.prog 12 #[.pointer (some ⟨gh, 0, none⟩), .agg #[.int .i64 kd, .int .i64 n, .string (bs nm), .string (bs tx), ev]] w (HsPost gh (H) F w (.tuple #[.string ByteArray.empty, .int .i64 4])) := by
  have HH := Lib.hid h
  obtain ⟨R, A, c, hM, rfl, rfl⟩ := h
  have q : decide (kd < 1) = false := by simp; omega
  have q2 : decide (10 < kd) = false := by simp; omega
  have q3 : (kd == 1) = false := by simpa using h1
  clear hk h1
  have HM := Lib.hid hM
  have HX := Lib.hid hidx
  have HN := Lib.hid hnm
  have hgl := blk_lt hM.cell
  clear hM hidx hnm
  simp only [List.length_map] at h6
  go_enter Tryd.func12, Tryd.ntmps12
  go_wp2_with fail
  refine (house_name nm _).mono ?_
  rw [HN.out]
  rintro e w1 ⟨rfl, hb1⟩
  have hB1 : Below w.heap.size w w1 := ((Below.refl _ _).alloc (Nat.le_refl _) _).trans (hb1.mono (by simp))
  have hs1 : w.heap.size + 1 ≤ w1.heap.size := by have := hb1.size; simp at this; exact this
  have hd1 := (hb1.block w.heap.size (by simp)).trans (heap_new w (.cells #[.int .i64 kd, .int .i64 n, .string (bs nm), .string (bs tx), ev] 25))
  have hM1 := HM.out.upd (Upd.of (S := []) hB1) (by simp)
  have HM1 := Lib.hid hM1
  have HB1 := Lib.hid hB1
  have HD1 := Lib.hid hd1
  have HS1 := Lib.hid hs1
  have c0 : w1.cell? ⟨gh, 0, none⟩ = some (.slice A R.length c) := (blk_cell hM1.cell 0).trans rfl
  have k0 : w1.cell? ⟨w.heap.size, 0, none⟩ = some (.int .i64 kd) := (blk_cell hd1 0).trans rfl
  have k2 : w1.cell? ⟨w.heap.size, 2, none⟩ = some (.string (bs nm)) := (blk_cell hd1 2).trans rfl
  clear hM1 hb1 hB1 hs1 hd1
  go_wp2_with fail
  refine (house_index A c R nm w.heap.size w1 HM1.out.own h6 k2 (by have := HS1.out; omega)).mono ?_
  rw [HX.out]
  rintro e w2 ⟨rfl, hb2⟩
  have hB2 := HB1.out.trans (hb2.mono HB1.out.size)
  have hd2 := (hb2.block w.heap.size (by have := HS1.out; omega)).trans HD1.out
  have HB2 := Lib.hid hB2
  have g0 : w2.cell? ⟨w.heap.size, 0, none⟩ = some (.int .i64 kd) := (blk_cell hd2 0).trans rfl
  have g1 : w2.cell? ⟨w.heap.size, 1, none⟩ = some (.int .i64 n) := (blk_cell hd2 1).trans rfl
  have g2 : w2.cell? ⟨w.heap.size, 2, none⟩ = some (.string (bs nm)) := (blk_cell hd2 2).trans rfl
  have g3 : w2.cell? ⟨w.heap.size, 3, none⟩ = some (.string (bs tx)) := (blk_cell hd2 3).trans rfl
  have g4 : w2.cell? ⟨w.heap.size, 4, none⟩ = some ev := (blk_cell hd2 4).trans rfl
  clear hd2 hB2 hb2 c0 k0 k2
  go_wp2
  go_ret2
  exact HsPost.same HH.out HB2.out

set_option maxRecDepth 100000 in
set_option maxHeartbeats 1600000 in
theorem house_do_there (gh : Nat) (H : List PageS) (F : List Nat) (kd n : Int) (nm tx : List UInt8) (eds : List Ed) (ev : Value) (w : World) (h : IsHouse w gh H F) (h6 : H.length ≤ 6) (k : Nat) (hidx : idxI H nm = k) (hnm : nameE nm = 0) :
    Calls Tryd.prog 12 #[.pointer (some ⟨gh, 0, none⟩), .agg #[.int .i64 1, .int .i64 n, .string (bs nm), .string (bs tx), ev]] w (HsPost gh (H) F w (.tuple #[.string ByteArray.empty, .int .i64 10])) := by
  have HH := Lib.hid h
  obtain ⟨R, A, c, hM, rfl, rfl⟩ := h
  have HM := Lib.hid hM
  have HX := Lib.hid hidx
  have HN := Lib.hid hnm
  have hgl := blk_lt hM.cell
  clear hM hidx hnm
  simp only [List.length_map] at h6
  go_enter Tryd.func12, Tryd.ntmps12
  go_wp2_with fail
  refine (house_name nm _).mono ?_
  rw [HN.out]
  rintro e w1 ⟨rfl, hb1⟩
  have hB1 : Below w.heap.size w w1 := ((Below.refl _ _).alloc (Nat.le_refl _) _).trans (hb1.mono (by simp))
  have hs1 : w.heap.size + 1 ≤ w1.heap.size := by have := hb1.size; simp at this; exact this
  have hd1 := (hb1.block w.heap.size (by simp)).trans (heap_new w (.cells #[.int .i64 1, .int .i64 n, .string (bs nm), .string (bs tx), ev] 25))
  have hM1 := HM.out.upd (Upd.of (S := []) hB1) (by simp)
  have HM1 := Lib.hid hM1
  have HB1 := Lib.hid hB1
  have HD1 := Lib.hid hd1
  have HS1 := Lib.hid hs1
  have c0 : w1.cell? ⟨gh, 0, none⟩ = some (.slice A R.length c) := (blk_cell hM1.cell 0).trans rfl
  have k0 : w1.cell? ⟨w.heap.size, 0, none⟩ = some (.int .i64 1) := (blk_cell hd1 0).trans rfl
  have k2 : w1.cell? ⟨w.heap.size, 2, none⟩ = some (.string (bs nm)) := (blk_cell hd1 2).trans rfl
  clear hM1 hb1 hB1 hs1 hd1
  go_wp2_with fail
  refine (house_index A c R nm w.heap.size w1 HM1.out.own h6 k2 (by have := HS1.out; omega)).mono ?_
  rw [HX.out]
  rintro e w2 ⟨rfl, hb2⟩
  have hB2 := HB1.out.trans (hb2.mono HB1.out.size)
  have hd2 := (hb2.block w.heap.size (by have := HS1.out; omega)).trans HD1.out
  have HB2 := Lib.hid hB2
  have g0 : w2.cell? ⟨w.heap.size, 0, none⟩ = some (.int .i64 1) := (blk_cell hd2 0).trans rfl
  have g1 : w2.cell? ⟨w.heap.size, 1, none⟩ = some (.int .i64 n) := (blk_cell hd2 1).trans rfl
  have g2 : w2.cell? ⟨w.heap.size, 2, none⟩ = some (.string (bs nm)) := (blk_cell hd2 2).trans rfl
  have g3 : w2.cell? ⟨w.heap.size, 3, none⟩ = some (.string (bs tx)) := (blk_cell hd2 3).trans rfl
  have g4 : w2.cell? ⟨w.heap.size, 4, none⟩ = some ev := (blk_cell hd2 4).trans rfl
  clear hd2 hB2 hb2 c0 k0 k2
  have C := Lib.hid (house_begin_there gh k ⟨1, n, nm, tx, eds⟩ ev w2)
  simp only [ddV] at C
  go_wp2_with fail
  refine C.out.mono ?_
  rintro e w3 ⟨rfl, hb3⟩
  go_wp2
  go_ret2
  exact HsPost.same HH.out (HB2.out.trans (hb3.mono HB2.out.size))

set_option maxRecDepth 100000 in
set_option maxHeartbeats 1600000 in
theorem house_do_full (gh : Nat) (H : List PageS) (F : List Nat) (kd n : Int) (nm tx : List UInt8) (eds : List Ed) (ev : Value) (w : World) (h : IsHouse w gh H F) (h6 : H.length ≤ 6) (hfull : H.length = 6 ∨ 200 < tx.length) (hidx : idxI H nm = -1) (hnm : nameE nm = 0) :
    Calls Tryd.prog 12 #[.pointer (some ⟨gh, 0, none⟩), .agg #[.int .i64 1, .int .i64 n, .string (bs nm), .string (bs tx), ev]] w (HsPost gh (H) F w (.tuple #[.string ByteArray.empty, .int .i64 (beginF H ⟨1, n, nm, tx, eds⟩).1])) := by
  have HH := Lib.hid h
  obtain ⟨R, A, c, hM, rfl, rfl⟩ := h
  have HFU := Lib.hid hfull
  clear hfull
  have HM := Lib.hid hM
  have HX := Lib.hid hidx
  have HN := Lib.hid hnm
  have hgl := blk_lt hM.cell
  clear hM hidx hnm
  simp only [List.length_map] at h6
  go_enter Tryd.func12, Tryd.ntmps12
  go_wp2_with fail
  refine (house_name nm _).mono ?_
  rw [HN.out]
  rintro e w1 ⟨rfl, hb1⟩
  have hB1 : Below w.heap.size w w1 := ((Below.refl _ _).alloc (Nat.le_refl _) _).trans (hb1.mono (by simp))
  have hs1 : w.heap.size + 1 ≤ w1.heap.size := by have := hb1.size; simp at this; exact this
  have hd1 := (hb1.block w.heap.size (by simp)).trans (heap_new w (.cells #[.int .i64 1, .int .i64 n, .string (bs nm), .string (bs tx), ev] 25))
  have hM1 := HM.out.upd (Upd.of (S := []) hB1) (by simp)
  have HM1 := Lib.hid hM1
  have HB1 := Lib.hid hB1
  have HD1 := Lib.hid hd1
  have HS1 := Lib.hid hs1
  have c0 : w1.cell? ⟨gh, 0, none⟩ = some (.slice A R.length c) := (blk_cell hM1.cell 0).trans rfl
  have k0 : w1.cell? ⟨w.heap.size, 0, none⟩ = some (.int .i64 1) := (blk_cell hd1 0).trans rfl
  have k2 : w1.cell? ⟨w.heap.size, 2, none⟩ = some (.string (bs nm)) := (blk_cell hd1 2).trans rfl
  clear hM1 hb1 hB1 hs1 hd1
  go_wp2_with fail
  refine (house_index A c R nm w.heap.size w1 HM1.out.own h6 k2 (by have := HS1.out; omega)).mono ?_
  rw [HX.out]
  rintro e w2 ⟨rfl, hb2⟩
  have hB2 := HB1.out.trans (hb2.mono HB1.out.size)
  have hd2 := (hb2.block w.heap.size (by have := HS1.out; omega)).trans HD1.out
  have HB2 := Lib.hid hB2
  have g0 : w2.cell? ⟨w.heap.size, 0, none⟩ = some (.int .i64 1) := (blk_cell hd2 0).trans rfl
  have g1 : w2.cell? ⟨w.heap.size, 1, none⟩ = some (.int .i64 n) := (blk_cell hd2 1).trans rfl
  have g2 : w2.cell? ⟨w.heap.size, 2, none⟩ = some (.string (bs nm)) := (blk_cell hd2 2).trans rfl
  have g3 : w2.cell? ⟨w.heap.size, 3, none⟩ = some (.string (bs tx)) := (blk_cell hd2 3).trans rfl
  have g4 : w2.cell? ⟨w.heap.size, 4, none⟩ = some ev := (blk_cell hd2 4).trans rfl
  clear hd2 hB2 hb2 c0 k0 k2
  have C := Lib.hid (house_begin_no gh (R.map PgM.s) _ ⟨1, n, nm, tx, eds⟩ ev w2 (HH.out.below HB2.out) HFU.out (by simpa using h6))
  simp only [ddV] at C
  go_wp2_with fail
  refine C.out.mono ?_
  rintro e w3 ⟨rfl, hb3⟩
  go_wp2
  go_ret2
  exact HsPost.same HH.out (HB2.out.trans (hb3.mono HB2.out.size))

set_option maxRecDepth 100000 in
set_option maxHeartbeats 1600000 in
theorem house_do_new (gh : Nat) (H : List PageS) (F : List Nat) (kd n : Int) (nm tx : List UInt8) (eds : List Ed) (ev : Value) (w : World) (h : IsHouse w gh H F) (h6 : H.length ≤ 6) (hlt : H.length < 6) (htx : tx.length ≤ 200) (hidx : idxI H nm = -1) (hnm : nameE nm = 0) :
    Calls Tryd.prog 12 #[.pointer (some ⟨gh, 0, none⟩), .agg #[.int .i64 1, .int .i64 n, .string (bs nm), .string (bs tx), ev]] w (HsPost gh (H ++ [newPage ⟨1, n, nm, tx, eds⟩]) F w (.tuple #[.string ByteArray.empty, .int .i64 0])) := by
  have HH := Lib.hid h
  obtain ⟨R, A, c, hM, rfl, rfl⟩ := h
  simp only [List.length_map] at hlt
  have HM := Lib.hid hM
  have HX := Lib.hid hidx
  have HN := Lib.hid hnm
  have hgl := blk_lt hM.cell
  clear hM hidx hnm
  simp only [List.length_map] at h6
  go_enter Tryd.func12, Tryd.ntmps12
  go_wp2_with fail
  refine (house_name nm _).mono ?_
  rw [HN.out]
  rintro e w1 ⟨rfl, hb1⟩
  have hB1 : Below w.heap.size w w1 := ((Below.refl _ _).alloc (Nat.le_refl _) _).trans (hb1.mono (by simp))
  have hs1 : w.heap.size + 1 ≤ w1.heap.size := by have := hb1.size; simp at this; exact this
  have hd1 := (hb1.block w.heap.size (by simp)).trans (heap_new w (.cells #[.int .i64 1, .int .i64 n, .string (bs nm), .string (bs tx), ev] 25))
  have hM1 := HM.out.upd (Upd.of (S := []) hB1) (by simp)
  have HM1 := Lib.hid hM1
  have HB1 := Lib.hid hB1
  have HD1 := Lib.hid hd1
  have HS1 := Lib.hid hs1
  have c0 : w1.cell? ⟨gh, 0, none⟩ = some (.slice A R.length c) := (blk_cell hM1.cell 0).trans rfl
  have k0 : w1.cell? ⟨w.heap.size, 0, none⟩ = some (.int .i64 1) := (blk_cell hd1 0).trans rfl
  have k2 : w1.cell? ⟨w.heap.size, 2, none⟩ = some (.string (bs nm)) := (blk_cell hd1 2).trans rfl
  clear hM1 hb1 hB1 hs1 hd1
  go_wp2_with fail
  refine (house_index A c R nm w.heap.size w1 HM1.out.own h6 k2 (by have := HS1.out; omega)).mono ?_
  rw [HX.out]
  rintro e w2 ⟨rfl, hb2⟩
  have hB2 := HB1.out.trans (hb2.mono HB1.out.size)
  have hd2 := (hb2.block w.heap.size (by have := HS1.out; omega)).trans HD1.out
  have HB2 := Lib.hid hB2
  have g0 : w2.cell? ⟨w.heap.size, 0, none⟩ = some (.int .i64 1) := (blk_cell hd2 0).trans rfl
  have g1 : w2.cell? ⟨w.heap.size, 1, none⟩ = some (.int .i64 n) := (blk_cell hd2 1).trans rfl
  have g2 : w2.cell? ⟨w.heap.size, 2, none⟩ = some (.string (bs nm)) := (blk_cell hd2 2).trans rfl
  have g3 : w2.cell? ⟨w.heap.size, 3, none⟩ = some (.string (bs tx)) := (blk_cell hd2 3).trans rfl
  have g4 : w2.cell? ⟨w.heap.size, 4, none⟩ = some ev := (blk_cell hd2 4).trans rfl
  clear hd2 hB2 hb2 c0 k0 k2
  have C := Lib.hid (house_begin_ok gh (R.map PgM.s) _ ⟨1, n, nm, tx, eds⟩ ev w2 (HH.out.below HB2.out) (by simpa using hlt) htx)
  simp only [ddV] at C
  go_wp2_with fail
  refine C.out.mono ?_
  rintro e w3 ⟨rfl, hpost⟩
  have T := Lib.hid (HsPost.from (v := .int .i64 0) (e := .returned (.int .i64 0)) HB2.out ⟨rfl, hpost⟩)
  clear hpost
  go_wp2
  go_ret2
  exact T.out.then (Below.refl _ _)

end Go.Proofs.YtclebkgfogienaaDoor
