/- The walk of HouseSteps. -/
import Derived.Test.YtclebkgfogienaaDoorHSt
namespace Go.Proofs.YtclebkgfogienaaDoor
set_option linter.unusedSimpArgs false
set_option linter.unusedVariables false
open Go.RowKit


set_option maxRecDepth 100000 in
set_option maxHeartbeats 1600000 in
theorem steps_walk_a (v : Value) (D : List Dd) (nm tx : List UInt8) (w : World) (hD : DeedsAt w.heap.size w v D) (hT : Tab w.heap.size w) (H : List PageS) (hH : runF [] D = H) (s0 s1 : List UInt8) (x0 e1 : Int) (h0 : (doF H (textD nm)).1 = (s0, x0)) (h1 : doF H (deedD 10 0 nm tx) = ((s1, e1), H)) (hne : e1 ≠ 0) :
    Calls Tryd.prog 4 #[v, .string (bs nm), .string (bs tx)] w fun e w' => e = .returned (.bool true) ∧ Below w.heap.size w w' := by
  have HD := Lib.hid hD
  have HT := Lib.hid hT
  obtain ⟨A, c, rfl, _⟩ := hD
  have CH := Lib.hid (keep_houses w.heap.size w (Nat.le_refl _) HT.out)
  clear hT
  have O0 : Hid (HouseOk H) := by rw [← hH]; exact runF_ok HouseOk.nil D
  have HR := Lib.hid hH
  clear hH
  have q1 : (e1 != 0) = true := by simpa using hne
  have T0 := Lib.hid h0
  have T1 := Lib.hid h1
  clear h0 h1 hne
  generalize (x0 == 0) = ok at *
  go_enter Tryd.func4, Tryd.ntmps4
  go_wp2_with fail
  refine CH.out.mono ?_
  rintro e w1 ⟨rfl, hb1⟩
  have HB1 := Lib.hid hb1
  clear hb1
  go_wp2_with fail
  refine (st_worked w.heap.size (.slice A D.length c) D w w1 HD.out HB1.out (Nat.le_refl _) HT.out).mono ?_
  rintro e w2 ⟨gh, rfl, hs⟩
  rw [HR.out] at hs
  have HS2 := Lib.hid hs
  clear hs
  have C := Lib.hid (st_text w.heap.size gh w H w2 nm HS2.out O0.out (Nat.le_refl _) HT.out)
  rw [T0.out] at C
  simp only at C
  go_wp2_with fail
  refine C.out.mono ?_
  rintro e w3 ⟨rfl, hs⟩
  have HS3 := Lib.hid hs
  clear hs C
  have C := Lib.hid (st_do w.heap.size gh w H w3 10 0 nm tx HS3.out O0.out (Nat.le_refl _) HT.out)
  rw [T1.out] at C
  simp only at C
  go_wp2_with fail
  refine C.out.mono ?_
  rintro e w4 ⟨rfl, hs⟩
  have HS4 := Lib.hid hs
  clear hs C
  have C := Lib.hid (st_text w.heap.size gh w H w4 nm HS4.out O0.out (Nat.le_refl _) HT.out)
  rw [T0.out] at C
  simp only at C
  go_wp2_with fail
  refine C.out.mono ?_
  rintro e w5 ⟨rfl, hs⟩
  have HS5 := Lib.hid hs
  clear hs C
  go_wp2
  go_ret
  exact ⟨rfl, HS5.out.out⟩

set_option maxRecDepth 100000 in
set_option maxHeartbeats 1600000 in
theorem steps_walk_b (v : Value) (D : List Dd) (nm tx : List UInt8) (w : World) (hD : DeedsAt w.heap.size w v D) (hT : Tab w.heap.size w) (H : List PageS) (hH : runF [] D = H) (s0 s1 : List UInt8) (H1 : List PageS) (h0 : (doF H (textD nm)).1 = (s0, 0)) (h1 : doF H (deedD 10 0 nm tx) = ((s1, 0), H1)) (t1 : (doF H1 (textD nm)).1 = (tx, 0)) (s2 : List UInt8) (H2 : List PageS) (h2 : doF H1 (deedD 3 0 nm []) = ((s2, 11), H2)) :
    Calls Tryd.prog 4 #[v, .string (bs nm), .string (bs tx)] w fun e w' => e = .returned (.bool true) ∧ Below w.heap.size w w' := by
  have HD := Lib.hid hD
  have HT := Lib.hid hT
  obtain ⟨A, c, rfl, _⟩ := hD
  have CH := Lib.hid (keep_houses w.heap.size w (Nat.le_refl _) HT.out)
  clear hT
  have O0 : Hid (HouseOk H) := by rw [← hH]; exact runF_ok HouseOk.nil D
  have HR := Lib.hid hH
  clear hH
  have O1 : Hid (HouseOk H1) := by have := doF_ok O0.out (deedD 10 0 nm tx); rw [h1] at this; exact this
  have T0 := Lib.hid h0
  have T1 := Lib.hid h1
  have U1 := Lib.hid t1
  clear h0 h1 t1
  have T2 := Lib.hid h2
  clear h2
  go_enter Tryd.func4, Tryd.ntmps4
  go_wp2_with fail
  refine CH.out.mono ?_
  rintro e w1 ⟨rfl, hb1⟩
  have HB1 := Lib.hid hb1
  clear hb1
  go_wp2_with fail
  refine (st_worked w.heap.size (.slice A D.length c) D w w1 HD.out HB1.out (Nat.le_refl _) HT.out).mono ?_
  rintro e w2 ⟨gh, rfl, hs⟩
  rw [HR.out] at hs
  have HS2 := Lib.hid hs
  clear hs
  have C := Lib.hid (st_text w.heap.size gh w H w2 nm HS2.out O0.out (Nat.le_refl _) HT.out)
  rw [T0.out] at C
  simp only at C
  go_wp2_with fail
  refine C.out.mono ?_
  rintro e w3 ⟨rfl, hs⟩
  have HS3 := Lib.hid hs
  clear hs C
  have C := Lib.hid (st_do w.heap.size gh w H w3 10 0 nm tx HS3.out O0.out (Nat.le_refl _) HT.out)
  rw [T1.out] at C
  simp only at C
  go_wp2_with fail
  refine C.out.mono ?_
  rintro e w4 ⟨rfl, hs⟩
  have HS4 := Lib.hid hs
  clear hs C
  have C := Lib.hid (st_text w.heap.size gh w H1 w4 nm HS4.out O1.out (Nat.le_refl _) HT.out)
  rw [U1.out] at C
  simp only at C
  go_wp2_with fail
  refine C.out.mono ?_
  rintro e w5 ⟨rfl, hs⟩
  have HS5 := Lib.hid hs
  clear hs C
  have C := Lib.hid (st_do w.heap.size gh w H1 w5 3 0 nm [] HS5.out O1.out (Nat.le_refl _) HT.out)
  rw [T2.out] at C
  simp only at C
  go_wp2_with fail
  refine C.out.mono ?_
  rintro e w6 ⟨rfl, hs⟩
  have HS6 := Lib.hid hs
  clear hs C
  go_wp2
  go_ret
  exact ⟨rfl, HS6.out.out⟩

set_option maxRecDepth 100000 in
set_option maxHeartbeats 1600000 in
theorem steps_walk_c (v : Value) (D : List Dd) (nm tx : List UInt8) (w : World) (hD : DeedsAt w.heap.size w v D) (hT : Tab w.heap.size w) (H : List PageS) (hH : runF [] D = H) (s0 s1 : List UInt8) (H1 : List PageS) (h0 : (doF H (textD nm)).1 = (s0, 0)) (h1 : doF H (deedD 10 0 nm tx) = ((s1, 0), H1)) (t1 : (doF H1 (textD nm)).1 = (tx, 0)) (s2 s3 : List UInt8) (H2 H3 : List PageS) (h2 : doF H1 (deedD 3 0 nm []) = ((s2, 0), H2)) (t2 : (doF H2 (textD nm)).1 = (s0, 0)) (h3 : doF H2 (deedD 4 0 nm []) = ((s3, 0), H3)) (t3 : (doF H3 (textD nm)).1 = (tx, 0)) :
    Calls Tryd.prog 4 #[v, .string (bs nm), .string (bs tx)] w fun e w' => e = .returned (.bool true) ∧ Below w.heap.size w w' := by
  have HD := Lib.hid hD
  have HT := Lib.hid hT
  obtain ⟨A, c, rfl, _⟩ := hD
  have CH := Lib.hid (keep_houses w.heap.size w (Nat.le_refl _) HT.out)
  clear hT
  have O0 : Hid (HouseOk H) := by rw [← hH]; exact runF_ok HouseOk.nil D
  have HR := Lib.hid hH
  clear hH
  have O1 : Hid (HouseOk H1) := by have := doF_ok O0.out (deedD 10 0 nm tx); rw [h1] at this; exact this
  have O2 : Hid (HouseOk H2) := by have := doF_ok O1.out (deedD 3 0 nm []); rw [h2] at this; exact this
  have O3 : Hid (HouseOk H3) := by have := doF_ok O2.out (deedD 4 0 nm []); rw [h3] at this; exact this
  have T0 := Lib.hid h0
  have T1 := Lib.hid h1
  have U1 := Lib.hid t1
  clear h0 h1 t1
  have T2 := Lib.hid h2
  have U2 := Lib.hid t2
  have T3 := Lib.hid h3
  have U3 := Lib.hid t3
  clear h2 t2 h3 t3
  go_enter Tryd.func4, Tryd.ntmps4
  go_wp2_with fail
  refine CH.out.mono ?_
  rintro e w1 ⟨rfl, hb1⟩
  have HB1 := Lib.hid hb1
  clear hb1
  go_wp2_with fail
  refine (st_worked w.heap.size (.slice A D.length c) D w w1 HD.out HB1.out (Nat.le_refl _) HT.out).mono ?_
  rintro e w2 ⟨gh, rfl, hs⟩
  rw [HR.out] at hs
  have HS2 := Lib.hid hs
  clear hs
  have C := Lib.hid (st_text w.heap.size gh w H w2 nm HS2.out O0.out (Nat.le_refl _) HT.out)
  rw [T0.out] at C
  simp only at C
  go_wp2_with fail
  refine C.out.mono ?_
  rintro e w3 ⟨rfl, hs⟩
  have HS3 := Lib.hid hs
  clear hs C
  have C := Lib.hid (st_do w.heap.size gh w H w3 10 0 nm tx HS3.out O0.out (Nat.le_refl _) HT.out)
  rw [T1.out] at C
  simp only at C
  go_wp2_with fail
  refine C.out.mono ?_
  rintro e w4 ⟨rfl, hs⟩
  have HS4 := Lib.hid hs
  clear hs C
  have C := Lib.hid (st_text w.heap.size gh w H1 w4 nm HS4.out O1.out (Nat.le_refl _) HT.out)
  rw [U1.out] at C
  simp only at C
  go_wp2_with fail
  refine C.out.mono ?_
  rintro e w5 ⟨rfl, hs⟩
  have HS5 := Lib.hid hs
  clear hs C
  have C := Lib.hid (st_do w.heap.size gh w H1 w5 3 0 nm [] HS5.out O1.out (Nat.le_refl _) HT.out)
  rw [T2.out] at C
  simp only at C
  go_wp2_with fail
  refine C.out.mono ?_
  rintro e w6 ⟨rfl, hs⟩
  have HS6 := Lib.hid hs
  clear hs C
  have C := Lib.hid (st_text w.heap.size gh w H2 w6 nm HS6.out O2.out (Nat.le_refl _) HT.out)
  rw [U2.out] at C
  simp only at C
  go_wp2_with fail
  refine C.out.mono ?_
  rintro e w7 ⟨rfl, hs⟩
  have HS7 := Lib.hid hs
  clear hs C
  have C := Lib.hid (st_do w.heap.size gh w H2 w7 4 0 nm [] HS7.out O2.out (Nat.le_refl _) HT.out)
  rw [T3.out] at C
  simp only at C
  go_wp2_with fail
  refine C.out.mono ?_
  rintro e w8 ⟨rfl, hs⟩
  have HS8 := Lib.hid hs
  clear hs C
  have C := Lib.hid (st_text w.heap.size gh w H3 w8 nm HS8.out O3.out (Nat.le_refl _) HT.out)
  rw [U3.out] at C
  simp only at C
  go_wp2_with fail
  refine C.out.mono ?_
  rintro e w9 ⟨rfl, hs⟩
  have HS9 := Lib.hid hs
  clear hs C
  go_wp2
  go_ret
  exact ⟨rfl, HS9.out.out⟩

set_option maxRecDepth 100000 in
set_option maxHeartbeats 1600000 in
theorem steps_walk_d (v : Value) (D : List Dd) (nm tx : List UInt8) (w : World) (hD : DeedsAt w.heap.size w v D) (hT : Tab w.heap.size w) (H : List PageS) (hH : runF [] D = H) (s0 s1 : List UInt8) (H1 : List PageS) (h0 : (doF H (textD nm)).1 = (s0, 0)) (h1 : doF H (deedD 10 0 nm tx) = ((s1, 0), H1)) (t1 : (doF H1 (textD nm)).1 = (tx, 0)) (s2 s3 : List UInt8) (H2 H3 : List PageS) (h2 : doF H1 (deedD 3 0 nm []) = ((s2, 0), H2)) (t2 : (doF H2 (textD nm)).1 = (s0, 0)) (h3 : doF H2 (deedD 4 0 nm []) = ((s3, 11), H3)) (t3 : (doF H3 (textD nm)).1 = (s0, 0)) :
    Calls Tryd.prog 4 #[v, .string (bs nm), .string (bs tx)] w fun e w' => e = .returned (.bool true) ∧ Below w.heap.size w w' := by
  have HD := Lib.hid hD
  have HT := Lib.hid hT
  obtain ⟨A, c, rfl, _⟩ := hD
  have CH := Lib.hid (keep_houses w.heap.size w (Nat.le_refl _) HT.out)
  clear hT
  have O0 : Hid (HouseOk H) := by rw [← hH]; exact runF_ok HouseOk.nil D
  have HR := Lib.hid hH
  clear hH
  have O1 : Hid (HouseOk H1) := by have := doF_ok O0.out (deedD 10 0 nm tx); rw [h1] at this; exact this
  have O2 : Hid (HouseOk H2) := by have := doF_ok O1.out (deedD 3 0 nm []); rw [h2] at this; exact this
  have O3 : Hid (HouseOk H3) := by have := doF_ok O2.out (deedD 4 0 nm []); rw [h3] at this; exact this
  have T0 := Lib.hid h0
  have T1 := Lib.hid h1
  have U1 := Lib.hid t1
  clear h0 h1 t1
  have T2 := Lib.hid h2
  have U2 := Lib.hid t2
  have T3 := Lib.hid h3
  have U3 := Lib.hid t3
  clear h2 t2 h3 t3
  go_enter Tryd.func4, Tryd.ntmps4
  go_wp2_with fail
  refine CH.out.mono ?_
  rintro e w1 ⟨rfl, hb1⟩
  have HB1 := Lib.hid hb1
  clear hb1
  go_wp2_with fail
  refine (st_worked w.heap.size (.slice A D.length c) D w w1 HD.out HB1.out (Nat.le_refl _) HT.out).mono ?_
  rintro e w2 ⟨gh, rfl, hs⟩
  rw [HR.out] at hs
  have HS2 := Lib.hid hs
  clear hs
  have C := Lib.hid (st_text w.heap.size gh w H w2 nm HS2.out O0.out (Nat.le_refl _) HT.out)
  rw [T0.out] at C
  simp only at C
  go_wp2_with fail
  refine C.out.mono ?_
  rintro e w3 ⟨rfl, hs⟩
  have HS3 := Lib.hid hs
  clear hs C
  have C := Lib.hid (st_do w.heap.size gh w H w3 10 0 nm tx HS3.out O0.out (Nat.le_refl _) HT.out)
  rw [T1.out] at C
  simp only at C
  go_wp2_with fail
  refine C.out.mono ?_
  rintro e w4 ⟨rfl, hs⟩
  have HS4 := Lib.hid hs
  clear hs C
  have C := Lib.hid (st_text w.heap.size gh w H1 w4 nm HS4.out O1.out (Nat.le_refl _) HT.out)
  rw [U1.out] at C
  simp only at C
  go_wp2_with fail
  refine C.out.mono ?_
  rintro e w5 ⟨rfl, hs⟩
  have HS5 := Lib.hid hs
  clear hs C
  have C := Lib.hid (st_do w.heap.size gh w H1 w5 3 0 nm [] HS5.out O1.out (Nat.le_refl _) HT.out)
  rw [T2.out] at C
  simp only at C
  go_wp2_with fail
  refine C.out.mono ?_
  rintro e w6 ⟨rfl, hs⟩
  have HS6 := Lib.hid hs
  clear hs C
  have C := Lib.hid (st_text w.heap.size gh w H2 w6 nm HS6.out O2.out (Nat.le_refl _) HT.out)
  rw [U2.out] at C
  simp only at C
  go_wp2_with fail
  refine C.out.mono ?_
  rintro e w7 ⟨rfl, hs⟩
  have HS7 := Lib.hid hs
  clear hs C
  have C := Lib.hid (st_do w.heap.size gh w H2 w7 4 0 nm [] HS7.out O2.out (Nat.le_refl _) HT.out)
  rw [T3.out] at C
  simp only at C
  go_wp2_with fail
  refine C.out.mono ?_
  rintro e w8 ⟨rfl, hs⟩
  have HS8 := Lib.hid hs
  clear hs C
  have C := Lib.hid (st_text w.heap.size gh w H3 w8 nm HS8.out O3.out (Nat.le_refl _) HT.out)
  rw [U3.out] at C
  simp only at C
  go_wp2_with fail
  refine C.out.mono ?_
  rintro e w9 ⟨rfl, hs⟩
  have HS9 := Lib.hid hs
  clear hs C
  go_wp2
  go_ret
  exact ⟨rfl, HS9.out.out⟩

theorem steps_walk (v : Value) (D : List Dd) (nm tx : List UInt8) (w : World) (hD : DeedsAt w.heap.size w v D) (hT : Tab w.heap.size w) :
    Calls Tryd.prog 4 #[v, .string (bs nm), .string (bs tx)] w fun e w' => e = .returned (.bool true) ∧ Below w.heap.size w w' := by
  have hW : HouseWell (runF [] D) := HouseWell.nil.runF D
  generalize hH : runF [] D = H at hW
  rcases hr1 : doF H (deedD 10 0 nm tx) with ⟨⟨s1, e1⟩, H1⟩
  rcases hr2 : doF H1 (deedD 3 0 nm []) with ⟨⟨s2, e2⟩, H2⟩
  rcases hr3 : doF H2 (deedD 4 0 nm []) with ⟨⟨s3, e3⟩, H3⟩
  rcases hr0 : (doF H (textD nm)).1 with ⟨s0, x0⟩
  have law := steps_law hW nm tx H1 H2 H3 (s1, e1) (s2, e2) (s3, e3) hr1 hr2 hr3
  rw [hr0] at law
  simp only at law
  rcases law with ⟨hne, rfl⟩ | ⟨rfl, rfl, t1, hrest⟩
  · exact steps_walk_a v D nm tx w hD hT _ hH s0 s1 x0 e1 hr0 hr1 hne
  · rcases hrest with rfl | ⟨rfl, t2, ⟨rfl, t3⟩ | ⟨rfl, t3⟩⟩
    · exact steps_walk_b v D nm tx w hD hT H hH s0 s1 H1 hr0 hr1 t1 s2 H2 hr2
    · exact steps_walk_c v D nm tx w hD hT H hH s0 s1 H1 hr0 hr1 t1 s2 s3 H2 H3 hr2 t2 hr3 t3
    · exact steps_walk_d v D nm tx w hD hT H hH s0 s1 H1 hr0 hr1 t1 s2 s3 H2 H3 hr2 t2 hr3 t3
end Go.Proofs.YtclebkgfogienaaDoor
