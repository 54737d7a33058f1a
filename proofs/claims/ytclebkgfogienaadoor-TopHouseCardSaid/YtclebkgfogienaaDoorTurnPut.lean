/- turn.Put answers what putF says. -/
import Derived.Test.YtclebkgfogienaaDoorTurn
namespace Go.Proofs.YtclebkgfogienaaDoor
set_option linter.unusedSimpArgs false
set_option linter.unusedVariables false
open Go.RowKit

theorem turn_info_int : (Tryd.prog.info? 3).map (fun i => (i.zero, i.size, i.bytes)) = some (some (.int .i64 0), 1, 8) := by kernel_rfl
theorem turn_info_u8 : (Tryd.prog.info? 5).map (fun i => (i.zero, i.size, i.bytes)) = some (some (.int .u8 0), 1, 1) := by kernel_rfl
theorem turn_make (n : Nat) (hn : n ≤ 1000) (w : World) : (Instr.makeSlice 100 (.int .i64 (n : Int)) (.int .i64 (n : Int))).run Tryd.prog w = .ok (.slice (some ⟨w.heap.size, 0, none⟩) n n) (w.alloc (.cells (madeCells #[.int .i64 0] n) 3)) := by
  obtain ⟨i, hi, hz0, hz1, hz2⟩ := info_parts turn_info_int
  have hb : (i.bytes : Int) * (n : Int) ≤ 281474976710656 := by rw [hz2]; omega
  have hr := run_make (P := Tryd.prog) w 100 3 i _ Tryd.underlying100 hi hz0 .i64 .i64 n n (by omega) (by omega) hb (by omega)
  simp only [Int.toNat_natCast, hz1, Nat.mul_one] at hr
  exact hr
set_option maxRecDepth 100000 in
theorem turn_check (s : List UInt8) (w : World) (hs : s.length ≤ 200) : Calls Tryd.prog 72 #[.string (bs s)] w fun e w' => e = .returned (.int .i64 0) ∧ w' = w := by
  go_enter Tryd.func72, Tryd.ntmps72
  go_wp2
  go_ret
  exact ⟨rfl, rfl⟩
set_option maxRecDepth 100000 in
theorem turn_check_no (s : List UInt8) (w : World) (hs : 200 < s.length) : Calls Tryd.prog 72 #[.string (bs s)] w fun e w' => e = .returned (.int .i64 2) ∧ w' = w := by
  have hd : (200 : Int) < (s.length : Int) := by omega
  go_enter Tryd.func72, Tryd.ntmps72
  go_wp2
  go_ret
  exact ⟨rfl, rfl⟩
set_option maxRecDepth 100000 in
theorem turn_put_no (s : List UInt8) (w : World) (hs : 200 < s.length) : Calls Tryd.prog 54 #[.string (bs s)] w fun e w' => e = .returned (.tuple #[.string (bs []), .int .i64 0, .int .i64 2]) ∧ Below w.heap.size w w' := by
  go_enter Tryd.func54, Tryd.ntmps54
  go_wp2_with fail
  refine (turn_check_no s _ hs).mono ?_
  rintro e w1 ⟨rfl, rfl⟩
  go_wp2
  go_ret3
  exact ⟨rfl, (Below.refl _ _).alloc (Nat.le_refl _) _⟩
set_option maxRecDepth 100000 in
set_option maxHeartbeats 800000 in
theorem turn_put_ok (s : List UInt8) (w : World) (hs : s.length ≤ 200) : Calls Tryd.prog 54 #[.string (bs s)] w fun e w' => e = .returned (.tuple #[.string (bs (putF s).1), .int .i64 ((putF s).2 : Nat), .int .i64 0]) ∧ Below w.heap.size w w' := by
  have hmk := turn_make s.length (by omega)
  have hmf : ∀ (fn : Fn) (first cap : Array Value) (w : World), (Instr.makeFunc fn first cap).run Tryd.prog w = .ok (.func fn first cap) w := fun _ _ _ _ => rfl
  go_enter Tryd.func54, Tryd.ntmps54
  go_wp2_with fail
  refine (turn_check s _ hs).mono ?_
  rintro e w1 ⟨rfl, rfl⟩
  go_wp2
  go_loopw [7, 23] (fun _ iv wr => ∃ k : Nat, iv = .int .i64 k ∧ k ≤ s.length ∧ Hid (wr.heap[w.heap.size]? = some (.cells #[.string (bs s)] 9 (0, 0))) ∧ Hid (∃ cur, wr.heap[w.heap.size + 1]? = some (.cells cur 3 (0, 0)) ∧ cur.size = s.length ∧ ∀ j, j < k → cur[j]? = some (.int .i64 (j : Nat))) ∧ Hid (wr.heap.size = w.heap.size + 2) ∧ Below w.heap.size w wr) (fun _ iv _ => s.length - (intOf iv).toNat)
  case atStart =>
    refine ⟨0, rfl, by omega, ?_, ⟨madeCells #[.int .i64 0] s.length, ?_, ?_, fun j hj => absurd hj (by omega)⟩, ?_, ?_⟩
    · exact (Below.heap_alloc _ _ _ (by simp)).trans (heap_new _ _)
    · have := heap_new (w.alloc (.cells #[.string (bs s)] 9)) (.cells (madeCells #[.int .i64 0] s.length) 3)
      simpa using this
    · simp [madeCells]
    · simp [Hid]
    · exact ((Below.refl _ _).alloc (Nat.le_refl _) _).alloc (by simp) _
  case round =>
    obtain ⟨k, rfl, hk, HB1, HC, HZ, hb⟩ := hrel
    by_cases hlt : k < s.length
    · obtain ⟨cur, hc1, hc2, hc3⟩ := HC.out
      have hcell : wr.cell? ⟨w.heap.size + 1, k, none⟩ = some (cur[k]'(by omega)) := by rw [blk_cell hc1, Array.getElem?_eq_getElem (by omega)]
      have hfr : wr.frozen? ⟨w.heap.size + 1, k, none⟩ = false := blk_frozen hc1 _
      have HC2 : Hid (∃ cur, (wr.setCell ⟨w.heap.size + 1, k, none⟩ (.int .i64 k)).heap[w.heap.size + 1]? = some (.cells cur 3 (0, 0)) ∧ cur.size = s.length ∧ ∀ j, j < k + 1 → cur[j]? = some (.int .i64 (j : Nat))) := by
        refine ⟨_, blk_set hc1 _ _, by simp [hc2], fun j hj => ?_⟩
        by_cases hjk : k = j
        · subst hjk
          rw [Array.getElem?_setIfInBounds_self_of_lt (by omega)]
        · rw [Array.getElem?_setIfInBounds_ne hjk]
          exact hc3 j (by omega)
      have HB2 : Hid ((wr.setCell ⟨w.heap.size + 1, k, none⟩ (.int .i64 k)).heap[w.heap.size]? = some (.cells #[.string (bs s)] 9 (0, 0))) := (Below.heap_setCell _ _ _ _ (by simp)).trans HB1.out
      have HZ2 : Hid ((wr.setCell ⟨w.heap.size + 1, k, none⟩ (.int .i64 k)).heap.size = w.heap.size + 2) := by have := HZ.out; simpa [Hid, World.setCell] using this
      have hb2 := hb.setCell (p := ⟨w.heap.size + 1, k, none⟩) (by simp) (.int .i64 k)
      generalize cur[k]'(by omega) = x at *
      clear hc1 hc2 hc3
      go_wp2
      go_roundw
      case rel => exact ⟨k + 1, by go_num, by omega, HB2.out, HC2.out, HZ2.out, hb2⟩
      case measure => simp [intOf]; omega
    · have hkE : k = s.length := by omega
      subst hkE
      have h1 : wr.cell? ⟨w.heap.size, 0, none⟩ = some (.string (bs s)) := (blk_cell HB1.out 0).trans rfl
      go_wp2_with fail
      have hO : OwnC 3 1 (wr.alloc (.cells #[.string (bs (s ++ s))] 9)) (some ⟨w.heap.size + 1, 0, none⟩) s.length s.length (natCells (List.range s.length)) := by
        obtain ⟨cur, c1, c2, c3⟩ := HC.out
        have := HZ.out
        refine ⟨by simp [natCells], .inr ⟨_, 0, cur, rfl, (Below.heap_alloc _ _ _ (by omega)).trans c1, Nat.le_refl _, by unfold maxLen; omega, by omega, fun i hi => ?_⟩⟩
        rw [Nat.zero_add, c3 i (by omega)]
        simp [natCells, show i < s.length by omega]
      have k1 : (wr.alloc (.cells #[.string (bs (s ++ s))] 9)).heap[w.heap.size]? = some (.cells #[.string (bs s)] 9 (0, 0)) := (Below.heap_alloc _ _ _ (by have := HZ.out; omega)).trans HB1.out
      have k2 := heap_new wr (.cells #[.string (bs (s ++ s))] 9)
      have hb4 := hb.alloc hb.size (.cells #[.string (bs (s ++ s))] 9)
      have C := Lib.hid (turn_sort s (w.heap.size + 1) s.length w.heap.size wr.heap.size _ hs hO (by have := HZ.out; simp; omega) ((blk_cell k1 0).trans rfl) ((blk_cell k2 0).trans rfl) (by have := HZ.out; simp; omega) (by simp) (by omega) (by have := HZ.out; omega))
      have K1 := Lib.hid k1
      have K2 := Lib.hid k2
      have HB4 := Lib.hid hb4
      have HZ4 : Hid ((wr.alloc (.cells #[.string (bs (s ++ s))] 9)).heap.size = w.heap.size + 3) := by have := HZ.out; simp [Hid]; omega
      clear hO k1 k2 hb4 h1 hb
      refine C.out.mono ?_
      rintro e w5 ⟨rfl, hO, hu⟩
      have HO5 := Lib.hid hO
      have K15 : Hid (w5.heap[w.heap.size]? = some (.cells #[.string (bs s)] 9 (0, 0))) := (hu.block _ (blk_lt K1.out) (by simp)).trans K1.out
      have K25 : Hid (w5.heap[wr.heap.size]? = some (.cells #[.string (bs (s ++ s))] 9 (0, 0))) := (hu.block _ (blk_lt K2.out) (by have := HZ.out; simp; omega)).trans K2.out
      have HB5 : Hid (Below w.heap.size w w5) := HB4.out.trans (hu.below (fun k hk => by simp at hk; omega) HB4.out.size)
      generalize hg2 : wr.heap.size = g2 at *
      have HG2 : Hid (g2 = w.heap.size + 2) := by have := HZ.out; exact this
      clear hO hu C K1 K2 HB4 HZ4 HB1 HC HZ hg2
      go_wp2
      obtain ⟨i0, hi, hz0, hz1, hz2⟩ := info_parts turn_info_u8
      have HI := Lib.hid hi
      have HZ0 := Lib.hid hz0
      have HZ1 := Lib.hid hz1
      have HZ2 := Lib.hid hz2
      have hpl := ordF_length s
      have HPL : Hid ((ordF s).length = s.length) := hpl
      have HPM : Hid (∀ i ∈ ordF s, i < s.length) := fun i h => ordF_lt s h
      have HAT : Hid (putF s = ((ordF s).map (lastF s), atF (ordF s) 0 0)) := rfl
      clear hi hz0 hz1 hz2 hpl
      generalize ordF s = P at *
      go_loopw [9, 10, 11, 12, 40] (fun bv av _ _ iv wr => ∃ (k : Nat) (A : Option Addr) (c a : Nat), iv = .int .i64 k ∧ k ≤ s.length ∧ bv = .slice A k c ∧ av = .int .i64 a ∧ a ≤ 1000 ∧ Hid (OwnC 5 1 wr A k c (((P.take k).map (lastF s)).map fun c => .int .u8 (c.toNat : Nat))) ∧ Hid (∀ b ∈ blk A, w5.heap.size ≤ b) ∧ Hid (∃ b off, A = some (⟨b, off, none⟩ : Addr)) ∧ Hid (Below w5.heap.size w5 wr) ∧ Hid (atF P 0 0 = atF (P.drop k) k a)) (fun _ _ _ _ iv _ => s.length - (intOf iv).toNat)
      case atStart =>
        refine ⟨0, some ⟨w5.heap.size, 0, none⟩, 0, 0, rfl, by omega, rfl, rfl, by omega, ?_, ?_, ⟨_, _, rfl⟩, ?_, rfl⟩
        · exact ⟨rfl, .inr ⟨_, 0, _, rfl, heap_new _ _, by omega, by unfold maxLen; omega, by simp, fun i hi => absurd hi (by omega)⟩⟩
        · intro b hb; simp [blk] at hb; omega
        · exact (Below.refl _ _).alloc (Nat.le_refl _) _
      case round =>
        obtain ⟨k, A, c, a, rfl, hk, rfl, rfl, ha, HOk, HLk, HSk, HBk, HAk⟩ := hrel
        by_cases hlt : k < s.length
        · have hkP : k < P.length := by rw [HPL.out]; exact hlt
          have c1 : wr.cell? ⟨w.heap.size, 0, none⟩ = some (.string (bs s)) := (blk_cell ((HBk.out.block _ (blk_lt K15.out)).trans K15.out) 0).trans rfl
          have c2 : wr.cell? ⟨g2, 0, none⟩ = some (.string (bs (s ++ s))) := (blk_cell ((HBk.out.block _ (blk_lt K25.out)).trans K25.out) 0).trans rfl
          have c3 : wr.cell? ⟨w.heap.size + 1, k, none⟩ = some (.int .i64 (P[k] : Nat)) := by
            have := (HO5.out.below HBk.out).cell k (by omega)
            rw [Nat.zero_add] at this
            rw [this]; simp [natCells, hkP]
          have hi := HPM.out P[k] (List.getElem_mem hkP)
          have HTK : Hid ((P.take (k + 1)).map (lastF s) = (P.take k).map (lastF s) ++ [lastF s P[k]]) := by unfold Hid; rw [List.take_succ_eq_append_getElem hkP, List.map_append]; rfl
          have HDR : Hid (P.drop k = P[k] :: P.drop (k + 1)) := List.drop_eq_getElem_cons hkP
          generalize P[k] = i at *
          have d1 : (1 : Int) ≤ (i : Int) + s.length := by omega
          have d2 : (i : Int) + s.length - 1 < (s.length : Int) + s.length := by omega
          have hix : i + s.length - 1 < (bs (s ++ s)).size := by simp; omega
          have HV : Hid ((bs (s ++ s))[i + s.length - 1]'hix = lastF s i) := by
            unfold Hid lastF
            rw [bs_get, List.getD_eq_getElem?_getD, List.getElem?_eq_getElem]
            rfl
          have hba : Below wr.heap.size wr (wr.alloc (.cells #[.int .u8 ((bs (s ++ s))[i + s.length - 1]'hix).toNat] 5)) := (Below.refl _ _).alloc (Nat.le_refl _) _
          have HOA := Lib.hid (HOk.out.below hba)
          have HBA := Lib.hid (HBk.out.alloc HBk.out.size (.cells #[.int .u8 ((bs (s ++ s))[i + s.length - 1]'hix).toNat] 5))
          clear hba
          go_wp2_with (at_builtin; refine wpList_append_C rfl _ _ 95 5 1 1 rfl i0 _ Tryd.underlying95 HI.out HZ0.out HZ1.out HZ2.out rfl A k c _ rfl HOA.out ⟨wr.heap.size, 0, none⟩ 1 1 [.int .u8 ((bs (s ++ s))[i + s.length - 1]'hix).toNat] rfl rfl ?c1 ?c2 (by decide) ?c3 ?c4 ?_)
          case c1 => exact cell_one_new' wr _ _
          case c2 => intro u hu; simp at hu; subst hu; rfl
          case c3 => unfold maxLen; omega
          case c4 => omega
          intro A' c' w8 ho hu hn
          have HO8 := Lib.hid ho
          have HS8 : Hid (∃ b off, A' = some (⟨b, off, none⟩ : Addr)) := by
            obtain ⟨b, off, h, _⟩ := ho.addr (by omega)
            exact ⟨b, off, h⟩
          have HB8 := Lib.hid (HBA.out.trans (hu.below (B := w5.heap.size) HLk.out HBA.out.size))
          have HL8 : Hid (∀ b ∈ blk A', w5.heap.size ≤ b) := fun b hb => by
            rcases hn b hb with h | h
            · exact HLk.out b h
            · have := HBk.out.size; omega
          clear ho hu hn c1 c2 c3
          have HREL : Hid (∀ a', a' = (if i = 0 then k else a) → OwnC 5 1 w8 A' (k + 1) c' (((P.take (k + 1)).map (lastF s)).map fun c => .int .u8 (c.toNat : Nat)) ∧ atF P 0 0 = atF (P.drop (k + 1)) (k + 1) a') := by
            intro a' ha'
            subst ha'
            refine ⟨?_, ?_⟩
            · have := HO8.out
              rw [HV.out] at this
              rw [HTK.out, List.map_append]
              simpa using this
            · rw [HAk.out, HDR.out]; rfl
          clear HO8 HTK HDR HV
          by_cases hz : i = 0
          · subst hz
            go_wp2
            go_roundw
            case rel => exact ⟨k + 1, A', c', k, by go_num, by omega, rfl, rfl, by omega, (HREL.out k rfl).1, HL8.out, HS8.out, HB8.out, (HREL.out k rfl).2⟩
            case measure => simp [intOf]; omega
          · have q1 : ((i : Int) == 0) = false := by simp; omega
            go_wp2
            go_roundw
            case rel => exact ⟨k + 1, A', c', a, by go_num, by omega, rfl, rfl, by omega, (HREL.out a (by rw [if_neg hz])).1, HL8.out, HS8.out, HB8.out, (HREL.out a (by rw [if_neg hz])).2⟩
            case measure => simp [intOf]; omega
        · have hkE : k = s.length := by omega
          subst hkE
          have hE : P.take s.length = P := List.take_of_length_le (by rw [HPL.out]; omega)
          have hE2 : P.drop s.length = [] := List.drop_of_length_le (by rw [HPL.out]; omega)
          rw [hE] at HOk
          rw [hE2] at HAk
          clear hE hE2
          have HA2 : Hid (atF P 0 0 = a) := HAk.out
          obtain ⟨b, off, rfl⟩ := HSk.out
          have HLE : Hid ((P.map (lastF s)).length = s.length) := by unfold Hid; rw [List.length_map]; exact HPL.out
          generalize P.map (lastF s) = t at *
          have hcv := conv_bytes_str wr b off s.length c (t.map fun c => (c.toNat : Int)) (by rw [List.length_map]; exact HLE.out) (fun i hi => by
            rw [HOk.out.cell i (by omega)]
            have : i < t.length := by rw [HLE.out]; exact hi
            simp [List.getD, this])
          have hmm : ((t.map fun c => (c.toNat : Int)).map fun n => UInt8.ofNat n.toNat) = t := by
            rw [List.map_map]
            conv => rhs; rw [← List.map_id t]
            apply List.map_congr_left
            intro x _
            simp
          rw [hmm] at hcv
          clear hmm
          go_wp2
          go_ret3
          refine ⟨?_, HB5.out.trans (HBk.out.mono (by have := HB5.out.size; omega))⟩
          have e1 : (putF s).1 = t := by rw [HAT.out]
          have e2 : (putF s).2 = a := by rw [HAT.out]; exact HA2.out
          show Ending.returned (.tuple #[.string (bs t), .int .i64 (a : Nat), .int .i64 0]) = _
          rw [e1, e2]
end Go.Proofs.YtclebkgfogienaaDoor
