/- House.Names. -/
import Derived.Test.YtclebkgfogienaaDoorHouse
import Derived.Sort.OwnSorted
namespace Go.Proofs.YtclebkgfogienaaDoor
set_option linter.unusedSimpArgs false
set_option linter.unusedVariables false
open Go.RowKit

def namesF (H : List PageS) : List (List UInt8) := (H.map PageS.name).mergeSort fun x y => decide (x ≤ y)
theorem namesF_length (H : List PageS) : (namesF H).length = H.length := by simp [namesF]

set_option maxRecDepth 100000 in
set_option maxHeartbeats 800000 in
theorem house_names (gh : Nat) (H : List PageS) (F : List Nat) (w : World) (h : IsHouse w gh H F) (h6 : H.length ≤ 6) :
    Calls Tryd.prog 14 #[.pointer (some ⟨gh, 0, none⟩)] w fun e w' => ∃ A c, e = .returned (.slice A H.length c) ∧
      w'.ownsRow w.heap.size 9 1 (.slice A H.length c) H.length (strCells (namesF H)) ∧ Below w.heap.size w w' := by
  obtain ⟨R, A0, c0, hM, rfl, rfl⟩ := h
  simp only [List.length_map] at h6 ⊢
  obtain ⟨i0, hi, hz0, hz1, hz2⟩ := info_parts info_str
  have HI := Lib.hid hi
  have HZ0 := Lib.hid hz0
  have HZ1 := Lib.hid hz1
  have HZ2 := Lib.hid hz2
  have HO := Lib.hid hM.own
  have k0 : w.cell? ⟨gh, 0, none⟩ = some (.slice A0 R.length c0) := (blk_cell hM.cell 0).trans rfl
  clear hM hi hz0 hz1 hz2
  go_enter Tryd.func14, Tryd.ntmps14
  go_wp2
  go_loopw [3, 11] (fun ov iv wr => ∃ (k : Nat) (A : Option Addr) (c : Nat), iv = .int .i64 k ∧ k ≤ R.length ∧ ov = .slice A k c ∧ Hid (wr.ownsRow w.heap.size 9 1 (.slice A k c) k (strCells ((R.map PgM.s).map PageS.name |>.take k))) ∧ Below w.heap.size w wr) (fun _ iv _ => R.length - (intOf iv).toNat)
  case atStart => exact ⟨0, none, 0, rfl, by omega, rfl, World.ownsRow_nil _ _ _ _, Below.refl _ _⟩
  case round =>
    obtain ⟨k, A, c, rfl, hk, rfl, HW, hb⟩ := hrel
    by_cases hlt : k < R.length
    · obtain ⟨b, off, rfl, hnc, hbl⟩ := HO.out.addr (by omega)
      have hOr := HO.out.below hb
      have p0 := hOr.cell (k * 3) (by omega)
      have p1 := hOr.cell (k * 3 + 1) (by omega)
      have p2 := hOr.cell (k * 3 + 2) (by omega)
      obtain ⟨e0, e1, e2⟩ := pgCells_at R k hlt
      rw [e0] at p0
      rw [e1] at p1
      rw [e2] at p2
      rw [← Nat.add_assoc] at p1 p2
      have HE : Hid (((R.map PgM.s).map PageS.name).take (k + 1) = ((R.map PgM.s).map PageS.name).take k ++ [R[k].s.name]) := by
        unfold Hid
        rw [List.take_succ_eq_append_getElem (by simpa using hlt)]
        simp
      clear e0 e1 e2 hOr
      generalize R[k] = r at *
      go_wp2_with (at_builtin; refine wpList_append_own _ rfl _ _ 33 rfl w.heap.size 9 i0 _ 1 16 Tryd.underlying33 HI.out HZ0.out HZ1.out HZ2.out rfl (by decide) _ _ _ rfl ((HW.out.alloc _).alloc _) ⟨wr.heap.size + 1, 0, none⟩ 1 1 [.string (bs r.s.name)] rfl rfl ?c1 ?c2 ?c3 ?c4 ?c5 ?_)
      case c1 =>
        have := cell_one_new' (wr.alloc (.cells #[.string (bs r.s.name), .pointer (some ⟨r.ge, 0, none⟩), .pointer (some ⟨r.gl, 0, none⟩)] 64)) (.string (bs r.s.name)) 9
        simpa using this
      case c2 => intro u hu; simp at hu; subst hu; rfl
      case c3 => unfold maxLen; omega
      case c4 => omega
      case c5 => simp; have := hb.size; omega
      intro v' w4 hown4 hgrow _
      obtain ⟨A', c', rfl⟩ := owns_shape hown4
      have HO4 := Lib.hid hown4
      have hbf : Below w.heap.size w w4 := ((hb.alloc hb.size _).alloc (by simp; have := hb.size; omega) _).grown hgrow (by simp; have := hb.size; omega) (fun k hk => (HW.out.lt k hk).1)
      clear hown4
      go_wp2
      go_roundw
      case rel =>
        refine ⟨k + 1, A', c', by go_num, by omega, rfl, ?_, hbf⟩
        unfold Hid
        rw [HE.out]
        have := HO4.out
        simpa [strCells] using this
      case measure => simp [intOf]; omega
    · have hkE : k = R.length := by omega
      subst hkE
      have hall : ((R.map PgM.s).map PageS.name).take R.length = (R.map PgM.s).map PageS.name := List.take_of_length_le (by simp)
      rw [hall] at HW
      generalize hN : (R.map PgM.s).map PageS.name = N at *
      have HN : Hid (N.length = R.length) := by rw [← hN]; simp [Hid]
      have HNF : Hid (namesF (R.map PgM.s) = N.mergeSort fun x y => decide (x ≤ y)) := by unfold Hid namesF; rw [hN]
      clear hall hN
      have HC : Hid (Calls Tryd.prog 47 #[.slice A R.length c] wr fun e w' => e = .returned (.tuple #[]) ∧ w'.ownsRow w.heap.size 9 1 (.slice A R.length c) R.length (strCells (namesF (R.map PgM.s))) ∧ Below w.heap.size w w') := by
        have hs : (N.mergeSort fun x y => decide (x ≤ y)).length = N.length := by simp
        rcases HW.out.2 with ⟨hn, h0⟩ | ⟨g, cap, cur, hA, hbase, hbk, h1, h2, h3, h4⟩
        · have hNe : N = [] := List.eq_nil_of_length_eq_zero (HN.out.trans h0)
          have hW := HW.out
          rw [h0] at hW ⊢
          refine (Tryd.slices_Sort_string_none A c wr).mono ?_
          rintro e w' ⟨rfl, rfl⟩
          refine ⟨rfl, ?_, hb⟩
          rw [HNF.out, hNe]
          rw [hNe] at hW
          simpa using hW
        · injection hA with hA1 hA2 hA3
          subst hA1 hA3
          have h6N : N.length ≤ 6 := by rw [HN.out]; exact h6
          rw [← HN.out] at *
          rw [Nat.mul_one] at h4
          have hh := holds_of_block hbk (ss := N) h4
          refine (Tryd.slices_Sort_string g 0 c N wr hh (blk_lt hbk) (by omega)).mono ?_
          rintro e w' ⟨rfl, n, os, rfl⟩
          refine ⟨rfl, ?_, ?_⟩
          · rw [HNF.out]
            exact ownsRow_sorted hs hbase hbk h1 h2 h3
          · exact hb.grown (grownBy_sorted _) hb.size (fun k hk => by injection hk with hk; omega)
      go_wp2_with fail
      refine HC.out.mono ?_
      rintro e w5 ⟨rfl, ho5, hb5⟩
      have HO5 := Lib.hid ho5
      clear ho5
      go_wp2
      go_ret
      exact ⟨A, c, rfl, HO5.out, hb5⟩
end Go.Proofs.YtclebkgfogienaaDoor
