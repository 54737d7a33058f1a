/- Rows of strings that a call owns: compared, copied, spoiled. -/
import Derived.Test.YtclebkgfogienaaDoorHSt
namespace Go.Proofs.YtclebkgfogienaaDoor
set_option linter.unusedSimpArgs false
set_option linter.unusedVariables false
open Go.RowKit

theorem strs_getD (l : List (List UInt8)) (j : Nat) (h : j < l.length) : some (Value.string ((l.map bs).getD j ByteArray.empty)) = (strCells l)[j]? := by
  simp [strCells, List.getD, h]
theorem own_one (w : World) (s : List UInt8) : OwnC 9 1 (w.alloc (.cells #[.string (bs s)] 9)) (some ⟨w.heap.size, 0, none⟩) 1 1 (strCells [s]) :=
  ⟨by simp [strCells], .inr ⟨_, 0, _, rfl, heap_new _ _, Nat.le_refl _, by unfold maxLen; omega, by simp, fun i hi => by
    have : i = 0 := by omega
    subst this
    simp [strCells]⟩⟩
theorem map_bs_inj {a b : List (List UInt8)} : (a.map bs = b.map bs) ↔ a = b := by
  constructor
  · intro h
    have : (a.map bs).map sl = (b.map bs).map sl := by rw [h]
    simpa [List.map_map, Function.comp_def, sl_bs] using this
  · rintro rfl; rfl
theorem eq_strs (A1 A2 : Option Addr) (c1 c2 : Nat) (l1 l2 : List (List UInt8)) (W : World) (h1 : OwnC 9 1 W A1 l1.length c1 (strCells l1)) (h2 : OwnC 9 1 W A2 l2.length c2 (strCells l2)) (hl : l2.length ≤ 9223372036854775807) :
    Calls Tryd.prog 13 #[.slice A1 l1.length c1, .slice A2 l2.length c2] W fun e w' => e = .returned (.bool (decide (l1 = l2))) ∧ Below W.heap.size W w' := by
  by_cases hn : l1.length = l2.length
  · by_cases h0 : l1.length = 0
    · have e1 : l1 = [] := List.eq_nil_of_length_eq_zero h0
      have e2 : l2 = [] := List.eq_nil_of_length_eq_zero (by omega)
      subst e1 e2
      refine (Tryd.slices_Equal_string_empty A1 A2 c1 0 c2 W (by omega)).mono ?_
      rintro e w' ⟨rfl, rfl⟩
      exact ⟨rfl, Below.refl _ _⟩
    · obtain ⟨b1, o1, rfl, _, _⟩ := h1.addr (by omega)
      obtain ⟨b2, o2, rfl, _, _⟩ := h2.addr (by omega)
      refine (Tryd.slices_Equal_string b1 o1 l1.length c1 b2 o2 l2.length c2 (l1.map bs) (l2.map bs) W (by simp) (by simp) (by omega) hl (fun j hj => ?_) (fun j hj => ?_)).mono ?_
      · have hj' : j < l1.length := by simpa using hj
        rw [h1.cell j (by omega), strs_getD l1 j hj']
      · have hj' : j < l2.length := by simpa using hj
        rw [h2.cell j (by omega), strs_getD l2 j hj']
      · rintro e w' ⟨rfl, q, rfl⟩
        refine ⟨?_, below_drewN (Below.refl _ _) _⟩
        rw [List.take_of_length_le (by simp), List.take_of_length_le (by simp)]
        have : decide (l1.map bs = l2.map bs) = decide (l1 = l2) := by simp [map_bs_inj]
        rw [this]
  · refine (Tryd.slices_Equal_string_lens A1 A2 l1.length c1 l2.length c2 W hn).mono ?_
    rintro e w' ⟨rfl, rfl⟩
    have : decide (l1 = l2) = false := decide_eq_false (fun h => hn (by rw [h]))
    rw [this]
    exact ⟨rfl, Below.refl _ _⟩
theorem clone_strs (A : Option Addr) (c : Nat) (l : List (List UInt8)) (W : World) (h : OwnC 9 1 W A l.length c (strCells l)) (hl : l.length * 16 ≤ 140737488355328) :
    Calls Tryd.prog 20 #[.slice A l.length c] W fun e w' => ∃ A' c', e = .returned (.slice A' l.length c') ∧ OwnC 9 1 w' A' l.length c' (strCells l) ∧ (∀ b ∈ blk A', W.heap.size ≤ b) ∧ Below W.heap.size W w' := by
  cases A with
  | none =>
    have h0 : l.length = 0 := by
      rcases h.2 with ⟨_, h2, _⟩ | ⟨b, off, cur, he, _⟩
      · exact h2
      · cases he
    have e1 : l = [] := List.eq_nil_of_length_eq_zero h0
    subst e1
    refine (Tryd.slices_Clone_string_nil 0 c W).mono ?_
    rintro e w' ⟨rfl, rfl⟩
    exact ⟨none, 0, rfl, OwnC.nil _ _ _, by simp [blk], Below.refl _ _⟩
  | some a =>
    by_cases h0 : l.length = 0
    · have e1 : l = [] := List.eq_nil_of_length_eq_zero h0
      subst e1
      refine (Tryd.slices_Clone_string_zero a c W).mono ?_
      rintro e w' ⟨v', rfl, ho, _, hb⟩
      obtain ⟨A', c', rfl⟩ := owns_shape ho
      exact ⟨A', c', rfl, OwnC.of_row ho, owns_blk ho, hb⟩
    · obtain ⟨b1, o1, he, _, _⟩ := h.addr (by omega)
      cases he
      refine (Tryd.slices_Clone_string b1 o1 l.length c (l.map bs) W (by simp) hl (fun j hj => ?_)).mono ?_
      · have hj' : j < l.length := by simpa using hj
        rw [h.cell j (by omega), strs_getD l j hj']
      · rintro e w' ⟨v', rfl, ho, _, hb⟩
        have e2 : ((l.map bs).take l.length).map Value.string = strCells l := by
          rw [List.take_of_length_le (by simp)]
          simp [strCells, List.map_map, Function.comp_def]
        rw [e2] at ho
        obtain ⟨A', c', rfl⟩ := owns_shape ho
        exact ⟨A', c', rfl, OwnC.of_row ho, owns_blk ho, hb⟩

set_option maxRecDepth 100000 in
set_option maxHeartbeats 800000 in
theorem keep_spoil (A : Option Addr) (n c : Nat) (xs : List Value) (s : List UInt8) (W : World) (h : OwnC 9 1 W A n c xs) :
    Calls Tryd.prog 21 #[.slice A n c, .string (bs s)] W fun e w' => e = .returned (.tuple #[]) ∧ Upd (blk A) W w' := by
  rcases h.2 with ⟨rfl, rfl, rfl⟩ | ⟨b, off, cur, rfl, hb, hn, hm, hs, _⟩
  · clear h
    go_enter Tryd.func21, Tryd.ntmps21
    go_wp2
    go_loopw [11] (fun iv wr => iv = .int .i64 0 ∧ wr = W) (fun iv _ => 0)
    case atStart => exact ⟨rfl, rfl⟩
    case round =>
      obtain ⟨rfl, rfl⟩ := hrel
      go_wp2
      go_end0
      exact ⟨rfl, Upd.refl _ _⟩
  · have hm' : c ≤ 9223372036854775807 := hm
    have HB := Lib.hid hb
    clear h hb hm
    go_enter Tryd.func21, Tryd.ntmps21
    go_wp2
    go_loopw [4, 11] (fun _ iv wr => ∃ k : Nat, iv = .int .i64 k ∧ k ≤ c ∧ Hid (Upd [b] W wr) ∧ Hid (∃ cur', wr.heap[b]? = some (.cells cur' 9 (0, 0)) ∧ cur'.size = cur.size)) (fun _ iv _ => c - (intOf iv).toNat)
    case atStart => exact ⟨0, rfl, by omega, Upd.refl _ _, cur, HB.out, rfl⟩
    case round =>
      obtain ⟨k, rfl, hk, HU, HC⟩ := hrel
      by_cases hlt : k < c
      · obtain ⟨cur', hc1, hc2⟩ := HC.out
        have hcell : wr.cell? ⟨b, off + k, none⟩ = some (cur'[off + k]'(by omega)) := by rw [blk_cell hc1, Array.getElem?_eq_getElem (by omega)]
        have hfr : wr.frozen? ⟨b, off + k, none⟩ = false := blk_frozen hc1 _
        have HU2 := Lib.hid (HU.out.trans (Upd.setCell wr b (off + k) (.string (bs s))) (fun x hx => .inl hx))
        have HC2 : Hid (∃ cur', (wr.setCell ⟨b, off + k, none⟩ (.string (bs s))).heap[b]? = some (.cells cur' 9 (0, 0)) ∧ cur'.size = cur.size) := ⟨_, blk_set hc1 _ _, by simp [hc2]⟩
        generalize cur'[off + k]'(by omega) = x at *
        clear hc1 hc2
        go_wp2
        go_roundw
        case rel => exact ⟨k + 1, by go_num, by omega, HU2.out, HC2.out⟩
        case measure => simp [intOf]; omega
      · go_wp2
        go_end0
        exact ⟨rfl, HU.out⟩
end Go.Proofs.YtclebkgfogienaaDoor
