/- What edit.Check and edit.Apply answer, told by plain functions on lists. -/
import Derived.Test.YtclebkgfogienaaDoorBase
namespace Go.Proofs.YtclebkgfogienaaDoor
set_option linter.unusedSimpArgs false
set_option linter.unusedVariables false
open Go.RowKit

def eChk (n : Int) : Bool → Int → Int → List Ed → Int
  | _, _, size, [] => if 200 < size then 11 else 0
  | f, e, size, x :: r =>
    if x.pos < 0 ∨ x.del < 0 ∨ n < x.pos ∨ n - x.pos < x.del then 1
    else if 40 < x.ins.length then 2
    else if x.del = 0 ∧ x.ins = [] then 5
    else if f = true ∧ x.pos ≤ e then 6
    else eChk n true (x.pos + x.del) (size + (x.ins.length - x.del)) r
def chk (n : Int) (l : List Ed) : Int := if n < 0 ∨ 200 < n then 1 else if 20 < l.length then 2 else eChk n false 0 n l

set_option maxRecDepth 100000 in
set_option maxHeartbeats 400000 in
theorem edit_check_in (n : Int) (v : Value) (l : List Ed) (w : World) (hv : EditsAt w v l) (h0 : 0 ≤ n) (h1 : n ≤ 200) (h20 : l.length ≤ 20) :
    Calls Tryd.prog 76 #[.int .i64 n, v] w fun e w' => e = .returned (.int .i64 (chk n l)) ∧ Below w.heap.size w w' := by
  obtain ⟨A, c, rfl, hlc, hc⟩ := hv
  have HV : Hid (chk n l = eChk n false 0 n l) := by unfold Hid chk; rw [if_neg (by omega), if_neg (by omega)]
  go_enter Tryd.func76, Tryd.ntmps76
  go_wp2
  go_loopw [5, 6, 21] (fun e sz i wr => ∃ (k : Nat) (E S : Int), k ≤ l.length ∧ i = .int .i64 k ∧ e = .int .i64 E ∧ sz = .int .i64 S ∧ 0 ≤ E ∧ E ≤ 200 ∧ -200 * (k : Int) ≤ S ∧ S ≤ 200 + 40 * (k : Int) ∧ Below w.heap.size w wr ∧
      Hid (eChk n false 0 n l = eChk n (decide (0 < k)) E S (l.drop k))) (fun _ _ i _ => l.length - (intOf i).toNat)
  case atStart => exact ⟨0, 0, n, by omega, rfl, rfl, rfl, by omega, by omega, by omega, by omega, Below.refl _ _, rfl⟩
  case round =>
    obtain ⟨k, E, S, hk, rfl, rfl, rfl, hE0, hE1, hS0, hS1, hb, HD⟩ := hrel
    by_cases hlt : k < l.length
    · obtain ⟨b, off, rfl, hbw, hcell⟩ := hc (by intro h; simp [h] at hlt)
      obtain ⟨c0, c1, c2⟩ := hcell k hlt
      have c0' := (hb.cell (p := ⟨b, off + k * 3, none⟩) hbw).trans c0
      have c1' := (hb.cell (p := ⟨b, off + k * 3 + 1, none⟩) hbw).trans c1
      have c2' := (hb.cell (p := ⟨b, off + k * 3 + 2, none⟩) hbw).trans c2
      clear c0 c1 c2 hcell hc
      generalize hx : l[k] = x at *
      obtain ⟨p, d, t⟩ := x
      have HX : Hid (l[k] = ⟨p, d, t⟩) := hx
      clear hx
      go_wp2
      all_goals first
        | (go_ret
           refine ⟨ret_int ?_, hb.alloc hb.size _⟩
           rw [HV.out, HD.out, List.drop_eq_getElem_cons hlt, HX.out]
           simp only [eChk]
           repeat' split
           all_goals first
             | rfl
             | omega
             | (exfalso; simp_all; done)
             | (exfalso; simp_all; omega))
        | (go_roundw
           case rel =>
             refine ⟨k + 1, _, _, by omega, by go_num, rfl, rfl, by omega, by omega, by omega, by omega, hb.alloc hb.size _, ?_⟩
             unfold Hid
             rw [HD.out, List.drop_eq_getElem_cons hlt, HX.out]
             simp only [eChk]
             repeat' split
             all_goals first
               | omega
               | (simp_all; done)
               | (exfalso; simp_all; omega)
           case measure => simp [intOf]; omega)
    · go_wp2
      all_goals
        go_ret
        refine ⟨ret_int ?_, hb⟩
        rw [HV.out, HD.out, List.drop_of_length_le (by omega)]
        simp only [eChk]
        first
        | rw [if_pos (by omega)]
        | rw [if_neg (by omega)]

set_option maxRecDepth 100000 in
theorem edit_check (n : Int) (v : Value) (l : List Ed) (w : World) (hv : EditsAt w v l) (h0 : 0 ≤ n) :
    Calls Tryd.prog 76 #[.int .i64 n, v] w fun e w' => e = .returned (.int .i64 (chk n l)) ∧ Below w.heap.size w w' := by
  by_cases h1 : n ≤ 200
  · by_cases h20 : l.length ≤ 20
    · exact edit_check_in n v l w hv h0 h1 h20
    · obtain ⟨A, c, rfl, hlc, hc⟩ := hv
      have HV : Hid (chk n l = 2) := by unfold Hid chk; rw [if_neg (by omega), if_pos (by omega)]
      clear hc
      go_enter Tryd.func76, Tryd.ntmps76
      go_wp2
      go_ret
      exact ⟨ret_int HV.out.symm, Below.refl _ _⟩
  · obtain ⟨A, c, rfl, hlc, hc⟩ := hv
    have HV : Hid (chk n l = 1) := by unfold Hid chk; rw [if_pos (by omega)]
    clear hc
    go_enter Tryd.func76, Tryd.ntmps76
    go_wp2
    go_ret
    exact ⟨ret_int HV.out.symm, Below.refl _ _⟩

/-- the text that the edits make of what stands from 'k' on -/
def applyL (s : List UInt8) : Nat → List Ed → List UInt8
  | k, [] => s.drop k
  | k, x :: r => (s.drop k).take (x.pos.toNat - k) ++ x.ins ++ applyL s (x.pos + x.del).toNat r

/-- edits that passed the check: in order, apart, within the text -/
def Fits (n : Int) : Int → List Ed → Prop
  | _, [] => True
  | e, x :: r => e ≤ x.pos ∧ 0 ≤ x.del ∧ x.pos + x.del ≤ n ∧ x.ins.length ≤ 40 ∧ Fits n (x.pos + x.del) r

theorem fits_of_eChk (n : Int) : ∀ (l : List Ed) (f : Bool) (e size : Int), (f = false → e = 0) → eChk n f e size l = 0 → Fits n e l
  | [], _, _, _, _, _ => trivial
  | x :: r, f, e, size, hf, h => by
    simp only [eChk] at h
    by_cases h1 : x.pos < 0 ∨ x.del < 0 ∨ n < x.pos ∨ n - x.pos < x.del
    · rw [if_pos h1] at h; exact absurd h (by decide)
    rw [if_neg h1] at h
    by_cases h2 : 40 < x.ins.length
    · rw [if_pos h2] at h; exact absurd h (by decide)
    rw [if_neg h2] at h
    by_cases h3 : x.del = 0 ∧ x.ins = []
    · rw [if_pos h3] at h; exact absurd h (by decide)
    rw [if_neg h3] at h
    by_cases h4 : f = true ∧ x.pos ≤ e
    · rw [if_pos h4] at h; exact absurd h (by decide)
    rw [if_neg h4] at h
    refine ⟨?_, by omega, by omega, by omega, fits_of_eChk n r true _ _ (by simp) h⟩
    cases f
    · have := hf rfl; omega
    · simp at h4; omega
theorem fits_of_chk {n : Int} {l : List Ed} (h : chk n l = 0) : Fits n 0 l ∧ l.length ≤ 20 ∧ 0 ≤ n ∧ n ≤ 200 := by
  unfold chk at h
  by_cases h1 : n < 0 ∨ 200 < n
  · rw [if_pos h1] at h; exact absurd h (by decide)
  rw [if_neg h1] at h
  by_cases h2 : 20 < l.length
  · rw [if_pos h2] at h; exact absurd h (by decide)
  rw [if_neg h2] at h
  exact ⟨fits_of_eChk n l false 0 n (fun _ => rfl) h, by omega, by omega, by omega⟩

def apply (s : List UInt8) (l : List Ed) : List UInt8 × Int := if chk s.length l = 0 then (applyL s 0 l, 0) else ([], chk s.length l)

theorem fits_drop {n : Int} : ∀ {l : List Ed} {e : Int} (k : Nat), Fits n e l → k < l.length → ∃ e', Fits n e' (l.drop k)
  | _, e, 0, h, _ => ⟨e, h⟩
  | x :: r, _, k + 1, h, hk => fits_drop (l := r) k h.2.2.2.2 (by simpa using hk)
  | [], _, _ + 1, _, hk => by simp at hk

set_option maxRecDepth 100000 in
set_option maxHeartbeats 400000 in
theorem edit_apply_ok (s : List UInt8) (v : Value) (l : List Ed) (w : World) (hv : EditsAt w v l) (hk : chk s.length l = 0) :
    Calls Tryd.prog 55 #[.string (bs s), v] w fun e w' => e = .returned (.tuple #[.string (bs (applyL s 0 l)), .int .i64 0]) ∧ Below w.heap.size w w' := by
  obtain ⟨hF, h20, h00, h200⟩ := fits_of_chk hk
  have hv' := hv
  obtain ⟨A, c, rfl, hlc, hc⟩ := hv
  have HK : Hid (chk s.length l = 0) := hk
  clear hk
  go_enter Tryd.func55, Tryd.ntmps55
  go_wp2_with (go_at_call 76; refine (edit_check _ _ l _ hv' (by omega)).mono ?_; simp only [HK.out]; rintro e w1 ⟨rfl, hb1⟩)
  go_loopw [7, 8, 20] (fun o a i wr => ∃ (k at_ : Nat) (out : List UInt8), k ≤ l.length ∧ i = .int .i64 k ∧ a = .int .i64 at_ ∧ o = .string (bs out) ∧ at_ ≤ s.length ∧ out.length ≤ 200 + 300 * k ∧ Below w.heap.size w wr ∧
      Hid (applyL s 0 l = out ++ applyL s at_ (l.drop k)) ∧ Hid (Fits s.length at_ (l.drop k))) (fun _ _ i _ => l.length - (intOf i).toNat)
  case atStart => exact ⟨0, 0, [], by omega, rfl, rfl, by rw [bs_emp], by omega, by simp, hb1, rfl, hF⟩
  case round =>
    obtain ⟨k, at_, out, hk, rfl, rfl, rfl, hat, hol, hb, HD, HF⟩ := hrel
    clear hF hb1
    by_cases hlt : k < l.length
    · obtain ⟨b, off, rfl, hbw, hcell⟩ := hc (by intro h; simp [h] at hlt)
      obtain ⟨c0, c1, c2⟩ := hcell k hlt
      have c0' := (hb.cell (p := ⟨b, off + k * 3, none⟩) hbw).trans c0
      have c1' := (hb.cell (p := ⟨b, off + k * 3 + 1, none⟩) hbw).trans c1
      have c2' := (hb.cell (p := ⟨b, off + k * 3 + 2, none⟩) hbw).trans c2
      clear c0 c1 c2 hcell hc
      have hF := HF.out
      rw [List.drop_eq_getElem_cons hlt] at hF
      have hD := HD.out
      rw [List.drop_eq_getElem_cons hlt] at hD
      generalize hx : l[k] = x at *
      obtain ⟨p, d, t⟩ := x
      clear hx HF HD
      obtain ⟨f1, f2, f3, f4, f5⟩ := hF
      simp only at f1 f2 f3 f4 f5
      obtain ⟨p', rfl⟩ : ∃ p' : Nat, p = (p' : Int) := ⟨p.toNat, by omega⟩
      obtain ⟨d', rfl⟩ : ∃ d' : Nat, d = (d' : Int) := ⟨d.toNat, by omega⟩
      have F5 : Hid (Fits s.length ((p' : Int) + d') (l.drop (k + 1))) := f5
      have HD : Hid (applyL s 0 l = out ++ ((s.drop at_).take (p' - at_) ++ t ++ applyL s (p' + d') (l.drop (k + 1)))) := hD
      clear f5 hD
      go_wp2
      go_quiet (fail)
      go_wp2
      go_roundw
      case rel =>
        refine ⟨k + 1, p' + d', _, by omega, by go_num, by go_num, rfl, by omega, ?_, below_drewN (hb.alloc hb.size _) _, ?_, ?_⟩
        · simp only [List.length_append, List.length_take, List.length_drop]
          omega
        · unfold Hid; rw [HD.out]; simp only [List.append_assoc]
        · exact F5
      case measure => simp [intOf]; omega
    · go_wp2
      go_ret2
      refine ⟨ret_se ?_ rfl, hb⟩
      rw [HD.out, List.drop_of_length_le (l := l) (by omega)]
      simp [applyL]

set_option maxRecDepth 100000 in
theorem edit_apply (s : List UInt8) (v : Value) (l : List Ed) (w : World) (hv : EditsAt w v l) (hs : s.length ≤ 140737488351232) :
    Calls Tryd.prog 55 #[.string (bs s), v] w fun e w' => e = .returned (.tuple #[.string (bs (apply s l).1), .int .i64 (apply s l).2]) ∧ Below w.heap.size w w' := by
  by_cases hk : chk s.length l = 0
  · unfold apply
    rw [if_pos hk]
    exact edit_apply_ok s v l w hv hk
  · unfold apply
    rw [if_neg hk]
    generalize hc : chk s.length l = c at *
    have HC : Hid (chk s.length l = c) := hc
    have hne : (c != 0) = true := by simpa using hk
    clear hc hk
    obtain ⟨A, c', rfl, hlc, hcc⟩ := id hv
    clear hcc
    go_enter Tryd.func55, Tryd.ntmps55
    go_wp2_with (go_at_call 76; refine (edit_check _ _ l _ hv (by omega)).mono ?_; simp only [HC.out]; rintro e w1 ⟨rfl, hb1⟩)
    go_ret2
    exact ⟨rfl, hb1⟩
end Go.Proofs.YtclebkgfogienaaDoor
