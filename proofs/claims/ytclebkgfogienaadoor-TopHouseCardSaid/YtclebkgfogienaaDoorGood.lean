/- good: are all errors none? The text of a name. -/
import Derived.Test.YtclebkgfogienaaDoorWorked
namespace Go.Proofs.YtclebkgfogienaaDoor
set_option linter.unusedSimpArgs false
set_option linter.unusedVariables false
open Go.RowKit

def errCells (l : List Int) : List Value := l.map fun n => .int .i64 n
set_option maxRecDepth 100000 in
theorem keep_good1 (n : Int) (w : World) : Calls Tryd.prog 58 #[.int .i64 n] w fun e w' => e = .returned (.bool (!(n == 0))) ∧ w' = w := by
  go_enter Tryd.func58, Tryd.ntmps58
  go_wp2
  go_ret
  exact ⟨rfl, rfl⟩
set_option maxRecDepth 100000 in
theorem top_good1 (n : Int) (w : World) : Calls Tryd.prog 57 #[.int .i64 n] w fun e w' => e = .returned (.bool (!(n == 0))) ∧ w' = w := by
  go_enter Tryd.func57, Tryd.ntmps57
  go_wp2
  go_ret
  exact ⟨rfl, rfl⟩

def errIdx (l : List Int) : Int := match l.findIdx? (fun n => !(n == 0)) with | some k => k | none => -1
theorem errIdx_all (l : List Int) : (0 ≤ errIdx l) = ¬ (l.all (· == 0) = true) := by
  unfold errIdx
  cases h : l.findIdx? (fun n => !(n == 0)) with
  | none =>
    rw [List.findIdx?_eq_none_iff] at h
    have : l.all (· == 0) = true := List.all_eq_true.2 (fun x hx => by simpa using h x hx)
    simp [this]
  | some k =>
    obtain ⟨hk, hx, _⟩ := List.findIdx?_eq_some_iff_getElem.1 h
    have : ¬ l.all (· == 0) = true := fun ha => by
      have := List.all_eq_true.1 ha l[k] (List.getElem_mem hk)
      simp [this] at hx
    simp only [this]
    simp
theorem errIdx_any (l : List Int) : decide (0 ≤ errIdx l) = !(l.all (· == 0)) := by
  have h := errIdx_all l
  by_cases ha : l.all (· == 0) = true
  · rw [ha]
    simp only [ha] at h
    simp at h
    simpa using h
  · have ha2 : l.all (· == 0) = false := by simpa using ha
    rw [ha2]
    simp only [ha2] at h
    simpa using h
set_option maxRecDepth 100000 in
set_option maxHeartbeats 400000 in
theorem keep_good_index (b off c : Nat) (l : List Int) (w : World) (hl : l.length ≤ 100) (hc : ∀ j (h : j < l.length), w.cell? ⟨b, off + j, none⟩ = some (.int .i64 l[j])) :
    Calls Tryd.prog 77 #[.slice (some ⟨b, off, none⟩) l.length c, .func (Fn.func 58) #[] #[]] w fun e w' => e = .returned (.int .i64 (errIdx l)) ∧ w' = w := by
  have HC := Lib.hid hc
  clear hc
  go_enter Tryd.func77, Tryd.ntmps77
  go_wp2
  go_loopw [8] (fun i wr => ∃ k : Nat, k ≤ l.length ∧ i = .int .i64 k ∧ Hid (∀ j (h : j < l.length), j < k → l[j] = 0) ∧ wr = w) (fun i _ => l.length - (intOf i).toNat)
  case atStart => exact ⟨0, by omega, rfl, fun j h hj => absurd hj (by omega), rfl⟩
  case round =>
    obtain ⟨k, hk, rfl, HN, rfl⟩ := hrel
    by_cases hlt : k < l.length
    · have p0 := HC.out k hlt
      have C := Lib.hid (keep_good1 l[k] wr)
      have HKN : Hid (l[k] = 0 → ∀ j (h : j < l.length), j < k + 1 → l[j] = 0) := by
        intro h j hj hjk
        by_cases hjk' : j = k
        · subst hjk'; exact h
        · exact HN.out j hj (by omega)
      have HI : Hid (l[k] ≠ 0 → errIdx l = k) := by
        intro h
        have : l.findIdx? (fun n => !(n == 0)) = some k := by
          rw [List.findIdx?_eq_some_iff_getElem]
          refine ⟨hlt, by simpa using h, fun j hj => ?_⟩
          simpa using HN.out j (by omega) hj
        unfold errIdx
        rw [this]
      generalize l[k] = r at *
      by_cases hn : r = 0
      · have HKE := Lib.hid (HKN.out hn)
        have hb : (!(r == 0)) = false := by simp [hn]
        rw [hb] at C
        clear hn hb
        go_wp2_with fail
        refine C.out.mono ?_
        rintro e w1 ⟨rfl, rfl⟩
        go_wp2
        go_roundw
        case rel => exact ⟨k + 1, by omega, by go_num, HKE.out, trivial⟩
        case measure => simp [intOf]; omega
      · have HIE := Lib.hid (HI.out hn)
        have hb : (!(r == 0)) = true := by simp [hn]
        rw [hb] at C
        clear hn hb
        go_wp2_with fail
        refine C.out.mono ?_
        rintro e w1 ⟨rfl, rfl⟩
        go_wp2
        go_ret
        rw [HIE.out]
        exact ⟨rfl, rfl⟩
    · have HE : Hid (errIdx l = -1) := by
        have : l.findIdx? (fun n => !(n == 0)) = none := by
          rw [List.findIdx?_eq_none_iff]
          intro p hp
          obtain ⟨j, hj, rfl⟩ := List.getElem_of_mem hp
          simpa using HN.out j hj (by omega)
        unfold Hid errIdx
        rw [this]
      go_wp2
      go_ret
      rw [HE.out]
      exact ⟨rfl, rfl⟩
set_option maxRecDepth 100000 in
theorem keep_good_any (b off c : Nat) (l : List Int) (w : World) (hl : l.length ≤ 100) (hc : ∀ j (h : j < l.length), w.cell? ⟨b, off + j, none⟩ = some (.int .i64 l[j])) :
    Calls Tryd.prog 56 #[.slice (some ⟨b, off, none⟩) l.length c, .func (Fn.func 58) #[] #[]] w fun e w' => e = .returned (.bool (!(l.all (· == 0)))) ∧ w' = w := by
  have C := Lib.hid (keep_good_index b off c l w hl hc)
  have HA := Lib.hid (errIdx_any l)
  clear hc
  generalize errIdx l = i at *
  generalize (!(l.all (· == 0))) = a at *
  go_enter Tryd.func56, Tryd.ntmps56
  go_wp2_with fail
  refine C.out.mono ?_
  rintro e w1 ⟨rfl, rfl⟩
  go_wp2
  go_ret
  rw [← HA.out]
  exact ⟨rfl, rfl⟩
set_option maxRecDepth 100000 in
theorem keep_good (b c : Nat) (l : List Int) (w : World) (hl : l.length ≤ 100) (hc : ∀ j (h : j < l.length), w.cell? ⟨b, j, none⟩ = some (.int .i64 l[j])) :
    Calls Tryd.prog 34 #[.slice (some ⟨b, 0, none⟩) l.length c] w fun e w' => e = .returned (.bool (l.all (· == 0))) ∧ w' = w := by
  have C := Lib.hid (keep_good_any b 0 c l w hl (fun j h => by rw [Nat.zero_add]; exact hc j h))
  clear hc
  generalize l.all (· == 0) = a at *
  go_enter Tryd.func34, Tryd.ntmps34
  go_wp2_with fail
  refine C.out.mono ?_
  rintro e w1 ⟨rfl, rfl⟩
  go_wp2
  go_ret
  simp
set_option maxRecDepth 100000 in
set_option maxHeartbeats 400000 in
theorem top_good_index (b off c : Nat) (l : List Int) (w : World) (hl : l.length ≤ 100) (hc : ∀ j (h : j < l.length), w.cell? ⟨b, off + j, none⟩ = some (.int .i64 l[j])) :
    Calls Tryd.prog 77 #[.slice (some ⟨b, off, none⟩) l.length c, .func (Fn.func 57) #[] #[]] w fun e w' => e = .returned (.int .i64 (errIdx l)) ∧ w' = w := by
  have HC := Lib.hid hc
  clear hc
  go_enter Tryd.func77, Tryd.ntmps77
  go_wp2
  go_loopw [8] (fun i wr => ∃ k : Nat, k ≤ l.length ∧ i = .int .i64 k ∧ Hid (∀ j (h : j < l.length), j < k → l[j] = 0) ∧ wr = w) (fun i _ => l.length - (intOf i).toNat)
  case atStart => exact ⟨0, by omega, rfl, fun j h hj => absurd hj (by omega), rfl⟩
  case round =>
    obtain ⟨k, hk, rfl, HN, rfl⟩ := hrel
    by_cases hlt : k < l.length
    · have p0 := HC.out k hlt
      have C := Lib.hid (top_good1 l[k] wr)
      have HKN : Hid (l[k] = 0 → ∀ j (h : j < l.length), j < k + 1 → l[j] = 0) := by
        intro h j hj hjk
        by_cases hjk' : j = k
        · subst hjk'; exact h
        · exact HN.out j hj (by omega)
      have HI : Hid (l[k] ≠ 0 → errIdx l = k) := by
        intro h
        have : l.findIdx? (fun n => !(n == 0)) = some k := by
          rw [List.findIdx?_eq_some_iff_getElem]
          refine ⟨hlt, by simpa using h, fun j hj => ?_⟩
          simpa using HN.out j (by omega) hj
        unfold errIdx
        rw [this]
      generalize l[k] = r at *
      by_cases hn : r = 0
      · have HKE := Lib.hid (HKN.out hn)
        have hb : (!(r == 0)) = false := by simp [hn]
        rw [hb] at C
        clear hn hb
        go_wp2_with fail
        refine C.out.mono ?_
        rintro e w1 ⟨rfl, rfl⟩
        go_wp2
        go_roundw
        case rel => exact ⟨k + 1, by omega, by go_num, HKE.out, trivial⟩
        case measure => simp [intOf]; omega
      · have HIE := Lib.hid (HI.out hn)
        have hb : (!(r == 0)) = true := by simp [hn]
        rw [hb] at C
        clear hn hb
        go_wp2_with fail
        refine C.out.mono ?_
        rintro e w1 ⟨rfl, rfl⟩
        go_wp2
        go_ret
        rw [HIE.out]
        exact ⟨rfl, rfl⟩
    · have HE : Hid (errIdx l = -1) := by
        have : l.findIdx? (fun n => !(n == 0)) = none := by
          rw [List.findIdx?_eq_none_iff]
          intro p hp
          obtain ⟨j, hj, rfl⟩ := List.getElem_of_mem hp
          simpa using HN.out j hj (by omega)
        unfold Hid errIdx
        rw [this]
      go_wp2
      go_ret
      rw [HE.out]
      exact ⟨rfl, rfl⟩
set_option maxRecDepth 100000 in
theorem top_good_any (b off c : Nat) (l : List Int) (w : World) (hl : l.length ≤ 100) (hc : ∀ j (h : j < l.length), w.cell? ⟨b, off + j, none⟩ = some (.int .i64 l[j])) :
    Calls Tryd.prog 56 #[.slice (some ⟨b, off, none⟩) l.length c, .func (Fn.func 57) #[] #[]] w fun e w' => e = .returned (.bool (!(l.all (· == 0)))) ∧ w' = w := by
  have C := Lib.hid (top_good_index b off c l w hl hc)
  have HA := Lib.hid (errIdx_any l)
  clear hc
  generalize errIdx l = i at *
  generalize (!(l.all (· == 0))) = a at *
  go_enter Tryd.func56, Tryd.ntmps56
  go_wp2_with fail
  refine C.out.mono ?_
  rintro e w1 ⟨rfl, rfl⟩
  go_wp2
  go_ret
  rw [← HA.out]
  exact ⟨rfl, rfl⟩
set_option maxRecDepth 100000 in
theorem top_good (b c : Nat) (l : List Int) (w : World) (hl : l.length ≤ 100) (hc : ∀ j (h : j < l.length), w.cell? ⟨b, j, none⟩ = some (.int .i64 l[j])) :
    Calls Tryd.prog 32 #[.slice (some ⟨b, 0, none⟩) l.length c] w fun e w' => e = .returned (.bool (l.all (· == 0))) ∧ w' = w := by
  have C := Lib.hid (top_good_any b 0 c l w hl (fun j h => by rw [Nat.zero_add]; exact hc j h))
  clear hc
  generalize l.all (· == 0) = a at *
  go_enter Tryd.func32, Tryd.ntmps32
  go_wp2_with fail
  refine C.out.mono ?_
  rintro e w1 ⟨rfl, rfl⟩
  go_wp2
  go_ret
  simp
end Go.Proofs.YtclebkgfogienaaDoor
