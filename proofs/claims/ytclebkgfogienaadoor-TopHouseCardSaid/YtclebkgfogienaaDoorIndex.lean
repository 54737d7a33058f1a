/- The search for a page by its name. -/
import Derived.Test.YtclebkgfogienaaDoorHouseA
namespace Go.Proofs.YtclebkgfogienaaDoor
set_option linter.unusedSimpArgs false
set_option linter.unusedVariables false
open Go.RowKit

set_option maxRecDepth 100000 in
theorem house_same (a b : List UInt8) (x y : Value) (gd : Nat) (w : World) (hd : w.cell? ⟨gd, 2, none⟩ = some (.string (bs b))) (hgd : gd < w.heap.size) :
    Calls Tryd.prog 37 #[.agg #[.string (bs a), x, y], .pointer (some ⟨gd, 0, none⟩)] w fun e w' => e = .returned (.bool (a == b)) ∧ Below w.heap.size w w' := by
  have hd' : ∀ o, (w.alloc o).cell? ⟨gd, 2, none⟩ = some (.string (bs b)) := fun o => (World.cell?_alloc_lt w o _ hgd).trans hd
  go_enter Tryd.func37, Tryd.ntmps37
  go_wp2
  go_ret
  exact ⟨rfl, (Below.refl _ _).alloc (Nat.le_refl _) _⟩

def idxF (H : List PageS) (name : List UInt8) : Option Nat := H.findIdx? (fun p => p.name = name)
def idxI (H : List PageS) (name : List UInt8) : Int := match idxF H name with | some k => k | none => -1

set_option maxRecDepth 100000 in
set_option maxHeartbeats 400000 in
theorem house_index (A : Option Addr) (c : Nat) (R : List PgM) (name : List UInt8) (gd : Nat) (w : World) (hO : OwnC 64 3 w A R.length c (pgCells R)) (hR : R.length ≤ 6) (hd : w.cell? ⟨gd, 2, none⟩ = some (.string (bs name))) (hgd : gd < w.heap.size) :
    Calls Tryd.prog 36 #[.slice A R.length c, .func (Fn.func 37) #[] #[.pointer (some ⟨gd, 0, none⟩)]] w fun e w' => e = .returned (.int .i64 (idxI (R.map PgM.s) name)) ∧ Below w.heap.size w w' := by
  have HO := Lib.hid hO
  have HD := Lib.hid hd
  clear hO hd
  go_enter Tryd.func36, Tryd.ntmps36
  go_wp2
  go_loopw [8] (fun i wr => ∃ k : Nat, k ≤ R.length ∧ i = .int .i64 k ∧ Hid (∀ j (h : j < R.length), j < k → R[j].s.name ≠ name) ∧ Below w.heap.size w wr) (fun i _ => R.length - (intOf i).toNat)
  case atStart => exact ⟨0, by omega, rfl, fun j h hj => absurd hj (by omega), Below.refl _ _⟩
  case round =>
    obtain ⟨k, hk, rfl, HN, hb⟩ := hrel
    by_cases hlt : k < R.length
    · obtain ⟨b, off, rfl, hnc, hbl⟩ := HO.out.addr (by omega)
      have hOr := HO.out.below hb
      have p0 := hOr.cell (k * 3) (by omega)
      have p1 := hOr.cell (k * 3 + 1) (by omega)
      have p2 := hOr.cell (k * 3 + 2) (by omega)
      obtain ⟨e0, e1, e2⟩ := pgCells_at R k hlt
      rw [e0] at p0
      rw [e1] at p1
      rw [e2] at p2
      rw [← Nat.add_assoc] at p1 p2
      have C := Lib.hid (house_same R[k].s.name name (.pointer (some ⟨R[k].ge, 0, none⟩)) (.pointer (some ⟨R[k].gl, 0, none⟩)) gd wr ((hb.cell (p := ⟨gd, 2, none⟩) hgd).trans HD.out) (Nat.lt_of_lt_of_le hgd hb.size))
      have HKN : Hid (∀ h : R[k].s.name ≠ name, ∀ j (h : j < R.length), j < k + 1 → R[j].s.name ≠ name) := by
        intro h j hj hjk
        by_cases hjk' : j = k
        · subst hjk'; exact h
        · exact HN.out j hj (by omega)
      have HI : Hid (R[k].s.name = name → idxI (R.map PgM.s) name = k) := by
        intro h
        have : idxF (R.map PgM.s) name = some k := by
          unfold idxF
          rw [List.findIdx?_eq_some_iff_getElem]
          refine ⟨by simpa using hlt, by simpa using h, fun j hj => ?_⟩
          simpa using HN.out j (by omega) hj
        unfold idxI
        rw [this]
      clear e0 e1 e2 hOr
      generalize R[k] = r at *
      by_cases hn : r.s.name = name
      · have HIE := Lib.hid (HI.out hn)
        rw [beq_iff_eq.2 hn] at C
        clear hn
        go_wp2_with fail
        refine C.out.mono ?_
        rintro e w1 ⟨rfl, hb1⟩
        go_wp2
        go_ret
        rw [HIE.out]
        exact ⟨rfl, hb.trans (hb1.mono hb.size)⟩
      · have HKE := Lib.hid (HKN.out hn)
        rw [beq_eq_false_iff_ne.2 hn] at C
        clear hn
        go_wp2_with fail
        refine C.out.mono ?_
        rintro e w1 ⟨rfl, hb1⟩
        go_wp2
        go_roundw
        case rel => exact ⟨k + 1, by omega, by go_num, HKE.out, hb.trans (hb1.mono hb.size)⟩
        case measure => simp [intOf]; omega
    · have HE : Hid (idxI (R.map PgM.s) name = -1) := by
        have : idxF (R.map PgM.s) name = none := by
          unfold idxF
          rw [List.findIdx?_eq_none_iff]
          intro p hp
          obtain ⟨r, hr, rfl⟩ := List.mem_map.1 hp
          obtain ⟨j, hj, rfl⟩ := List.getElem_of_mem hr
          simpa using HN.out j hj (by omega)
        unfold Hid idxI
        rw [this]
      go_wp2
      go_ret
      rw [HE.out]
      exact ⟨rfl, hb⟩
end Go.Proofs.YtclebkgfogienaaDoor
