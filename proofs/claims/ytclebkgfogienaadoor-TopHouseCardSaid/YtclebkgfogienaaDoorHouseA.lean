/- A house: its pages in memory; house.New, house.name, and the search for a name. -/
import Derived.Test.YtclebkgfogienaaDoorPagePack
namespace Go.Proofs.YtclebkgfogienaaDoor
set_option linter.unusedSimpArgs false
set_option linter.unusedVariables false
open Go.RowKit

/-- a page as it lies in memory: what it is, where its editor and its leaf lie, and their blocks -/
structure PgM where
  s : PageS
  ge : Nat
  gl : Nat
  fp : List Nat
def pgCells (R : List PgM) : List Value := R.flatMap fun r => [.string (bs r.s.name), .pointer (some ⟨r.ge, 0, none⟩), .pointer (some ⟨r.gl, 0, none⟩)]
theorem pgCells_length (R : List PgM) : (pgCells R).length = R.length * 3 := by
  induction R with
  | nil => rfl
  | cons r R ih => simp [pgCells] at ih ⊢; omega
theorem pgCells_at : ∀ (R : List PgM) (i : Nat) (h : i < R.length), (pgCells R)[i * 3]? = some (.string (bs R[i].s.name)) ∧ (pgCells R)[i * 3 + 1]? = some (.pointer (some ⟨R[i].ge, 0, none⟩)) ∧ (pgCells R)[i * 3 + 2]? = some (.pointer (some ⟨R[i].gl, 0, none⟩))
  | r :: R, 0, _ => ⟨rfl, rfl, rfl⟩
  | r :: R, i + 1, h => by
    have ih := pgCells_at R i (by simpa using h)
    have e : ∀ j, (pgCells (r :: R))[j + 3]? = (pgCells R)[j]? := fun j => rfl
    rw [show (i + 1) * 3 = i * 3 + 3 by omega, e, show i * 3 + 3 + 1 = (i * 3 + 1) + 3 by omega, e, show i * 3 + 3 + 2 = (i * 3 + 2) + 3 by omega, e]
    simpa using ih

structure IsHouseM (w : World) (gh : Nat) (R : List PgM) (A : Option Addr) (c : Nat) : Prop where
  cell : w.heap[gh]? = some (.cells #[.slice A R.length c] 66 (0, 0))
  own : OwnC 64 3 w A R.length c (pgCells R)
  pg : ∀ r ∈ R, IsPg w r.ge r.gl r.s.E r.s.L r.fp
  d1 : gh ∉ blk A
  d2 : ∀ r ∈ R, gh ∉ r.fp ∧ Dis (blk A) r.fp
  d3 : (R.map PgM.fp).Pairwise Dis
def hfp (gh : Nat) (R : List PgM) (A : Option Addr) : List Nat := gh :: (blk A ++ R.flatMap PgM.fp)
theorem mem_hfp {gh : Nat} {R : List PgM} {A : Option Addr} {b : Nat} : b ∈ hfp gh R A ↔ b = gh ∨ b ∈ blk A ∨ ∃ r ∈ R, b ∈ r.fp := by simp [hfp]
/-- a house that is in the state H -/
def IsHouse (w : World) (gh : Nat) (H : List PageS) (F : List Nat) : Prop := ∃ R A c, IsHouseM w gh R A c ∧ H = R.map PgM.s ∧ F = hfp gh R A
theorem IsHouseM.lt {w : World} {gh : Nat} {R : List PgM} {A : Option Addr} {c : Nat} (h : IsHouseM w gh R A c) : ∀ b ∈ hfp gh R A, b < w.heap.size := by
  intro b hb
  rcases mem_hfp.1 hb with rfl | hb | ⟨r, hr, hb⟩
  · exact blk_lt h.cell
  · exact h.own.lt b hb
  · exact (h.pg r hr).lt b hb
theorem IsHouseM.upd {w w' : World} {gh : Nat} {R : List PgM} {A : Option Addr} {c : Nat} {S : List Nat} (h : IsHouseM w gh R A c) (hu : Upd S w w') (hS : ∀ b ∈ hfp gh R A, b ∉ S) : IsHouseM w' gh R A c :=
  ⟨(hu.block gh (blk_lt h.cell) (hS gh (mem_hfp.2 (.inl rfl)))).trans h.cell, h.own.upd hu (fun b hb => hS b (mem_hfp.2 (.inr (.inl hb)))),
    fun r hr => (h.pg r hr).upd hu (fun b hb => hS b (mem_hfp.2 (.inr (.inr ⟨r, hr, hb⟩)))), h.d1, h.d2, h.d3⟩
theorem IsHouse.lt {w : World} {gh : Nat} {H : List PageS} {F : List Nat} (h : IsHouse w gh H F) : ∀ b ∈ F, b < w.heap.size := by
  obtain ⟨R, A, c, h1, rfl, rfl⟩ := h
  exact h1.lt
theorem IsHouse.upd {w w' : World} {gh : Nat} {H : List PageS} {F S : List Nat} (h : IsHouse w gh H F) (hu : Upd S w w') (hS : ∀ b ∈ F, b ∉ S) : IsHouse w' gh H F := by
  obtain ⟨R, A, c, h1, rfl, rfl⟩ := h
  exact ⟨R, A, c, h1.upd hu hS, rfl, rfl⟩
theorem IsHouse.below {w w' : World} {gh : Nat} {H : List PageS} {F : List Nat} (h : IsHouse w gh H F) (hu : Below w.heap.size w w') : IsHouse w' gh H F := h.upd (Upd.of (S := []) hu) (by simp)
/-- what a call that may turn a house leaves -/
def HsPost (gh : Nat) (H : List PageS) (F : List Nat) (w : World) (v : Value) (e : Ending) (w' : World) : Prop :=
  e = .returned v ∧ ∃ F', IsHouse w' gh H F' ∧ Upd F w w' ∧ Fresh w F' F
theorem HsPost.same {gh : Nat} {H : List PageS} {F : List Nat} {w w' : World} {v : Value} (h : IsHouse w gh H F) (hb : Below w.heap.size w w') : HsPost gh H F w v (.returned v) w' :=
  ⟨rfl, F, h.below hb, Upd.of hb, fun _ h => .inl h⟩

set_option maxRecDepth 100000 in
theorem house_new (w : World) :
    Calls Tryd.prog 26 #[] w fun e w' => e = .returned (.pointer (some ⟨w.heap.size, 0, none⟩)) ∧ IsHouse w' w.heap.size [] [w.heap.size] ∧ Below w.heap.size w w' := by
  go_enter Tryd.func26, Tryd.ntmps26
  go_wp2
  go_ret
  refine ⟨rfl, ⟨[], none, 0, ⟨heap_new _ _, OwnC.nil _ _ _, by simp, by simp [blk], by simp, by simp⟩, rfl, rfl⟩, (Below.refl _ _).alloc (Nat.le_refl _) _⟩

def letterE (c : UInt8) : Bool := decide (c.toNat < 97) || decide (122 < c.toNat)
def nameE (s : List UInt8) : Int := if s.length < 1 ∨ 8 < s.length then 3 else if s.any letterE then 3 else 0

set_option maxRecDepth 100000 in
set_option maxHeartbeats 400000 in
theorem house_name (s : List UInt8) (w : World) :
    Calls Tryd.prog 35 #[.string (bs s)] w fun e w' => e = .returned (.int .i64 (nameE s)) ∧ Below w.heap.size w w' := by
  by_cases h1 : s.length < 1
  · have hE : nameE s = 3 := if_pos (.inl h1)
    have q1 : decide ((s.length : Int) < 1) = true := by simp; omega
    rw [hE]
    clear hE
    go_enter Tryd.func35, Tryd.ntmps35
    go_wp2
    go_ret
    exact ⟨rfl, Below.refl _ _⟩
  · have q1 : decide ((s.length : Int) < 1) = false := by simp; omega
    by_cases h8 : 8 < s.length
    · have hE : nameE s = 3 := if_pos (.inr h8)
      have q2 : decide ((8 : Int) < (s.length : Int)) = true := by simp; omega
      rw [hE]
      clear hE
      go_enter Tryd.func35, Tryd.ntmps35
      go_wp2
      go_ret
      exact ⟨rfl, Below.refl _ _⟩
    · have hE : nameE s = if s.any letterE then 3 else 0 := if_neg (by omega)
      have q2 : decide ((8 : Int) < (s.length : Int)) = false := by simp; omega
      rw [hE]
      clear hE
      generalize hE0 : (if s.any letterE = true then (3 : Int) else 0) = E
      have HE := Lib.hid hE0
      clear hE0
      obtain ⟨w1, c, hr, hb, hsz, hcell⟩ := conv_str_bytes w s
      have hln : s.length ≤ 8 := by omega
      have HS := Lib.hid hsz
      have HC := Lib.hid hcell
      clear hsz hcell
      go_enter Tryd.func35, Tryd.ntmps35
      go_wp2
      go_loopw [16] (fun i wr => ∃ k : Nat, k ≤ s.length ∧ i = .int .i64 k ∧ Hid ((s.take k).any letterE = false) ∧ Below w1.heap.size w1 wr) (fun i _ => s.length - (intOf i).toNat)
      case atStart => exact ⟨0, by omega, rfl, by simp [Hid], Below.refl _ _⟩
      case round =>
        obtain ⟨k, hk, rfl, HA, hb2⟩ := hrel
        by_cases hlt : k < s.length
        · have hc := (hb2.cell (p := ⟨w.heap.size, k, none⟩) (by rw [HS.out]; simp)).trans (HC.out k hlt)
          have hz := s[k].toNat_lt
          have HN : Hid ((s.take (k + 1)).any letterE = letterE s[k]) := by
            unfold Hid; rw [List.take_succ_eq_append_getElem hlt, List.any_append, HA.out]; simp
          have HL : Hid (letterE s[k] = (decide (s[k].toNat < 97) || decide (122 < s[k].toNat))) := rfl
          have HM : Hid (letterE s[k] = true → s.any letterE = true) := fun h => List.any_eq_true.2 ⟨_, List.getElem_mem hlt, h⟩
          generalize letterE s[k] = y at *
          generalize s[k].toNat = x at *
          by_cases hx : x < 97
          · have g1 : decide ((x : Int) < 97) = true := by simp; omega
            have HT := Lib.hid (HM.out (by rw [HL.out]; simp [hx]))
            go_wp2
            go_ret
            rw [← HE.out, HT.out]
            exact ⟨rfl, hb.trans (hb2.mono hb.size)⟩
          · have g1 : decide ((x : Int) < 97) = false := by simp; omega
            by_cases hy : 122 < x
            · have g2 : decide ((122 : Int) < (x : Int)) = true := by simp; omega
              have HT := Lib.hid (HM.out (by rw [HL.out]; simp [hy]))
              go_wp2
              go_ret
              rw [← HE.out, HT.out]
              exact ⟨rfl, hb.trans (hb2.mono hb.size)⟩
            · have g2 : decide ((122 : Int) < (x : Int)) = false := by simp; omega
              go_wp2
              go_roundw
              case rel => exact ⟨k + 1, by omega, by go_num, by unfold Hid; rw [HN.out, HL.out]; simp; omega, hb2⟩
              case measure => simp [intOf]; omega
        · have HT : Hid (s.any letterE = false) := by
            have := HA.out
            rwa [List.take_of_length_le (by omega)] at this
          go_wp2
          go_ret
          rw [← HE.out, HT.out]
          exact ⟨rfl, hb.trans (hb2.mono hb.size)⟩
end Go.Proofs.YtclebkgfogienaaDoor
