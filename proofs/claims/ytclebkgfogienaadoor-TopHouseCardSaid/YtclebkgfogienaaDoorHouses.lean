/- quillkeep.textOf, quillkeep.houses. -/
import Derived.Test.YtclebkgfogienaaDoorGood
namespace Go.Proofs.YtclebkgfogienaaDoor
set_option linter.unusedSimpArgs false
set_option linter.unusedVariables false
open Go.RowKit

/-- behind a call: the house stands in the state H', above B -/
def HK (B gh : Nat) (H' : List PageS) (F : List Nat) (w w' : World) : Prop := ∃ F', IsHouse w' gh H' F' ∧ (∀ x ∈ F', B ≤ x) ∧ Below B w w' ∧ Upd F w w' ∧ Fresh w F' F
def textD (nm : List UInt8) : Dd := ⟨8, 0, nm, [], []⟩
def deedD (k n : Int) (nm tx : List UInt8) : Dd := ⟨k, n, nm, tx, []⟩

/-- a deed without edits -/
theorem house_do0 (B gh : Nat) (H : List PageS) (F : List Nat) (k n : Int) (nm tx : List UInt8) (w : World) (h : IsHouse w gh H F) (hH : HouseOk H) (hB : B ≤ w.heap.size) (hT : Tab B w) (hF : ∀ x ∈ F, B ≤ x) :
    Calls Tryd.prog 12 #[.pointer (some ⟨gh, 0, none⟩), .agg #[.int .i64 k, .int .i64 n, .string (bs nm), .string (bs tx), .slice none 0 0]] w fun e w' => e = .returned (.tuple #[.string (bs (doF H (deedD k n nm tx)).1.1), .int .i64 (doF H (deedD k n nm tx)).1.2]) ∧ HK B gh (doF H (deedD k n nm tx)).2 F w w' :=
  house_do_low B gh H F (deedD k n nm tx) (.slice none 0 0) w h hH (editsAt_none w) (fun h => absurd rfl h) hB hT hF

theorem doF_text (H : List PageS) (nm : List UInt8) : (doF H (textD nm)).2 = H := by
  unfold doF textD
  simp only
  split; · rfl
  split; · rfl
  split
  · rfl
  · rw [if_neg (by decide), if_neg (by decide)]
    split
    · rfl
    · rename_i p hp
      exact set_self' hp

set_option maxRecDepth 100000 in
set_option maxHeartbeats 400000 in
theorem keep_textOf (B gh : Nat) (H : List PageS) (F : List Nat) (nm : List UInt8) (w : World) (h : IsHouse w gh H F) (hH : HouseOk H) (hB : B ≤ w.heap.size) (hT : Tab B w) (hF : ∀ x ∈ F, B ≤ x) :
    Calls Tryd.prog 15 #[.pointer (some ⟨gh, 0, none⟩), .string (bs nm)] w fun e w' => e = .returned (.tuple #[.string (bs (doF H (textD nm)).1.1), .bool ((doF H (textD nm)).1.2 == 0)]) ∧ HK B gh H F w w' := by
  have C := Lib.hid (house_do0 B gh H F 8 0 nm [] w h hH hB hT hF)
  have e : deedD 8 0 nm [] = textD nm := rfl
  rw [e, doF_text] at C
  generalize (doF H (textD nm)).1 = R at *
  obtain ⟨s, r⟩ := R
  simp only [bs_emp] at C ⊢
  clear e h hH hB hT hF
  go_enter Tryd.func15, Tryd.ntmps15
  go_wp2_with fail
  refine C.out.mono ?_
  rintro e w1 ⟨rfl, hk⟩
  go_wp2
  go_ret2
  exact ⟨rfl, hk⟩

def hs1 : List PageS := (doF [] (deedD 1 0 [97] [120, 121])).2
def hs2 : List PageS := (doF hs1 (deedD 10 0 [97] [120, 121, 122])).2
def hs3 : List PageS := (doF hs2 (textD [97])).2
def hs4 : List PageS := (doF hs3 (deedD 3 0 [97] [])).2
def hs5 : List PageS := (doF hs4 (textD [97])).2
theorem hs_true : (doF [] (deedD 1 0 [97] [120, 121])).1 = ([], 0) ∧ (doF hs1 (deedD 10 0 [97] [120, 121, 122])).1 = ([], 0) ∧ (doF hs2 (textD [97])).1 = ([120, 121, 122], 0) ∧ (doF hs3 (deedD 3 0 [97] [])).1 = ([], 0) ∧ (doF hs4 (textD [97])).1 = ([120, 121], 0) ∧ hs5.map PageS.name = [[97]] := by
  decide +kernel

theorem five_cells (w : World) (T : TypeId) (fr : Nat × Nat) (b : Nat) (h : w.heap[b]? = some (.cells #[.int .i64 0, .int .i64 0, .int .i64 0, .int .i64 0, .int .i64 0] T fr)) : ∀ j (_ : j < [(0 : Int), 0, 0, 0, 0].length), w.cell? ⟨b, j, none⟩ = some (.int .i64 [(0 : Int), 0, 0, 0, 0][j]) := by
  intro j hj
  rw [blk_cell h]
  have hj' : j < 5 := hj
  have : j = 0 ∨ j = 1 ∨ j = 2 ∨ j = 3 ∨ j = 4 := by omega
  rcases this with rfl | rfl | rfl | rfl | rfl <;> rfl

theorem Tab.up {B B' : Nat} {w : World} (h : Tab B w) (hB : B ≤ B') : Tab B' w := fun w' h' => h w' (h'.mono hB)

set_option maxRecDepth 100000 in
set_option maxHeartbeats 1600000 in
theorem keep_houses (B : Nat) (w : World) (hB : B ≤ w.heap.size) (hT : Tab B w) :
    Calls Tryd.prog 10 #[] w fun e w' => e = .returned (.bool true) ∧ Below w.heap.size w w' := by
  obtain ⟨t1, t2, t3, t4, t5, t6⟩ := hs_true
  have HT : Hid (Tab w.heap.size w) := hT.up hB
  have T1 := Lib.hid t1
  have T2 := Lib.hid t2
  have T3 := Lib.hid t3
  have T4 := Lib.hid t4
  have T5 := Lib.hid t5
  have T6 := Lib.hid t6
  have O1 : Hid (HouseOk hs1) := doF_ok HouseOk.nil _
  have O2 : Hid (HouseOk hs2) := doF_ok O1.out _
  have O3 : Hid (HouseOk hs3) := doF_ok O2.out _
  have O4 : Hid (HouseOk hs4) := doF_ok O3.out _
  have O5 : Hid (HouseOk hs5) := doF_ok O4.out _
  clear hT t1 t2 t3 t4 t5 t6
  go_enter Tryd.func10, Tryd.ntmps10
  go_wp2_with fail
  refine (house_new w).mono ?_
  rintro e w1 ⟨rfl, hH1, hb1⟩
  have HH1 := Lib.hid hH1
  have HB1 := Lib.hid hb1
  have HF1 : Hid (∀ x ∈ [w.heap.size], w.heap.size ≤ x) := fun x hx => by simp at hx; omega
  clear hH1 hb1
  have C1 := Lib.hid (house_do0 w.heap.size w.heap.size [] _ 1 0 [97] [120, 121] w1 HH1.out HouseOk.nil HB1.out.size (HT.out.on HB1.out) HF1.out)
  rw [show deedD 1 0 [97] [120, 121] = deedD 1 0 [97] [120, 121] from rfl, T1.out] at C1
  simp only at C1
  go_wp2_with fail
  refine C1.out.mono ?_
  rintro e w2 ⟨rfl, F2, hh, hf, hb, _, _⟩
  have HH2 : Hid (IsHouse w2 w.heap.size hs1 F2) := hh
  have HF2 := Lib.hid hf
  have HB2 := Lib.hid (HB1.out.trans hb)
  clear hh hf hb C1
  have C2 := Lib.hid (house_do0 w.heap.size w.heap.size hs1 _ 10 0 [97] [120, 121, 122] w2 HH2.out O1.out HB2.out.size (HT.out.on HB2.out) HF2.out)
  rw [show deedD 10 0 [97] [120, 121, 122] = deedD 10 0 [97] [120, 121, 122] from rfl, T2.out] at C2
  simp only at C2
  go_wp2_with fail
  refine C2.out.mono ?_
  rintro e w3 ⟨rfl, F3, hh, hf, hb, _, _⟩
  have HH3 : Hid (IsHouse w3 w.heap.size hs2 F3) := hh
  have HF3 := Lib.hid hf
  have HB3 := Lib.hid (HB2.out.trans hb)
  clear hh hf hb C2
  have C3 := Lib.hid (house_do0 w.heap.size w.heap.size hs2 _ 8 0 [97] [] w3 HH3.out O2.out HB3.out.size (HT.out.on HB3.out) HF3.out)
  rw [show deedD 8 0 [97] [] = textD [97] from rfl, T3.out] at C3
  simp only at C3
  go_wp2_with fail
  refine C3.out.mono ?_
  rintro e w4 ⟨rfl, F4, hh, hf, hb, _, _⟩
  have HH4 : Hid (IsHouse w4 w.heap.size hs3 F4) := hh
  have HF4 := Lib.hid hf
  have HB4 := Lib.hid (HB3.out.trans hb)
  clear hh hf hb C3
  have C4 := Lib.hid (house_do0 w.heap.size w.heap.size hs3 _ 3 0 [97] [] w4 HH4.out O3.out HB4.out.size (HT.out.on HB4.out) HF4.out)
  rw [show deedD 3 0 [97] [] = deedD 3 0 [97] [] from rfl, T4.out] at C4
  simp only at C4
  go_wp2_with fail
  refine C4.out.mono ?_
  rintro e w5 ⟨rfl, F5, hh, hf, hb, _, _⟩
  have HH5 : Hid (IsHouse w5 w.heap.size hs4 F5) := hh
  have HF5 := Lib.hid hf
  have HB5 := Lib.hid (HB4.out.trans hb)
  clear hh hf hb C4
  have C5 := Lib.hid (house_do0 w.heap.size w.heap.size hs4 _ 8 0 [97] [] w5 HH5.out O4.out HB5.out.size (HT.out.on HB5.out) HF5.out)
  rw [show deedD 8 0 [97] [] = textD [97] from rfl, T5.out] at C5
  simp only at C5
  go_wp2_with fail
  refine C5.out.mono ?_
  rintro e w6 ⟨rfl, F6, hh, hf, hb, _, _⟩
  have HH6 : Hid (IsHouse w6 w.heap.size hs5 F6) := hh
  have HF6 := Lib.hid hf
  have HB6 := Lib.hid (HB5.out.trans hb)
  clear hh hf hb C5
  go_wp2_with fail
  refine (keep_good w6.heap.size 5 [0, 0, 0, 0, 0] _ (by decide) (five_cells _ _ _ _ (heap_new _ _))).mono ?_
  rintro e w7 ⟨rfl, rfl⟩
  have hal : ([0, 0, 0, 0, 0] : List Int).all (· == 0) = true := rfl
  rw [hal]
  have CN := Lib.hid (house_names w.heap.size hs5 F6 _ (HH6.out.below ((Below.refl _ _).alloc (Nat.le_refl _) (.cells #[.int .i64 0, .int .i64 0, .int .i64 0, .int .i64 0, .int .i64 0] 29))) O5.out.len)
  have hl5 : hs5.length = 1 := by decide +kernel
  have hn5 : namesF hs5 = [[97]] := by decide +kernel
  rw [hl5, hn5] at CN
  clear hal hl5 hn5
  go_wp2_with fail
  refine CN.out.mono ?_
  rintro e w8 ⟨A, c, rfl, ho, hb8⟩
  have hown := OwnC.of_row ho
  obtain ⟨g, off, rfl, hnc, hgl⟩ := hown.addr (by omega)
  have hc8 : w8.cell? ⟨g, off + 0, none⟩ = some (.string (bs [97])) := hown.cell 0 (by omega)
  have HB8 := Lib.hid (HB6.out.trans ((((Below.refl _ _).alloc (Nat.le_refl _) (.cells #[.int .i64 0, .int .i64 0, .int .i64 0, .int .i64 0, .int .i64 0] 29)).trans (hb8.mono (by simp))).mono HB6.out.size))
  have CE := Lib.hid (Tryd.slices_Equal_string g off 1 c w8.heap.size 0 1 1 [bs [97]] [bs [97]] (w8.alloc (.cells #[.string ⟨#[97]⟩] 9)) (by simp) (by simp) (by omega) (by omega)
    (fun j hj => by
      have : j = 0 := by simp at hj; omega
      subst this
      exact (World.cell?_alloc_lt w8 _ _ hgl).trans hc8)
    (fun j hj => by
      have : j = 0 := by simp at hj; omega
      subst this
      exact (blk_cell (heap_new _ _) _).trans rfl))
  have hdec : decide (([bs [97]] : List ByteArray).take 1 = [bs [97]].take 1) = true := by simp
  rw [hdec] at CE
  clear hdec hown ho hb8 hc8
  go_wp2_with fail
  refine CE.out.mono ?_
  rintro e w9 ⟨rfl, q, rfl⟩
  go_wp2
  go_ret
  exact ⟨rfl, below_drewN (HB8.out.alloc HB8.out.size _) _⟩
end Go.Proofs.YtclebkgfogienaaDoor
