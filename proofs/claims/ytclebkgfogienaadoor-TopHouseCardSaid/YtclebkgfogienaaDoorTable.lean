/- same.table: how much two words have in common, from each two places on. -/
import Derived.Test.YtclebkgfogienaaDoorBase
import Derived.Laws.MakeOwn
import Derived.BigRegion
namespace Go.Proofs.YtclebkgfogienaaDoor
set_option linter.unusedSimpArgs false
set_option linter.unusedVariables false
open Go.RowKit

/-- how much two words have in common, in order -/
def lcs : List UInt8 → List UInt8 → Nat
  | [], _ => 0
  | _ :: _, [] => 0
  | x :: a, y :: b => if x = y then lcs a b + 1 else max (lcs a (y :: b)) (lcs (x :: a) b)
termination_by a b => a.length + b.length
theorem lcs_nil (a : List UInt8) : lcs a [] = 0 := by cases a <;> simp [lcs]
theorem lcs_nil' (a : List UInt8) : lcs [] a = 0 := by simp [lcs]
theorem lcs_le : ∀ (a b : List UInt8), lcs a b ≤ a.length
  | [], _ => by simp [lcs]
  | _ :: _, [] => by simp [lcs]
  | x :: a, y :: b => by
    have h1 := lcs_le a b
    have h2 := lcs_le a (y :: b)
    have h3 := lcs_le (x :: a) b
    rw [lcs]
    simp only [List.length_cons] at *
    split <;> omega
termination_by a b => a.length + b.length
def lcsAt (a b : List UInt8) (i k : Nat) : Nat := lcs (a.drop i) (b.drop k)
theorem lcsAt_le (a b : List UInt8) (i k : Nat) : lcsAt a b i k ≤ a.length := Nat.le_trans (lcs_le _ _) (by simp)
theorem lcsAt_step (a b : List UInt8) (i k : Nat) (hi : i < a.length) (hk : k < b.length) :
    lcsAt a b i k = if a[i] = b[k] then lcsAt a b (i + 1) (k + 1) + 1 else max (lcsAt a b (i + 1) k) (lcsAt a b i (k + 1)) := by
  unfold lcsAt
  rw [List.drop_eq_getElem_cons hi, List.drop_eq_getElem_cons hk, lcs]
theorem lcsAt_end1 (a b : List UInt8) (k : Nat) : lcsAt a b a.length k = 0 := by unfold lcsAt; rw [List.drop_length, lcs_nil']
theorem lcsAt_end2 (a b : List UInt8) (i : Nat) : lcsAt a b i b.length = 0 := by unfold lcsAt; rw [List.drop_length, lcs_nil]

theorem run_make_rowN {P : Program} (t e : TypeId) (i : TypeInfo) (z : Value) (ht : P.underlying t = some (.slice e)) (hi : P.info? e = some i) (hz : i.zero = some z)
    (kl kc : IntKind) (n c : Nat) (hnc : n ≤ c) (hbytes : i.bytes * c ≤ 281474976710656) (h63 : c ≤ 9223372036854775807) (w : World) :
    (Instr.makeSlice t (.int kl (n : Int)) (.int kc (c : Int))).run P w = .ok (.slice (some ⟨w.heap.size, 0, none⟩) n c) (w.alloc (.cells (madeCells z.cells (c * i.size)) e)) := by
  have hb : (i.bytes : Int) * (c : Int) ≤ 281474976710656 := by
    have h : ((i.bytes * c : Nat) : Int) ≤ 281474976710656 := by omega
    rwa [Int.natCast_mul] at h
  have hr := run_make (P := P) w t e i z ht hi hz kl kc n c (by omega) (by omega) hb (by omega)
  simp only [Int.toNat_natCast] at hr
  exact hr
theorem info_ints : (Tryd.prog.info? 100).map (fun i => (i.zero, i.size, i.bytes)) = some (some (.slice none 0 0), 1, 24) := by kernel_rfl
theorem info_int : (Tryd.prog.info? 3).map (fun i => (i.zero, i.size, i.bytes)) = some (some (.int .i64 0), 1, 8) := by kernel_rfl
theorem made1 (x : Value) (n i : Nat) (h : i < n) : (madeCells #[x] n)[i]? = some x := by simp [madeCells, h, Nat.mod_one]
theorem make_rows (n : Nat) (hn : n ≤ 1000) (w : World) : (Instr.makeSlice 119 (.int .i64 ((n : Int) + 1)) (.int .i64 ((n : Int) + 1))).run Tryd.prog w = .ok (.slice (some ⟨w.heap.size, 0, none⟩) (n + 1) (n + 1)) (w.alloc (.cells (madeCells #[.slice none 0 0] (n + 1)) 100)) := by
  obtain ⟨i, hi, hz0, hz1, hz2⟩ := info_parts info_ints
  have := run_make_rowN (P := Tryd.prog) 119 100 i _ Tryd.underlying119 hi hz0 .i64 .i64 (n + 1) (n + 1) (Nat.le_refl _) (by rw [hz2]; omega) (by omega) w
  rw [hz1, Nat.mul_one] at this
  exact this
theorem make_row (n : Nat) (hn : n ≤ 1000) (w : World) : (Instr.makeSlice 100 (.int .i64 ((n : Int) + 1)) (.int .i64 ((n : Int) + 1))).run Tryd.prog w = .ok (.slice (some ⟨w.heap.size, 0, none⟩) (n + 1) (n + 1)) (w.alloc (.cells (madeCells #[.int .i64 0] (n + 1)) 3)) := by
  obtain ⟨i, hi, hz0, hz1, hz2⟩ := info_parts info_int
  have := run_make_rowN (P := Tryd.prog) 100 3 i _ Tryd.underlying100 hi hz0 .i64 .i64 (n + 1) (n + 1) (Nat.le_refl _) (by rw [hz2]; omega) (by omega) w
  rw [hz1, Nat.mul_one] at this
  exact this

/-- a table of which the first m rows are made -/
def Tbl (w : World) (g na nb m : Nat) (F : Nat → Nat → Nat) : Prop :=
  (∃ rows : Array Value, w.heap[g]? = some (.cells rows 100 (0, 0)) ∧ rows.size = na + 1 ∧ ∀ i ≤ na, rows[i]? = some (if i < m then .slice (some ⟨g + 1 + i, 0, none⟩) (nb + 1) (nb + 1) else .slice none 0 0)) ∧
    ∀ i < m, ∃ cur : Array Value, w.heap[g + 1 + i]? = some (.cells cur 3 (0, 0)) ∧ cur.size = nb + 1 ∧ ∀ k ≤ nb, cur[k]? = some (.int .i64 (F i k : Nat))
theorem Tbl.row {w : World} {g na nb m : Nat} {F : Nat → Nat → Nat} (h : Tbl w g na nb m F) (i : Nat) (hi : i ≤ na) : w.cell? ⟨g, i, none⟩ = some (if i < m then .slice (some ⟨g + 1 + i, 0, none⟩) (nb + 1) (nb + 1) else .slice none 0 0) := by
  obtain ⟨⟨rows, h1, _, h2⟩, _⟩ := h
  rw [blk_cell h1, h2 i hi]
theorem Tbl.lt {w : World} {g na nb m : Nat} {F : Nat → Nat → Nat} (h : Tbl w g na nb m F) : g < w.heap.size := by
  obtain ⟨⟨rows, h1, _, h2⟩, _⟩ := h
  exact blk_lt h1
theorem Tbl.fr {w : World} {g na nb m : Nat} {F : Nat → Nat → Nat} (h : Tbl w g na nb m F) (i : Nat) : w.frozen? ⟨g, i, none⟩ = false := by
  obtain ⟨⟨rows, h1, _, h2⟩, _⟩ := h
  exact blk_frozen h1 i
theorem Tbl.at {w : World} {g na nb m : Nat} {F : Nat → Nat → Nat} (h : Tbl w g na nb m F) (i k : Nat) (hi : i < m) (hk : k ≤ nb) : w.cell? ⟨g + 1 + i, k, none⟩ = some (.int .i64 (F i k : Nat)) := by
  obtain ⟨cur, h1, _, h2⟩ := h.2 i hi
  rw [blk_cell h1, h2 k hk]
theorem Tbl.frAt {w : World} {g na nb m : Nat} {F : Nat → Nat → Nat} (h : Tbl w g na nb m F) (i : Nat) (hi : i < m) (k : Nat) : w.frozen? ⟨g + 1 + i, k, none⟩ = false := by
  obtain ⟨cur, h1, _, h2⟩ := h.2 i hi
  exact blk_frozen h1 k
theorem Tbl.below {w w' : World} {g na nb m : Nat} {F : Nat → Nat → Nat} (h : Tbl w g na nb m F) (hb : Below w.heap.size w w') : Tbl w' g na nb m F := by
  obtain ⟨⟨rows, h1, h2⟩, h3⟩ := h
  refine ⟨⟨rows, (hb.block g (blk_lt h1)).trans h1, h2⟩, fun i hi => ?_⟩
  obtain ⟨cur, h4, h5⟩ := h3 i hi
  exact ⟨cur, (hb.block _ (blk_lt h4)).trans h4, h5⟩
theorem Tbl.congr {w : World} {g na nb m : Nat} {F G : Nat → Nat → Nat} (h : Tbl w g na nb m F) (hFG : ∀ i k, i < m → k ≤ nb → F i k = G i k) : Tbl w g na nb m G := by
  refine ⟨h.1, fun i hi => ?_⟩
  obtain ⟨cur, h4, h5, h6⟩ := h.2 i hi
  exact ⟨cur, h4, h5, fun k hk => by rw [h6 k hk, hFG i k hi hk]⟩
/-- one more row -/
theorem Tbl.more {w : World} {g na nb m : Nat} (h : Tbl w g na nb m (fun _ _ => 0)) (hm : m ≤ na) (hsz : w.heap.size = g + 1 + m) :
    Tbl ((w.setCell ⟨g, m, none⟩ (.slice (some ⟨w.heap.size, 0, none⟩) (nb + 1) (nb + 1))).alloc (.cells (madeCells #[.int .i64 0] (nb + 1)) 3)) g na nb (m + 1) (fun _ _ => 0) := by
  obtain ⟨⟨rows, h1, h2, h2'⟩, h3⟩ := h
  have hs : (w.setCell ⟨g, m, none⟩ (.slice (some ⟨w.heap.size, 0, none⟩) (nb + 1) (nb + 1))).heap.size = w.heap.size := by simp [World.setCell]
  have hu := Upd.setCell w g m (.slice (some ⟨w.heap.size, 0, none⟩) (nb + 1) (nb + 1))
  have hold : ∀ (j : Nat) (x : Obj), (w.setCell ⟨g, m, none⟩ (.slice (some ⟨w.heap.size, 0, none⟩) (nb + 1) (nb + 1))).heap[j]? = some x → ((w.setCell ⟨g, m, none⟩ (.slice (some ⟨w.heap.size, 0, none⟩) (nb + 1) (nb + 1))).alloc (.cells (madeCells #[.int .i64 0] (nb + 1)) 3)).heap[j]? = some x :=
    fun j x hx => (Below.heap_alloc _ _ j (blk_lt hx)).trans hx
  refine ⟨⟨_, hold _ _ (blk_set h1 m _), by simpa using h2, fun i hi => ?_⟩, fun i hi => ?_⟩
  · by_cases he : m = i
    · subst he
      rw [Array.getElem?_setIfInBounds_self_of_lt (by omega), if_pos (by omega), hsz]
    · rw [Array.getElem?_setIfInBounds_ne he, h2' i hi]
      by_cases hl : i < m
      · rw [if_pos hl, if_pos (by omega)]
      · rw [if_neg hl, if_neg (by omega)]
  · by_cases he : i = m
    · subst he
      refine ⟨madeCells #[.int .i64 0] (nb + 1), ?_, by simp [madeCells], fun k hk => made1 _ _ _ (by omega)⟩
      have hx := heap_alloc_new (w.setCell ⟨g, i, none⟩ (.slice (some ⟨w.heap.size, 0, none⟩) (nb + 1) (nb + 1))) (.cells (madeCells #[.int .i64 0] (nb + 1)) 3)
      rw [hs] at hx
      rw [← hsz]
      exact hx
    · obtain ⟨cur, h4, h5⟩ := h3 i (by omega)
      exact ⟨cur, hold _ _ ((hu.block _ (blk_lt h4) (by simp; omega)).trans h4), h5⟩
/-- a place of it is set -/
theorem Tbl.put {w : World} {g na nb m : Nat} {F : Nat → Nat → Nat} (h : Tbl w g na nb m F) (p q x : Nat) (hp : p < m) (hq : q ≤ nb) :
    Tbl (w.setCell ⟨g + 1 + p, q, none⟩ (.int .i64 (x : Nat))) g na nb m (fun i k => if i = p ∧ k = q then x else F i k) := by
  obtain ⟨⟨rows, h1, h2, h2'⟩, h3⟩ := h
  have hu := Upd.setCell w (g + 1 + p) q (.int .i64 (x : Nat))
  refine ⟨⟨rows, (hu.block g (blk_lt h1) (by simp; omega)).trans h1, h2, h2'⟩, fun i hi => ?_⟩
  obtain ⟨cur, h4, h5, h6⟩ := h3 i hi
  by_cases he : i = p
  · subst he
    refine ⟨_, blk_set h4 q _, by simpa using h5, fun k hk => ?_⟩
    by_cases hk' : q = k
    · subst hk'
      rw [Array.getElem?_setIfInBounds_self_of_lt (by omega)]
      simp
    · rw [Array.getElem?_setIfInBounds_ne hk', h6 k hk]
      simp [show ¬ k = q by omega]
  · refine ⟨cur, (hu.block _ (blk_lt h4) (by simp; omega)).trans h4, h5, fun k hk => ?_⟩
    rw [h6 k hk]
    simp [he]
theorem below_set {B : Nat} {w w' : World} (h : Below B w w') (hB : B ≤ w'.heap.size) (g i : Nat) (v : Value) (hg : B ≤ g) : Below B w (w'.setCell ⟨g, i, none⟩ v) :=
  h.trans ((Upd.setCell w' g i v).below (by simp; exact hg) hB)

set_option maxRecDepth 100000 in
set_option maxHeartbeats 800000 in
theorem same_table (a b : List UInt8) (w : World) (ha : a.length ≤ 200) (hb : b.length ≤ 200) :
    Calls Tryd.prog 81 #[.string (bs a), .string (bs b)] w fun e w' => e = .returned (.slice (some ⟨w.heap.size, 0, none⟩) (a.length + 1) (a.length + 1)) ∧ Tbl w' w.heap.size a.length b.length (a.length + 1) (lcsAt a b) ∧ Below w.heap.size w w' := by
  have hm1 := make_rows a.length (by omega)
  have hm2 := make_row b.length (by omega)
  go_enter Tryd.func81, Tryd.ntmps81
  go_wp2
  go_loopw [15] (fun i wr => ∃ m : Nat, m ≤ a.length + 1 ∧ i = .int .i64 m ∧ Hid (Tbl wr w.heap.size a.length b.length m (fun _ _ => 0)) ∧ Hid (wr.heap.size = w.heap.size + 1 + m) ∧ Below w.heap.size w wr) (fun i _ => a.length + 1 - (intOf i).toNat)
  case atStart =>
    refine ⟨0, by omega, rfl, ⟨⟨_, heap_new _ _, by simp [madeCells], fun i hi => ?_⟩, fun i hi => absurd hi (by omega)⟩, Lib.hid (by simp), (Below.refl _ _).alloc (Nat.le_refl _) _⟩
    rw [made1 _ _ _ (by omega)]; rfl
  case round =>
    obtain ⟨m, hm, rfl, HT, HS, hbw⟩ := hrel
    by_cases hlt : m < a.length + 1
    · have hr := HT.out.row m (by omega)
      rw [if_neg (by omega)] at hr
      have hgl := HT.out.lt
      have q1 : ∀ o, (wr.alloc o).cell? ⟨w.heap.size, m, none⟩ = some (.slice none 0 0) := fun o => (World.cell?_alloc_lt wr o _ hgl).trans hr
      have q2 : ∀ o, (wr.alloc o).frozen? ⟨w.heap.size, m, none⟩ = false := fun o => (World.frozen?_alloc_past o _ _ hgl).trans (HT.out.fr m)
      have hq : (m : Int) < (a.length : Int) + 1 := by omega
      clear hr
      go_wp2
      go_roundw
      case rel => exact ⟨m + 1, by omega, by go_num, HT.out.more (by omega) HS.out, by unfold Hid; have := HS.out; simp [World.setCell]; omega, (below_set hbw hbw.size _ _ _ (Nat.le_refl _)).alloc (by have := hbw.size; simp [World.setCell]; omega) _⟩
      case measure => simp [intOf]; omega
    · have hmE : m = a.length + 1 := by omega
      subst hmE
      have hq : ¬ ((a.length + 1 : Nat) : Int) < (a.length : Int) + 1 := by omega
      go_wp2
      obtain ⟨w1, hw1⟩ : ∃ w1 : World, w1 = wr := ⟨_, rfl⟩
      rw [← hw1] at HT HS hbw ⊢
      clear hw1 hq hlt hm HS
      go_loopw [7] (fun i wr => ∃ m : Nat, m ≤ a.length ∧ i = .int .i64 ((m : Int) - 1) ∧ Hid (Tbl wr w.heap.size a.length b.length (a.length + 1) (fun i k => if m ≤ i then lcsAt a b i k else 0)) ∧ Below w.heap.size w wr) (fun i _ => (intOf i + 1).toNat)
      case atStart =>
        refine ⟨a.length, Nat.le_refl _, by go_num, HT.out.congr (fun i k hi hk => ?_), hbw⟩
        by_cases h : a.length ≤ i
        · rw [if_pos h, show i = a.length by omega, lcsAt_end1]
        · rw [if_neg h]
      case round =>
        obtain ⟨m, hm, rfl, HT, hbw⟩ := hrel
        cases m with
        | zero =>
          have hq : ¬ (0 : Int) ≤ ((0 : Nat) : Int) - 1 := by omega
          go_wp2
          go_ret
          refine ⟨rfl, HT.out.congr (fun i k hi hk => by simp), hbw⟩
        | succ p =>
          rw [show ((p + 1 : Nat) : Int) - 1 = (p : Int) by omega]
          have hq : (0 : Int) ≤ (p : Int) := by omega
          go_wp2
          obtain ⟨w2, hw2⟩ : ∃ w2 : World, w2 = wr := ⟨_, rfl⟩
          rw [← hw2] at HT hbw ⊢
          clear hw2
          go_loopw [8] (fun k wr => ∃ j : Nat, j ≤ b.length ∧ k = .int .i64 ((j : Int) - 1) ∧ Hid (Tbl wr w.heap.size a.length b.length (a.length + 1) (fun i k => if p + 1 ≤ i ∨ (i = p ∧ j ≤ k) then lcsAt a b i k else 0)) ∧ Below w.heap.size w wr) (fun i _ => (intOf i + 1).toNat)
          case atStart =>
            refine ⟨b.length, Nat.le_refl _, by go_num, HT.out.congr (fun i k hi hk => ?_), hbw⟩
            by_cases h : p + 1 ≤ i
            · rw [if_pos h, if_pos (.inl h)]
            · rw [if_neg h]
              by_cases h2 : i = p ∧ b.length ≤ k
              · rw [if_pos (.inr h2), show k = b.length by omega, lcsAt_end2]
              · rw [if_neg (by omega)]
          case round =>
            obtain ⟨j, hj, rfl, HT, hbw⟩ := hrel
            cases j with
            | zero =>
              have hq2 : ¬ (0 : Int) ≤ ((0 : Nat) : Int) - 1 := by omega
              go_wp2
              go_roundw
              case rel =>
                refine ⟨p, by omega, by go_num, HT.out.congr (fun i k hi hk => ?_), hbw⟩
                by_cases h : p ≤ i
                · rw [if_pos h, if_pos (by omega)]
                · rw [if_neg h, if_neg (by omega)]
              case measure => simp [intOf]
            | succ q =>
              rw [show ((q + 1 : Nat) : Int) - 1 = (q : Int) by omega]
              have hq2 : (0 : Int) ≤ (q : Int) := by omega
              have i1 : (p : Int) < (a.length : Int) := by omega
              have i2 : (q : Int) < (b.length : Int) := by omega
              have i3 : p < a.length := by omega
              have i4 : q < b.length := by omega
              have ba := bs_get a p (by simp; omega)
              have bb := bs_get b q (by simp; omega)
              have hstep := lcsAt_step a b p q (by omega) (by omega)
              have HSTEP := Lib.hid hstep
              clear hstep
              by_cases hab : a[p] = b[q]
              · rw [if_pos hab] at HSTEP
                have hcmp : ((((bs a)[p]'(by simp; omega)).toNat : Int) == (((bs b)[q]'(by simp; omega)).toNat : Int)) = true := by rw [ba, bb, hab]; simp
                clear ba bb
                go_wp2_with fail
                go_quiet (fail)
                have HTW : Hid (Tbl (wr.drewN nq) w.heap.size a.length b.length (a.length + 1) (fun i k => if p + 1 ≤ i ∨ (i = p ∧ q + 1 ≤ k) then lcsAt a b i k else 0)) := HT.out
                have HBW := Lib.hid (below_drewN hbw nq)
                generalize wr.drewN nq = W at *
                clear HT hbw hcmp
                have HT := HTW
                have r0 := HT.out.row p (by omega)
                rw [if_pos (by omega)] at r0
                have r1 := HT.out.row (p + 1) (by omega)
                rw [if_pos (by omega)] at r1
                have v0 := HT.out.at p q (by omega) (by omega)
                rw [if_neg (by omega)] at v0
                have v1 := HT.out.at (p + 1) (q + 1) (by omega) (by omega)
                rw [if_pos (by omega)] at v1
                have v2 := HT.out.at (p + 1) q (by omega) (by omega)
                rw [if_pos (by omega)] at v2
                have v3 := HT.out.at p (q + 1) (by omega) (by omega)
                rw [if_pos (by omega)] at v3
                have f0 := HT.out.frAt p (by omega) q
                have l1 := lcsAt_le a b (p + 1) (q + 1)
                have l2 := lcsAt_le a b (p + 1) q
                have l3 := lcsAt_le a b p (q + 1)
                have n1 : ((p : Int) + 1).toNat = p + 1 := by omega
                have n2 : ((q : Int) + 1).toNat = q + 1 := by omega
                have hput := fun x => HT.out.put p q x (by omega) (by omega)
                have HPUT : Hid (∀ x : Nat, x = lcsAt a b p q → Tbl (W.setCell ⟨w.heap.size + 1 + p, q, none⟩ (.int .i64 (x : Nat))) w.heap.size a.length b.length (a.length + 1) (fun i k => if p + 1 ≤ i ∨ (i = p ∧ q ≤ k) then lcsAt a b i k else 0)) := by
                  intro x hx
                  refine (hput x).congr (fun i k hi hk => ?_)
                  by_cases h : i = p ∧ k = q
                  · rw [if_pos h, if_pos (by omega), hx, h.1, h.2]
                  · rw [if_neg h]
                    by_cases h2 : p + 1 ≤ i ∨ (i = p ∧ q + 1 ≤ k)
                    · rw [if_pos h2, if_pos (by omega)]
                    · rw [if_neg h2, if_neg (by omega)]
                clear hput
                go_wp2_with fail
                go_region
                all_goals
                  go_wp2
                  go_roundw
                  case rel => exact ⟨q, by omega, by go_num, HPUT.out _ HSTEP.out.symm, (below_set HBW.out HBW.out.size _ _ _ (by omega)).drew⟩
                  case measure => simp [intOf]
              · rw [if_neg hab] at HSTEP
                have hcmp : ((((bs a)[p]'(by simp; omega)).toNat : Int) == (((bs b)[q]'(by simp; omega)).toNat : Int)) = false := by rw [ba, bb]; have : a[p].toNat ≠ b[q].toNat := fun h => hab (UInt8.toNat_inj.1 h); simp; omega
                clear ba bb
                go_wp2_with fail
                go_quiet (fail)
                have HTW : Hid (Tbl (wr.drewN nq) w.heap.size a.length b.length (a.length + 1) (fun i k => if p + 1 ≤ i ∨ (i = p ∧ q + 1 ≤ k) then lcsAt a b i k else 0)) := HT.out
                have HBW := Lib.hid (below_drewN hbw nq)
                generalize wr.drewN nq = W at *
                clear HT hbw hcmp
                have HT := HTW
                have r0 := HT.out.row p (by omega)
                rw [if_pos (by omega)] at r0
                have r1 := HT.out.row (p + 1) (by omega)
                rw [if_pos (by omega)] at r1
                have v0 := HT.out.at p q (by omega) (by omega)
                rw [if_neg (by omega)] at v0
                have v1 := HT.out.at (p + 1) (q + 1) (by omega) (by omega)
                rw [if_pos (by omega)] at v1
                have v2 := HT.out.at (p + 1) q (by omega) (by omega)
                rw [if_pos (by omega)] at v2
                have v3 := HT.out.at p (q + 1) (by omega) (by omega)
                rw [if_pos (by omega)] at v3
                have f0 := HT.out.frAt p (by omega) q
                have l1 := lcsAt_le a b (p + 1) (q + 1)
                have l2 := lcsAt_le a b (p + 1) q
                have l3 := lcsAt_le a b p (q + 1)
                have n1 : ((p : Int) + 1).toNat = p + 1 := by omega
                have n2 : ((q : Int) + 1).toNat = q + 1 := by omega
                have hput := fun x => HT.out.put p q x (by omega) (by omega)
                have HPUT : Hid (∀ x : Nat, x = lcsAt a b p q → Tbl (W.setCell ⟨w.heap.size + 1 + p, q, none⟩ (.int .i64 (x : Nat))) w.heap.size a.length b.length (a.length + 1) (fun i k => if p + 1 ≤ i ∨ (i = p ∧ q ≤ k) then lcsAt a b i k else 0)) := by
                  intro x hx
                  refine (hput x).congr (fun i k hi hk => ?_)
                  by_cases h : i = p ∧ k = q
                  · rw [if_pos h, if_pos (by omega), hx, h.1, h.2]
                  · rw [if_neg h]
                    by_cases h2 : p + 1 ≤ i ∨ (i = p ∧ q + 1 ≤ k)
                    · rw [if_pos h2, if_pos (by omega)]
                    · rw [if_neg h2, if_neg (by omega)]
                clear hput
                go_wp2_with fail
                have hmax : (if lcsAt a b (p + 1) q < lcsAt a b p (q + 1) then ((lcsAt a b p (q + 1) : Nat) : Int) else ((lcsAt a b (p + 1) q : Nat) : Int)) = ((lcsAt a b p q : Nat) : Int) := by
                  rw [HSTEP.out]; split <;> omega
                have HMAX := Lib.hid hmax
                clear hmax
                go_region
                all_goals
                  rw [HMAX.out]
                  go_wp2
                  go_roundw
                  case rel => exact ⟨q, by omega, by go_num, HPUT.out _ rfl, (below_set HBW.out HBW.out.size _ _ _ (by omega)).drew⟩
                  case measure => simp [intOf]
end Go.Proofs.YtclebkgfogienaaDoor
