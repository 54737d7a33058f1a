/- What same.Check, same.Long, diff.Cost, same.Places and diff.Make answer. -/
import Derived.Test.YtclebkgfogienaaDoorTable
import Derived.Test.YtclebkgfogienaaDoorOwn
import Derived.Test.YtclebkgfogienaaDoorScript
namespace Go.Proofs.YtclebkgfogienaaDoor
set_option linter.unusedSimpArgs false
set_option linter.unusedVariables false
open Go.RowKit

/-- the places that two words have in common -/
def plc (i k : Nat) : List UInt8 → List UInt8 → List (Nat × Nat)
  | x :: a, y :: b =>
    if lcs (x :: a) (y :: b) = 0 then [] else if x = y then (i, k) :: plc (i + 1) (k + 1) a b
    else if lcs (x :: a) b ≤ lcs a (y :: b) then plc (i + 1) k a (y :: b) else plc i (k + 1) (x :: a) b
  | _, _ => []
termination_by a b => a.length + b.length
/-- the edits between these places -/
def mkL (s t : List UInt8) : Nat → Nat → List (Nat × Nat) → List Ed
  | i, k, [] => if i < s.length ∨ k < t.length then [⟨i, s.length - i, t.drop k⟩] else []
  | i, k, (a, b) :: r => (if i < a ∨ k < b then [⟨i, a - i, (t.drop k).take (b - k)⟩] else []) ++ mkL s t (a + 1) (b + 1) r
def chkE (s t : List UInt8) : Int := if 200 < s.length then 2 else if 200 < t.length then 2 else 0
def makeF (s t : List UInt8) : List Ed × Int :=
  if chkE s t = 0 then if 20 < (s.length : Int) + t.length - 2 * lcs s t then ([], 11) else (mkL s t 0 0 (plc 0 0 s t), 0) else ([], chkE s t)

set_option maxRecDepth 100000 in
theorem word_check (s : List UInt8) (w : World) : Calls Tryd.prog 72 #[.string (bs s)] w fun e w' => e = .returned (.int .i64 (if 200 < s.length then 2 else 0)) ∧ Below w.heap.size w w' := by
  by_cases h : 200 < s.length
  · rw [if_pos h]
    have hd : (200 : Int) < (s.length : Int) := by omega
    go_enter Tryd.func72, Tryd.ntmps72
    go_wp2
    go_ret
    exact ⟨rfl, Below.refl _ _⟩
  · rw [if_neg h]
    have hd : ¬ (200 : Int) < (s.length : Int) := by omega
    go_enter Tryd.func72, Tryd.ntmps72
    go_wp2
    go_ret
    exact ⟨rfl, Below.refl _ _⟩

set_option maxRecDepth 100000 in
theorem same_check (s t : List UInt8) (w : World) : Calls Tryd.prog 80 #[.string (bs s), .string (bs t)] w fun e w' => e = .returned (.int .i64 (chkE s t)) ∧ Below w.heap.size w w' := by
  have C1 := Lib.hid (word_check s w)
  by_cases h : 200 < s.length
  · have hE : chkE s t = 2 := if_pos h
    rw [if_pos h] at C1
    rw [hE]
    clear h hE
    go_enter Tryd.func80, Tryd.ntmps80
    go_wp2_with fail
    refine C1.out.mono ?_
    rintro e w1 ⟨rfl, hb⟩
    go_wp2
    go_ret
    exact ⟨rfl, hb⟩
  · have hE : chkE s t = if 200 < t.length then 2 else 0 := if_neg h
    rw [if_neg h] at C1
    rw [hE]
    have C2 := Lib.hid (word_check t)
    clear h hE
    generalize (if 200 < t.length then (2 : Int) else 0) = E at *
    go_enter Tryd.func80, Tryd.ntmps80
    go_wp2_with fail
    refine C1.out.mono ?_
    rintro e w1 ⟨rfl, hb⟩
    go_wp2_with fail
    refine (C2.out w1).mono ?_
    rintro e w2 ⟨rfl, hb2⟩
    go_wp2
    go_ret
    exact ⟨rfl, hb.trans (hb2.mono hb.size)⟩

theorem chkE_le {s t : List UInt8} (h : chkE s t = 0) : s.length ≤ 200 ∧ t.length ≤ 200 := by
  unfold chkE at h
  by_cases h1 : 200 < s.length
  · rw [if_pos h1] at h; exact absurd h (by decide)
  · rw [if_neg h1] at h
    by_cases h2 : 200 < t.length
    · rw [if_pos h2] at h; exact absurd h (by decide)
    · omega

set_option maxRecDepth 100000 in
theorem same_long (s t : List UInt8) (w : World) : Calls Tryd.prog 79 #[.string (bs s), .string (bs t)] w fun e w' => e = .returned (.tuple #[.int .i64 (if chkE s t = 0 then lcs s t else 0 : Nat), .int .i64 (chkE s t)]) ∧ Below w.heap.size w w' := by
  have C1 := Lib.hid (same_check s t w)
  by_cases h : chkE s t = 0
  · obtain ⟨h1, h2⟩ := chkE_le h
    rw [h] at C1
    rw [h, if_pos rfl]
    clear h
    go_enter Tryd.func79, Tryd.ntmps79
    go_wp2_with fail
    refine C1.out.mono ?_
    rintro e w1 ⟨rfl, hb⟩
    go_wp2_with fail
    refine (same_table s t w1 h1 h2).mono ?_
    rintro e w2 ⟨rfl, hT, hb2⟩
    have r0 := hT.row 0 (by omega)
    rw [if_pos (by omega)] at r0
    have v0 := hT.at 0 0 (by omega) (by omega)
    have hl : lcsAt s t 0 0 = lcs s t := rfl
    rw [hl] at v0
    clear hT hl
    go_wp2
    go_ret2
    exact ⟨rfl, hb.trans (hb2.mono hb.size)⟩
  · have hne : (chkE s t == 0) = false := by simpa using h
    rw [if_neg h]
    clear h
    generalize chkE s t = E at *
    go_enter Tryd.func79, Tryd.ntmps79
    go_wp2_with fail
    refine C1.out.mono ?_
    rintro e w1 ⟨rfl, hb⟩
    go_wp2
    go_ret2
    exact ⟨rfl, hb⟩

def costF (s t : List UInt8) : Int := if chkE s t = 0 then (s.length : Int) + t.length - 2 * lcs s t else 0
set_option maxRecDepth 100000 in
theorem diff_cost (s t : List UInt8) (w : World) : Calls Tryd.prog 61 #[.string (bs s), .string (bs t)] w fun e w' => e = .returned (.tuple #[.int .i64 (costF s t), .int .i64 (chkE s t)]) ∧ Below w.heap.size w w' := by
  have C1 := Lib.hid (same_long s t w)
  unfold costF
  by_cases h : chkE s t = 0
  · obtain ⟨h1, h2⟩ := chkE_le h
    have hl := lcs_le s t
    rw [h, if_pos rfl] at C1
    rw [h, if_pos rfl]
    clear h
    generalize lcs s t = n at *
    go_enter Tryd.func61, Tryd.ntmps61
    go_wp2_with fail
    refine C1.out.mono ?_
    rintro e w1 ⟨rfl, hb⟩
    go_wp2
    go_ret2
    exact ⟨rfl, hb⟩
  · have hne : (chkE s t == 0) = false := by simpa using h
    rw [if_neg h] at C1
    rw [if_neg h]
    clear h
    generalize chkE s t = E at *
    go_enter Tryd.func61, Tryd.ntmps61
    go_wp2_with fail
    refine C1.out.mono ?_
    rintro e w1 ⟨rfl, hb⟩
    go_wp2
    go_ret2
    exact ⟨rfl, hb⟩

def intCells (l : List Nat) : List Value := l.map fun n => .int .i64 (n : Nat)
theorem intCells_length (l : List Nat) : (intCells l).length = l.length := by simp [intCells]
theorem info_int2 : (Tryd.prog.info? 3).map (fun i => (i.zero, i.size, i.bytes)) = some (some (.int .i64 0), 1, 8) := info_int

theorem plc_step (s t : List UInt8) (i k : Nat) (hi : i < s.length) (hk : k < t.length) (h0 : lcsAt s t i k ≠ 0) :
    plc i k (s.drop i) (t.drop k) = if s[i] = t[k] then (i, k) :: plc (i + 1) (k + 1) (s.drop (i + 1)) (t.drop (k + 1)) else if lcsAt s t i (k + 1) ≤ lcsAt s t (i + 1) k then plc (i + 1) k (s.drop (i + 1)) (t.drop k) else plc i (k + 1) (s.drop i) (t.drop (k + 1)) := by
  unfold lcsAt at *
  rw [List.drop_eq_getElem_cons hi, List.drop_eq_getElem_cons hk] at *
  rw [plc, if_neg h0]
theorem plc_stop (s t : List UInt8) (i k : Nat) (h0 : lcsAt s t i k = 0) : plc i k (s.drop i) (t.drop k) = [] := by
  unfold lcsAt at h0
  generalize s.drop i = a at *
  generalize t.drop k = b at *
  cases a with
  | nil => simp [plc]
  | cons x a => cases b with
    | nil => simp [plc]
    | cons y b => rw [plc, if_pos h0]
theorem lcsAt_pos {s t : List UInt8} {i k : Nat} (h0 : lcsAt s t i k ≠ 0) : i < s.length ∧ k < t.length := by
  unfold lcsAt at h0
  constructor
  · rcases Nat.lt_or_ge i s.length with h | h
    · exact h
    · rw [List.drop_of_length_le h, lcs_nil'] at h0; exact absurd rfl h0
  · rcases Nat.lt_or_ge k t.length with h | h
    · exact h
    · rw [List.drop_of_length_le h, lcs_nil] at h0; exact absurd rfl h0
theorem plc_len : ∀ (a b : List UInt8) (i k : Nat), (plc i k a b).length ≤ a.length
  | [], _, _, _ => by simp [plc]
  | _ :: _, [], _, _ => by simp [plc]
  | x :: a, y :: b, i, k => by
    have h1 := plc_len a b (i + 1) (k + 1)
    have h2 := plc_len a (y :: b) (i + 1) k
    have h3 := plc_len (x :: a) b i (k + 1)
    rw [plc]
    simp only [List.length_cons] at *
    split
    · simp
    · split
      · simp; omega
      · split <;> omega
termination_by a b => a.length + b.length

set_option maxRecDepth 100000 in
set_option maxHeartbeats 800000 in
theorem same_places (s t : List UInt8) (w : World) (hc : chkE s t = 0) : Calls Tryd.prog 62 #[.string (bs s), .string (bs t)] w fun e w' =>
    ∃ A1 c1 A2 c2, e = .returned (.tuple #[.slice A1 (plc 0 0 s t).length c1, .slice A2 (plc 0 0 s t).length c2, .int .i64 0]) ∧
      OwnC 3 1 w' A1 (plc 0 0 s t).length c1 (intCells ((plc 0 0 s t).map Prod.fst)) ∧ OwnC 3 1 w' A2 (plc 0 0 s t).length c2 (intCells ((plc 0 0 s t).map Prod.snd)) ∧ Below w.heap.size w w' := by
  have C1 := Lib.hid (same_check s t w)
  obtain ⟨h1, h2⟩ := chkE_le hc
  rw [hc] at C1
  obtain ⟨i0, hi, hz0, hz1, hz2⟩ := info_parts info_int
  have HI := Lib.hid hi
  have HZ0 := Lib.hid hz0
  have HZ1 := Lib.hid hz1
  have HZ2 := Lib.hid hz2
  clear hi hz0 hz1 hz2 hc
  go_enter Tryd.func62, Tryd.ntmps62
  go_wp2_with fail
  refine C1.out.mono ?_
  rintro e w1 ⟨rfl, hb⟩
  go_wp2_with fail
  refine (same_table s t w1 h1 h2).mono ?_
  rintro e w2 ⟨rfl, hT, hb2⟩
  have HT := Lib.hid hT
  have HB2 := Lib.hid (hb.trans (hb2.mono hb.size))
  have hgl := hT.lt
  clear hT hb hb2 C1
  generalize w1.heap.size = g at *
  go_wp2
  go_loopw [9, 10, 11, 12] (fun xv yv iv kv wr => ∃ (i k : Nat) (acc : List (Nat × Nat)) (A1 : Option Addr) (c1 : Nat) (A2 : Option Addr) (c2 : Nat), iv = .int .i64 i ∧ kv = .int .i64 k ∧ xv = .slice A1 acc.length c1 ∧ yv = .slice A2 acc.length c2 ∧
      i ≤ s.length ∧ k ≤ t.length ∧ acc.length ≤ i ∧ Hid (plc 0 0 s t = acc ++ plc i k (s.drop i) (t.drop k)) ∧ Hid (OwnC 3 1 wr A1 acc.length c1 (intCells (acc.map Prod.fst))) ∧ Hid (OwnC 3 1 wr A2 acc.length c2 (intCells (acc.map Prod.snd))) ∧
      Hid (∀ b ∈ blk A1, w2.heap.size ≤ b ∧ b ∉ blk A2) ∧ Hid (∀ b ∈ blk A2, w2.heap.size ≤ b) ∧ Below w2.heap.size w2 wr) (fun _ _ iv kv _ => s.length + t.length - (intOf iv).toNat - (intOf kv).toNat)
  case atStart => exact ⟨0, 0, [], none, 0, none, 0, rfl, rfl, rfl, rfl, by omega, by omega, by simp, rfl, OwnC.nil _ _ _, OwnC.nil _ _ _, fun b hb => by simp [blk] at hb, fun b hb => by simp [blk] at hb, Below.refl _ _⟩
  case round =>
    obtain ⟨i, k, acc, A1, c1, A2, c2, rfl, rfl, rfl, rfl, hil, hkl, hal, HP, HO1, HO2, HD1, HD2, hb⟩ := hrel
    have HTr := Lib.hid (HT.out.below hb)
    have r0 := HTr.out.row i hil
    rw [if_pos (by omega)] at r0
    have v0 := HTr.out.at i k (by omega) hkl
    by_cases h0 : lcsAt s t i k = 0
    · have hE := HP.out
      rw [plc_stop s t i k h0, List.append_nil] at hE
      have HE := Lib.hid hE
      have hq : ¬ 0 < lcsAt s t i k := by omega
      clear h0 hE
      generalize lcsAt s t i k = x at *
      go_wp2
      go_ret3
      rw [HE.out]
      exact ⟨A1, c1, A2, c2, rfl, HO1.out, HO2.out, HB2.out.trans (hb.mono HB2.out.size)⟩
    · obtain ⟨p1, p2⟩ := lcsAt_pos h0
      have hq : 0 < lcsAt s t i k := by omega
      have hst := plc_step s t i k p1 p2 h0
      have HST := Lib.hid hst
      have q1 : (i : Int) < (s.length : Int) := by omega
      have q2 : (k : Int) < (t.length : Int) := by omega
      have ba := bs_get s i (by simp; omega)
      have bb := bs_get t k (by simp; omega)
      clear h0 hst
      generalize lcsAt s t i k = x at *
      by_cases hab : s[i] = t[k]
      · rw [if_pos hab] at HST
        have hcmp : ((((bs s)[i]'(by simp; omega)).toNat : Int) == (((bs t)[k]'(by simp; omega)).toNat : Int)) = true := by rw [ba, bb, hab]; simp
        clear ba bb
        go_wp2_with fail
        go_quiet (fail)
        have HB := Lib.hid (below_drewN hb nq)
        have O1 : OwnC 3 1 (wr.drewN nq) A1 acc.length c1 (intCells (acc.map Prod.fst)) := HO1.out
        have O2 : OwnC 3 1 (wr.drewN nq) A2 acc.length c2 (intCells (acc.map Prod.snd)) := HO2.out
        have HLT : Hid (∀ b ∈ blk A2, b < (wr.drewN nq).heap.size) := O2.lt
        generalize wr.drewN nq = W at *
        clear HO1 HO2 hb hcmp r0 v0
        have hal2 : acc.length ≤ 200 := by omega
        go_wp2_with (at_builtin; refine wpList_append_C rfl _ _ 100 3 1 8 rfl i0 _ Tryd.underlying100 HI.out HZ0.out HZ1.out HZ2.out rfl A1 acc.length c1 (intCells (acc.map Prod.fst)) rfl (O1.below ((Below.refl _ _).alloc (Nat.le_refl _) _)) ⟨W.heap.size, 0, none⟩ 1 1 [.int .i64 i] rfl rfl ?c1 ?c2 (by omega) (by unfold maxLen; omega) (by omega) ?_)
        case c1 => exact cell_one_new' _ _ _
        case c2 => intro u hu; simp at hu; subst hu; rfl
        intro A1' c1' W1 P1 U1 B1
        have P1 := Lib.hid P1
        have U1 := Lib.hid U1
        have B1 := Lib.hid B1
        have O2' : OwnC 3 1 W1 A2 acc.length c2 (intCells (acc.map Prod.snd)) :=
          (O2.below ((Below.refl _ _).alloc (Nat.le_refl _) _)).upd U1.out (fun b hb hm => (HD1.out b hm).2 hb)
        have HO2' := Lib.hid O2'
        clear O1 O2
        go_wp2_with (at_builtin; refine wpList_append_C rfl _ _ 100 3 1 8 rfl i0 _ Tryd.underlying100 HI.out HZ0.out HZ1.out HZ2.out rfl A2 acc.length c2 (intCells (acc.map Prod.snd)) rfl (O2'.below ((Below.refl _ _).alloc (Nat.le_refl _) _)) ⟨W1.heap.size, 0, none⟩ 1 1 [.int .i64 k] rfl rfl ?c1 ?c2 (by omega) (by unfold maxLen; omega) (by omega) ?_)
        case c1 => exact cell_one_new' _ _ _
        case c2 => intro u hu; simp at hu; subst hu; rfl
        intro A2' c2' W2 P2 U2 B2
        have P2 := Lib.hid P2
        have U2 := Lib.hid U2
        have B2 := Lib.hid B2
        have hW1 : Hid (W.heap.size + 1 ≤ W1.heap.size) := by have := U1.out.size; simp at this; exact this
        have hlt1 := Lib.hid P1.out.lt
        have hbl2 : Hid (∀ b ∈ blk A1', b ∉ blk A2) := by
          intro b hb hm
          rcases B1.out b hb with h | h
          · exact (HD1.out b h).2 hm
          · have h5 := HLT.out b hm
            have : W.heap.size + 1 ≤ b := by simpa using h
            omega
        clear O2'
        go_wp2
        go_roundw
        case rel =>
          refine ⟨i + 1, k + 1, acc ++ [(i, k)], A1', c1', A2', c2', by go_num, by go_num, by simp, by simp, by omega, by omega, by simp; omega, ?_, ?_, ?_, ?_, ?_, ?_⟩
          · unfold Hid; rw [HP.out, HST.out]; simp
          · have := (P1.out.below ((Below.refl _ _).alloc (Nat.le_refl _) _)).upd U2.out hbl2.out
            simpa [intCells, Hid] using this
          · have := P2.out
            simpa [intCells, Hid] using this
          · intro b hb
            refine ⟨?_, fun hm => ?_⟩
            · rcases B1.out b hb with h | h
              · exact (HD1.out b h).1
              · have : W.heap.size + 1 ≤ b := by simpa using h
                have := HB.out.size; omega
            · rcases B2.out b hm with h | h
              · exact hbl2.out b hb h
              · have := hlt1.out b hb
                have : W1.heap.size + 1 ≤ b := by simpa using h
                omega
          · intro b hb
            rcases B2.out b hb with h | h
            · exact HD2.out b h
            · have : W1.heap.size + 1 ≤ b := by simpa using h
              have := HB.out.size; have := hW1.out; omega
          · have k1 := (HB.out.alloc HB.out.size _).trans (U1.out.below (B := w2.heap.size) (fun b hb => (HD1.out b hb).1) (by simp; have := HB.out.size; omega))
            exact (k1.alloc k1.size _).trans (U2.out.below (B := w2.heap.size) (fun b hb => HD2.out b hb) (by simp; have := k1.size; omega))
        case measure => simp [intOf]; omega
      · rw [if_neg hab] at HST
        have hcmp : ((((bs s)[i]'(by simp; omega)).toNat : Int) == (((bs t)[k]'(by simp; omega)).toNat : Int)) = false := by rw [ba, bb]; have : s[i].toNat ≠ t[k].toNat := fun h => hab (UInt8.toNat_inj.1 h); simp; omega
        clear ba bb
        go_wp2_with fail
        go_quiet (fail)
        have HB := Lib.hid (below_drewN hb nq)
        have HTW : Hid (Tbl (wr.drewN nq) g s.length t.length (s.length + 1) (lcsAt s t)) := HTr.out
        have O1 : Hid (OwnC 3 1 (wr.drewN nq) A1 acc.length c1 (intCells (acc.map Prod.fst))) := HO1.out
        have O2 : Hid (OwnC 3 1 (wr.drewN nq) A2 acc.length c2 (intCells (acc.map Prod.snd))) := HO2.out
        generalize wr.drewN nq = W at *
        clear HO1 HO2 hb hcmp r0 v0 HTr
        have r0 := HTW.out.row i (by omega)
        rw [if_pos (by omega)] at r0
        have r1 := HTW.out.row (i + 1) (by omega)
        rw [if_pos (by omega)] at r1
        have v1 := HTW.out.at (i + 1) k (by omega) (by omega)
        have v2 := HTW.out.at i (k + 1) (by omega) (by omega)
        have n1 : ((i : Int) + 1).toNat = i + 1 := by omega
        have n2 : ((k : Int) + 1).toNat = k + 1 := by omega
        have n3 : (i : Int) + 1 < (s.length : Int) + 1 := by omega
        have n4 : (k : Int) + 1 < (t.length : Int) + 1 := by omega
        go_wp2_with fail
        go_quiet (fail)
        by_cases hg : lcsAt s t i (k + 1) ≤ lcsAt s t (i + 1) k
        · rw [if_pos hg] at HST
          go_wp2
          go_roundw
          case rel => exact ⟨i + 1, k, acc, A1, c1, A2, c2, by go_num, rfl, rfl, rfl, by omega, by omega, by omega, by unfold Hid; rw [HP.out, HST.out], O1.out, O2.out, HD1.out, HD2.out, below_drewN HB.out _⟩
          case measure => simp [intOf]; omega
        · rw [if_neg hg] at HST
          go_wp2
          go_roundw
          case rel => exact ⟨i, k + 1, acc, A1, c1, A2, c2, rfl, by go_num, rfl, rfl, by omega, by omega, by omega, by unfold Hid; rw [HP.out, HST.out], O1.out, O2.out, HD1.out, HD2.out, below_drewN HB.out _⟩
          case measure => simp [intOf]; omega
end Go.Proofs.YtclebkgfogienaaDoor
