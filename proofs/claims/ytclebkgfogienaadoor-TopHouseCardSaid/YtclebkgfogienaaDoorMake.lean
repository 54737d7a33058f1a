/- diff.Make. -/
import Derived.Test.YtclebkgfogienaaDoorDiff
import Derived.Test.YtclebkgfogienaaDoorEdit
namespace Go.Proofs.YtclebkgfogienaaDoor
set_option linter.unusedSimpArgs false
set_option linter.unusedVariables false
open Go.RowKit

/-- places that follow one another, each pair of like bytes -/
def IncP (s t : List UInt8) : Nat → Nat → List (Nat × Nat) → Prop
  | i, k, [] => i ≤ s.length ∧ k ≤ t.length
  | i, k, (a, b) :: r => i ≤ a ∧ k ≤ b ∧ a < s.length ∧ b < t.length ∧ s[a]? = t[b]? ∧ IncP s t (a + 1) (b + 1) r
theorem IncP.weak {s t : List UInt8} {i k i' k' : Nat} : ∀ {l : List (Nat × Nat)}, IncP s t i' k' l → i ≤ i' → k ≤ k' → IncP s t i k l
  | [], h, h1, h2 => ⟨Nat.le_trans h1 h.1, Nat.le_trans h2 h.2⟩
  | (_, _) :: _, h, h1, h2 => ⟨Nat.le_trans h1 h.1, Nat.le_trans h2 h.2.1, h.2.2⟩
theorem plc_inc (s t : List UInt8) : ∀ (a b : List UInt8) (i k : Nat), a = s.drop i → b = t.drop k → i ≤ s.length → k ≤ t.length → IncP s t i k (plc i k a b)
  | [], _, i, k, _, _, hi, hk => by simp [plc, IncP, hi, hk]
  | _ :: _, [], i, k, _, _, hi, hk => by simp [plc, IncP, hi, hk]
  | x :: a, y :: b, i, k, ha, hb, hi, hk => by
    have h1 : i < s.length := by
      rcases Nat.lt_or_ge i s.length with h | h
      · exact h
      · rw [List.drop_of_length_le h] at ha; cases ha
    have h2 : k < t.length := by
      rcases Nat.lt_or_ge k t.length with h | h
      · exact h
      · rw [List.drop_of_length_le h] at hb; cases hb
    rw [List.drop_eq_getElem_cons h1] at ha
    rw [List.drop_eq_getElem_cons h2] at hb
    injection ha with hx ha
    injection hb with hy hb
    have ha2 : x :: a = s.drop i := by rw [List.drop_eq_getElem_cons h1, hx, ha]
    have hb2 : y :: b = t.drop k := by rw [List.drop_eq_getElem_cons h2, hy, hb]
    rw [plc]
    split
    · exact ⟨hi, hk⟩
    · split
      · rename_i hxy
        refine ⟨Nat.le_refl _, Nat.le_refl _, h1, h2, ?_, plc_inc s t a b (i + 1) (k + 1) ha hb h1 h2⟩
        rw [List.getElem?_eq_getElem h1, List.getElem?_eq_getElem h2, ← hx, ← hy, hxy]
      · split
        · exact (plc_inc s t a (y :: b) (i + 1) k ha hb2 h1 hk).weak (by omega) (Nat.le_refl _)
        · exact (plc_inc s t (x :: a) b i (k + 1) ha2 hb hi h2).weak (Nat.le_refl _) (by omega)
termination_by a b => a.length + b.length

def restL (s t : List UInt8) (P : List (Nat × Nat)) (n i k : Nat) : List Ed := if n ≤ P.length then mkL s t i k (P.drop n) else []
theorem restL_mid (s t : List UInt8) (P : List (Nat × Nat)) (n i k : Nat) (h : n < P.length) :
    restL s t P n i k = (if i < P[n].1 ∨ k < P[n].2 then [⟨i, P[n].1 - i, (t.drop k).take (P[n].2 - k)⟩] else []) ++ restL s t P (n + 1) (P[n].1 + 1) (P[n].2 + 1) := by
  unfold restL
  have e1 : n ≤ P.length := by omega
  have e2 : n + 1 ≤ P.length := h
  rw [if_pos e1, if_pos e2, List.drop_eq_getElem_cons h]
  generalize P[n] = x
  obtain ⟨a, b⟩ := x
  rfl
theorem restL_end (s t : List UInt8) (P : List (Nat × Nat)) (i k : Nat) :
    restL s t P P.length i k = (if i < s.length ∨ k < t.length then [⟨i, s.length - i, t.drop k⟩] else []) ++ restL s t P (P.length + 1) (s.length + 1) (t.length + 1) := by
  unfold restL
  rw [if_pos (Nat.le_refl P.length), if_neg (show ¬ P.length + 1 ≤ P.length by omega), List.drop_length, mkL, List.append_nil]
theorem intCells_at (P : List (Nat × Nat)) (n : Nat) (h : n < P.length) : (intCells (P.map Prod.fst))[n]? = some (.int .i64 (P[n].1 : Nat)) ∧ (intCells (P.map Prod.snd))[n]? = some (.int .i64 (P[n].2 : Nat)) := by
  simp [intCells, h]

theorem owns_blk {w : World} {base e size n n' c : Nat} {A : Option Addr} {xs : List Value} (h : w.ownsRow base e size (.slice A n c) n' xs) : ∀ x ∈ blk A, base ≤ x := by
  intro x hx
  rcases h.2 with ⟨hn, _⟩ | ⟨g, cap, cur, he, hb, _⟩
  · cases hn; simp [blk] at hx
  · cases he; simp [blk] at hx; omega
set_option maxRecDepth 100000 in
set_option maxHeartbeats 1600000 in
theorem diff_make_ok (s t : List UInt8) (w : World) (hc : chkE s t = 0) (h20 : ¬ 20 < (s.length : Int) + t.length - 2 * lcs s t) :
    Calls Tryd.prog 40 #[.string (bs s), .string (bs t)] w fun e w' => ∃ v, e = .returned (.tuple #[v, .int .i64 0]) ∧ EditsAt w' v (mkL s t 0 0 (plc 0 0 s t)) ∧ (∀ A n c, v = .slice A n c → ∀ x ∈ blk A, w.heap.size ≤ x) ∧ Below w.heap.size w w' := by
  have C1 := Lib.hid (diff_cost s t w)
  have C2 := Lib.hid (fun W => same_places s t W hc)
  obtain ⟨h1, h2⟩ := chkE_le hc
  have HL : Hid ((plc 0 0 s t).length ≤ s.length) := plc_len s t 0 0
  have HI : Hid (IncP s t 0 0 (plc 0 0 s t)) := plc_inc s t s t 0 0 rfl rfl (by omega) (by omega)
  have hcost : costF s t = (s.length : Int) + t.length - 2 * lcs s t := if_pos hc
  rw [hcost, hc] at C1
  have h20' : ¬ 20 < (s.length : Int) + (t.length : Int) - 2 * (lcs s t : Int) := h20
  generalize (s.length : Int) + t.length - 2 * lcs s t = cst at *
  have H0 : Hid (mkL s t 0 0 (plc 0 0 s t) = restL s t (plc 0 0 s t) 0 0 0) := by unfold Hid restL; rw [if_pos (by omega), List.drop_zero]
  rw [H0.out]
  generalize plc 0 0 s t = P at *
  obtain ⟨i0, hi, hz0, hz1, hz2⟩ := info_parts info_ed
  have HI0 := Lib.hid hi
  have HZ0 := Lib.hid hz0
  have HZ1 := Lib.hid hz1
  have HZ2 := Lib.hid hz2
  clear hi hz0 hz1 hz2 hc hcost h20 H0
  have hPl : P.length ≤ 200 := by have := HL.out; omega
  go_enter Tryd.func40, Tryd.ntmps40
  go_wp2_with fail
  refine C1.out.mono ?_
  rintro e w1 ⟨rfl, hb1⟩
  go_wp2_with fail
  refine (C2.out w1).mono ?_
  rintro e w2 ⟨A1, c1, A2, c2, rfl, hX, hY, hb2⟩
  have HX := Lib.hid hX
  have HY := Lib.hid hY
  have HB2 := Lib.hid (hb1.trans (hb2.mono hb1.size))
  clear hX hY hb1 hb2 C1 C2
  go_wp2
  go_loopw [11, 12, 13, 38] (fun ov iv kv nv wr => ∃ (n i k : Nat) (acc : List Ed) (A : Option Addr) (c : Nat), nv = .int .i64 n ∧ iv = .int .i64 i ∧ kv = .int .i64 k ∧ ov = .slice A acc.length c ∧ n ≤ P.length + 1 ∧ acc.length ≤ n ∧ i ≤ s.length + 1 ∧ k ≤ t.length + 1 ∧
      Hid (restL s t P 0 0 0 = acc ++ restL s t P n i k) ∧ Hid (n ≤ P.length → IncP s t i k (P.drop n)) ∧ Hid (wr.ownsRow w2.heap.size 89 3 (.slice A acc.length c) acc.length (edCells acc)) ∧ Below w2.heap.size w2 wr) (fun _ _ _ nv _ => P.length + 1 - (intOf nv).toNat)
  case atStart => exact ⟨0, 0, 0, [], none, 0, rfl, rfl, rfl, rfl, by omega, by simp, by omega, by omega, by simp [Hid], fun _ => HI.out, World.ownsRow_nil _ _ _ _, Below.refl _ _⟩
  case round =>
    obtain ⟨n, i, k, acc, A, c, rfl, rfl, rfl, rfl, hn, hacc, hil, hkl, HR, HC, HO, hb⟩ := hrel
    by_cases hlt : n < P.length
    · have hr := restL_mid s t P n i k hlt
      have hX1 := (HX.out.below hb)
      have hY1 := (HY.out.below hb)
      obtain ⟨b1, o1, rfl, _, hbl1⟩ := hX1.addr (by omega)
      obtain ⟨b2, o2, rfl, _, hbl2⟩ := hY1.addr (by omega)
      have x1 := hX1.cell n (by omega)
      have y1 := hY1.cell n (by omega)
      rw [(intCells_at P n hlt).1] at x1
      rw [(intCells_at P n hlt).2] at y1
      have hinc := HC.out (by omega)
      rw [List.drop_eq_getElem_cons hlt] at hinc
      generalize P[n] = p at *
      obtain ⟨a, b⟩ := p
      obtain ⟨j1, j2, j3, j4, _, j6⟩ := hinc
      simp only at x1 y1 hr
      have HRR := Lib.hid hr
      have HJ := Lib.hid j6
      have q0 : (n : Int) < (P.length : Int) + 1 := by omega
      have q1 : (n : Int) < (P.length : Int) := by omega
      clear hr j6 hX1 hY1 HC
      go_wp2_with fail
      go_quiet (fail)
      have HB := Lib.hid (below_drewN hb nq)
      have HOW : Hid ((wr.drewN nq).ownsRow w2.heap.size 89 3 (.slice A acc.length c) acc.length (edCells acc)) := HO.out
      generalize wr.drewN nq = W at *
      clear x1 y1 hb HO hbl1 hbl2 q0 q1
      by_cases h1 : i < a
      · have c1 : decide ((i : Int) < (a : Int)) = true := by simp; omega
        rw [if_pos (.inl h1)] at HRR
        have g1 : (k : Int) ≤ (b : Int) := by omega
        have g2 : (b : Int) ≤ (t.length : Int) := by omega
        have g3 : ((acc.length : Int) + 1) ≤ 300 := by omega
        go_wp2_with (at_builtin; refine wpList_append_own _ rfl _ _ 23 rfl w2.heap.size 89 i0 _ 3 32 Tryd.underlying23 HI0.out HZ0.out HZ1.out HZ2.out rfl (by decide) _ _ _ rfl (HOW.out.alloc _) ⟨W.heap.size, 0, none⟩ 1 1 [.int .i64 i, .int .i64 ((a : Int) - i), .string (bs (List.take (b - k) (List.drop k t)))] rfl rfl ?c1 ?c2 ?c3 ?c4 ?c5 ?_)
        case c1 => exact cell_three_new _ _ _ _ _
        case c2 => exact oneCell3 _ _ _
        case c3 => unfold maxLen; omega
        case c4 => omega
        case c5 => simp; have := HB.out.size; omega
        intro v' w4 hown4 hgrow _
        obtain ⟨A', c', rfl⟩ := owns_shape hown4
        have HO4 := Lib.hid hown4
        clear hown4
        have hbf : Below w2.heap.size w2 w4 := (HB.out.alloc HB.out.size _).grown hgrow (by simp; have := HB.out.size; omega) (fun k hk => (HOW.out.lt k hk).1)
        go_wp2
        go_roundw
        case rel =>
          refine ⟨n + 1, a + 1, b + 1, acc ++ [⟨i, a - i, List.take (b - k) (List.drop k t)⟩], A', c', by go_num, by go_num, by go_num, by simp, by omega, by simp; omega, by omega, by omega, ?_, fun _ => HJ.out, ?_, hbf⟩
          · unfold Hid; rw [HR.out, HRR.out]; simp
          · have := HO4.out
            simpa [edCells, Hid] using this
        case measure => simp [intOf]; omega
      · by_cases h2 : k < b
        · have c1 : decide ((i : Int) < (a : Int)) = false := by simp; omega
          have c2 : decide ((k : Int) < (b : Int)) = true := by simp; omega
          rw [if_pos (.inr h2)] at HRR
          have g1 : (k : Int) ≤ (b : Int) := by omega
          have g2 : (b : Int) ≤ (t.length : Int) := by omega
          have g3 : ((acc.length : Int) + 1) ≤ 300 := by omega
          go_wp2_with (at_builtin; refine wpList_append_own _ rfl _ _ 23 rfl w2.heap.size 89 i0 _ 3 32 Tryd.underlying23 HI0.out HZ0.out HZ1.out HZ2.out rfl (by decide) _ _ _ rfl (HOW.out.alloc _) ⟨W.heap.size, 0, none⟩ 1 1 [.int .i64 i, .int .i64 ((a : Int) - i), .string (bs (List.take (b - k) (List.drop k t)))] rfl rfl ?c1 ?c2 ?c3 ?c4 ?c5 ?_)
          case c1 => exact cell_three_new _ _ _ _ _
          case c2 => exact oneCell3 _ _ _
          case c3 => unfold maxLen; omega
          case c4 => omega
          case c5 => simp; have := HB.out.size; omega
          intro v' w4 hown4 hgrow _
          obtain ⟨A', c', rfl⟩ := owns_shape hown4
          have HO4 := Lib.hid hown4
          clear hown4
          have hbf : Below w2.heap.size w2 w4 := (HB.out.alloc HB.out.size _).grown hgrow (by simp; have := HB.out.size; omega) (fun k hk => (HOW.out.lt k hk).1)
          go_wp2
          go_roundw
          case rel =>
            refine ⟨n + 1, a + 1, b + 1, acc ++ [⟨i, a - i, List.take (b - k) (List.drop k t)⟩], A', c', by go_num, by go_num, by go_num, by simp, by omega, by simp; omega, by omega, by omega, ?_, fun _ => HJ.out, ?_, hbf⟩
            · unfold Hid; rw [HR.out, HRR.out]; simp
            · have := HO4.out
              simpa [edCells, Hid] using this
          case measure => simp [intOf]; omega
        · have c1 : decide ((i : Int) < (a : Int)) = false := by simp; omega
          have c2 : decide ((k : Int) < (b : Int)) = false := by simp; omega
          rw [if_neg (by omega)] at HRR
          go_wp2
          go_roundw
          case rel => exact ⟨n + 1, a + 1, b + 1, acc, A, c, by go_num, by go_num, by go_num, rfl, by omega, by omega, by omega, by omega, by unfold Hid; rw [HR.out, HRR.out]; simp, fun _ => HJ.out, HOW.out, HB.out⟩
          case measure => simp [intOf]; omega
    · by_cases hend : n = P.length
      · have hr := restL_end s t P i k
        have hinc := HC.out (by omega)
        rw [List.drop_of_length_le (by omega)] at hinc
        obtain ⟨j1, j2⟩ := hinc
        subst hend
        have HRR := Lib.hid hr
        clear hr HC hlt hn
        have HB := Lib.hid hb
        have HOW := HO
        obtain ⟨W, hW⟩ : ∃ W : World, W = wr := ⟨_, rfl⟩
        rw [← hW] at HB HOW ⊢
        clear hW HO hb
        have HJ : True := trivial
        by_cases h1 : i < s.length
        · have c1 : decide ((i : Int) < (s.length : Int)) = true := by simp; omega
          rw [if_pos (.inl h1)] at HRR
          have g1 : (k : Int) ≤ (t.length : Int) := by omega
          have g2 : (t.length : Int) ≤ (t.length : Int) := by omega
          have g3 : ((acc.length : Int) + 1) ≤ 300 := by omega
          go_wp2_with (at_builtin; refine wpList_append_own _ rfl _ _ 23 rfl w2.heap.size 89 i0 _ 3 32 Tryd.underlying23 HI0.out HZ0.out HZ1.out HZ2.out rfl (by decide) _ _ _ rfl (HOW.out.alloc _) ⟨W.heap.size, 0, none⟩ 1 1 [.int .i64 i, .int .i64 ((s.length : Int) - i), .string (bs (List.drop k t))] rfl rfl ?c1 ?c2 ?c3 ?c4 ?c5 ?_)
          case c1 => exact cell_three_new _ _ _ _ _
          case c2 => exact oneCell3 _ _ _
          case c3 => unfold maxLen; omega
          case c4 => omega
          case c5 => simp; have := HB.out.size; omega
          intro v' w4 hown4 hgrow _
          obtain ⟨A', c', rfl⟩ := owns_shape hown4
          have HO4 := Lib.hid hown4
          clear hown4
          have hbf : Below w2.heap.size w2 w4 := (HB.out.alloc HB.out.size _).grown hgrow (by simp; have := HB.out.size; omega) (fun k hk => (HOW.out.lt k hk).1)
          go_wp2
          go_roundw
          case rel =>
            refine ⟨P.length + 1, s.length + 1, t.length + 1, acc ++ [⟨i, s.length - i, List.drop k t⟩], A', c', by go_num, by go_num, by go_num, by simp, by omega, by simp; omega, by omega, by omega, ?_, fun h => absurd h (by omega), ?_, hbf⟩
            · unfold Hid; rw [HR.out, HRR.out]; simp
            · have := HO4.out
              simpa [edCells, Hid] using this
          case measure => simp [intOf]
        · by_cases h2 : k < t.length
          · have c1 : decide ((i : Int) < (s.length : Int)) = false := by simp; omega
            have c2 : decide ((k : Int) < (t.length : Int)) = true := by simp; omega
            rw [if_pos (.inr h2)] at HRR
            have g1 : (k : Int) ≤ (t.length : Int) := by omega
            have g2 : (t.length : Int) ≤ (t.length : Int) := by omega
            have g3 : ((acc.length : Int) + 1) ≤ 300 := by omega
            go_wp2_with (at_builtin; refine wpList_append_own _ rfl _ _ 23 rfl w2.heap.size 89 i0 _ 3 32 Tryd.underlying23 HI0.out HZ0.out HZ1.out HZ2.out rfl (by decide) _ _ _ rfl (HOW.out.alloc _) ⟨W.heap.size, 0, none⟩ 1 1 [.int .i64 i, .int .i64 ((s.length : Int) - i), .string (bs (List.drop k t))] rfl rfl ?c1 ?c2 ?c3 ?c4 ?c5 ?_)
            case c1 => exact cell_three_new _ _ _ _ _
            case c2 => exact oneCell3 _ _ _
            case c3 => unfold maxLen; omega
            case c4 => omega
            case c5 => simp; have := HB.out.size; omega
            intro v' w4 hown4 hgrow _
            obtain ⟨A', c', rfl⟩ := owns_shape hown4
            have HO4 := Lib.hid hown4
            clear hown4
            have hbf : Below w2.heap.size w2 w4 := (HB.out.alloc HB.out.size _).grown hgrow (by simp; have := HB.out.size; omega) (fun k hk => (HOW.out.lt k hk).1)
            go_wp2
            go_roundw
            case rel =>
              refine ⟨P.length + 1, s.length + 1, t.length + 1, acc ++ [⟨i, s.length - i, List.drop k t⟩], A', c', by go_num, by go_num, by go_num, by simp, by omega, by simp; omega, by omega, by omega, ?_, fun h => absurd h (by omega), ?_, hbf⟩
              · unfold Hid; rw [HR.out, HRR.out]; simp
              · have := HO4.out
                simpa [edCells, Hid] using this
            case measure => simp [intOf]
          · have c1 : decide ((i : Int) < (s.length : Int)) = false := by simp; omega
            have c2 : decide ((k : Int) < (t.length : Int)) = false := by simp; omega
            rw [if_neg (by omega)] at HRR
            go_wp2
            go_roundw
            case rel => exact ⟨P.length + 1, s.length + 1, t.length + 1, acc, A, c, by go_num, by go_num, by go_num, rfl, by omega, by omega, by omega, by omega, by unfold Hid; rw [HR.out, HRR.out]; simp, fun h => absurd h (by omega), HOW.out, HB.out⟩
            case measure => simp [intOf]
      · have hE : restL s t P n i k = [] := by unfold restL; rw [if_neg (by omega)]
        have q0 : ¬ (n : Int) < (P.length : Int) + 1 := by omega
        have HE : Hid (restL s t P 0 0 0 = acc) := by unfold Hid; rw [HR.out, hE, List.append_nil]
        clear hE HR HC
        go_wp2
        go_ret2
        rw [HE.out]
        exact ⟨_, rfl, editsAt_of_owns HO.out, fun A' n' c' hA x hx => by cases hA; exact Nat.le_trans HB2.out.size (owns_blk HO.out x hx), HB2.out.trans (hb.mono HB2.out.size)⟩

set_option maxRecDepth 100000 in
set_option maxHeartbeats 800000 in
theorem diff_make_no (s t : List UInt8) (w : World) (hc : chkE s t ≠ 0) :
    Calls Tryd.prog 40 #[.string (bs s), .string (bs t)] w fun e w' => e = .returned (.tuple #[.slice none 0 0, .int .i64 (chkE s t)]) ∧ Below w.heap.size w w' := by
  have C1 := Lib.hid (diff_cost s t w)
  have hne : (chkE s t == 0) = false := by simpa using hc
  have hcost : costF s t = 0 := if_neg hc
  rw [hcost] at C1
  clear hcost hc
  generalize chkE s t = E at *
  go_enter Tryd.func40, Tryd.ntmps40
  go_wp2_with fail
  refine C1.out.mono ?_
  rintro e w1 ⟨rfl, hb⟩
  go_wp2
  go_ret2
  exact ⟨rfl, hb⟩
set_option maxRecDepth 100000 in
set_option maxHeartbeats 800000 in
theorem diff_make_full (s t : List UInt8) (w : World) (hc : chkE s t = 0) (h20 : 20 < (s.length : Int) + t.length - 2 * lcs s t) :
    Calls Tryd.prog 40 #[.string (bs s), .string (bs t)] w fun e w' => e = .returned (.tuple #[.slice none 0 0, .int .i64 11]) ∧ Below w.heap.size w w' := by
  have C1 := Lib.hid (diff_cost s t w)
  have hcost : costF s t = (s.length : Int) + t.length - 2 * lcs s t := if_pos hc
  rw [hcost, hc] at C1
  clear hcost hc
  have h20' : 20 < (s.length : Int) + (t.length : Int) - 2 * (lcs s t : Int) := h20
  generalize (s.length : Int) + t.length - 2 * lcs s t = cst at *
  clear h20
  go_enter Tryd.func40, Tryd.ntmps40
  go_wp2_with fail
  refine C1.out.mono ?_
  rintro e w1 ⟨rfl, hb⟩
  go_wp2
  go_ret2
  exact ⟨rfl, hb⟩

theorem editsAt_none (w : World) : EditsAt w (.slice none 0 0) [] := ⟨none, 0, rfl, by simp, fun h => absurd rfl h⟩
theorem diff_make (s t : List UInt8) (w : World) :
    Calls Tryd.prog 40 #[.string (bs s), .string (bs t)] w fun e w' => ∃ v, e = .returned (.tuple #[v, .int .i64 (makeF s t).2]) ∧ EditsAt w' v (makeF s t).1 ∧ (∀ A n c, v = .slice A n c → ∀ x ∈ blk A, w.heap.size ≤ x) ∧ Below w.heap.size w w' := by
  unfold makeF
  by_cases hc : chkE s t = 0
  · rw [if_pos hc]
    by_cases h20 : 20 < (s.length : Int) + t.length - 2 * lcs s t
    · rw [if_pos h20]
      exact (diff_make_full s t w hc h20).mono fun e w' ⟨h1, h2⟩ => ⟨_, h1, editsAt_none _, fun A n c hA x hx => by cases hA; simp [blk] at hx, h2⟩
    · rw [if_neg h20]
      exact diff_make_ok s t w hc h20
  · rw [if_neg hc]
    exact (diff_make_no s t w hc).mono fun e w' ⟨h1, h2⟩ => ⟨_, h1, editsAt_none _, fun A n c hA x hx => by cases hA; simp [blk] at hx, h2⟩

/-- what is made makes the one of the other -/
theorem applyL_mk (s t : List UInt8) : ∀ (l : List (Nat × Nat)) (i k j : Nat), j ≤ i → IncP s t i k l → applyL s j (mkL s t i k l) = (s.drop j).take (i - j) ++ t.drop k
  | [], i, k, j, hj, h => by
    rw [mkL]
    by_cases hc : i < s.length ∨ k < t.length
    · rw [if_pos hc]
      have e : ((i : Int) + ((s.length : Int) - i)).toNat = s.length := by have := h.1; omega
      simp [applyL, e]
    · rw [if_neg hc]
      have e1 := h.1
      have e2 := h.2
      have e3 : t.drop k = [] := List.drop_of_length_le (by omega)
      rw [applyL, e3, List.append_nil, List.take_of_length_le (by simp; omega)]
  | (a, b) :: r, i, k, j, hj, h => by
    obtain ⟨h1, h2, h3, h4, h5, h6⟩ := h
    have hs : (s.drop a).take 1 ++ t.drop (b + 1) = t.drop b := by
      rw [List.drop_eq_getElem_cons h3, List.drop_eq_getElem_cons h4]
      rw [List.getElem?_eq_getElem h3, List.getElem?_eq_getElem h4] at h5
      injection h5 with h5
      simp [h5]
    rw [mkL]
    by_cases hc : i < a ∨ k < b
    · rw [if_pos hc]
      have e : ((i : Int) + ((a : Int) - i)).toNat = a := by omega
      have ih := applyL_mk s t r (a + 1) (b + 1) a (by omega) h6
      rw [List.singleton_append, applyL]
      simp only [Int.toNat_natCast, e]
      rw [ih, show a + 1 - a = 1 by omega, hs, List.append_assoc]
      congr 1
      have hd : t.drop b = (t.drop k).drop (b - k) := by rw [List.drop_drop]; congr 1; omega
      rw [hd, List.take_append_drop]
    · rw [if_neg hc, List.nil_append]
      have ea : i = a := by omega
      have eb : k = b := by omega
      subst ea eb
      have ih := applyL_mk s t r (i + 1) (k + 1) j (by omega) h6
      rw [ih, ← hs, ← List.append_assoc]
      congr 1
      rw [show i + 1 - j = (i - j) + 1 by omega, List.take_add, List.drop_drop, show j + (i - j) = i by omega]
theorem make_right (s t : List UInt8) (h : (makeF s t).2 = 0) (h2 : (apply s (makeF s t).1).2 = 0) : (apply s (makeF s t).1).1 = t := by
  have hl : (makeF s t).1 = mkL s t 0 0 (plc 0 0 s t) := by
    unfold makeF at h ⊢
    by_cases hc : chkE s t = 0
    · rw [if_pos hc] at h ⊢
      by_cases h20 : 20 < (s.length : Int) + t.length - 2 * lcs s t
      · rw [if_pos h20] at h; exact absurd h (by decide)
      · rw [if_neg h20]
    · rw [if_neg hc] at h; exact absurd h hc
  rw [hl] at h2 ⊢
  unfold apply at h2 ⊢
  by_cases hk : chk s.length (mkL s t 0 0 (plc 0 0 s t)) = 0
  · rw [if_pos hk]
    have := applyL_mk s t (plc 0 0 s t) 0 0 0 (Nat.le_refl _) (plc_inc s t s t 0 0 rfl rfl (by omega) (by omega))
    simpa using this
  · rw [if_neg hk] at h2; exact absurd h2 hk
end Go.Proofs.YtclebkgfogienaaDoor
