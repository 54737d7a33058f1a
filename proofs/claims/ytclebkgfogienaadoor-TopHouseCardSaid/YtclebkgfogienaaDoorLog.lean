/- The log: frames, what a scan tells, and what each call of log does to its struct. -/
import Derived.Test.YtclebkgfogienaaDoorSum
namespace Go.Proofs.YtclebkgfogienaaDoor
set_option linter.unusedSimpArgs false
set_option linter.unusedVariables false
open Go.RowKit

/-- the two bytes of a length, and the record -/
def headF (r : List UInt8) : List UInt8 := UInt8.ofNat (r.length / 256) :: UInt8.ofNat (r.length % 256) :: r
def frame (r : List UInt8) : List UInt8 := headF r ++ sumB (sumOf (headF r))
theorem frame_length (r : List UInt8) : (frame r).length = r.length + 6 := by simp [frame, headF, sumB]

set_option maxRecDepth 100000 in
set_option maxHeartbeats 400000 in
theorem log_frame (r : List UInt8) (w : World) (hr : r.length ≤ 1100) :
    Calls Tryd.prog 50 #[.string (bs r)] w fun e w' => e = .returned (.tuple #[.string (bs (frame r)), .int .i64 0]) ∧ Below w.heap.size w w' := by
  have hc := conv_lit2
  have e1 := add_bs [UInt8.ofNat (r.length / 256), UInt8.ofNat (r.length % 256)] r (headF r) (bs r) rfl (by simp; omega) rfl
  have e2 := add_bs (headF r) (sumB (sumOf (headF r))) (frame r) (bs (sumB (sumOf (headF r)))) rfl (by simp [headF, sumB]; omega) rfl
  have hz := sumOf_lt (headF r)
  have C1 := Lib.hid (fun w' => sum_of (headF r) w' (by simp [headF]; omega))
  have C2 := Lib.hid (fun w' => sum_bytes (sumOf (headF r)) w' hz.1 hz.2)
  have i1 : ((r.length : Int) / 256).toNat = r.length / 256 := by omega
  have i2 : ((r.length : Int) % 256).toNat = r.length % 256 := by omega
  clear hz
  go_enter Tryd.func50, Tryd.ntmps50
  go_wp2_with fail
  refine (C1.out _).mono ?_
  rintro e w1 ⟨rfl, hb1⟩
  go_wp2_with fail
  refine (C2.out _).mono ?_
  rintro e w2 ⟨rfl, hb2⟩
  go_wp2_with fail
  go_ret2
  exact ⟨rfl, (((Below.refl _ _).alloc (Nat.le_refl _) _).trans (hb1.mono (by simp))).trans (hb2.mono (by have := hb1.size; simp at this; omega))⟩

set_option maxRecDepth 100000 in
theorem log_frame_long (r : List UInt8) (w : World) (hr : ¬ r.length ≤ 1100) :
    Calls Tryd.prog 50 #[.string (bs r)] w fun e w' => e = .returned (.tuple #[.string ByteArray.empty, .int .i64 2]) ∧ Below w.heap.size w w' := by
  go_enter Tryd.func50, Tryd.ntmps50
  go_wp2
  go_ret2
  exact ⟨rfl, Below.refl _ _⟩

/-- a log's struct -/
def IsLog (w : World) (g : Nat) (d : List UInt8) (safe : Nat) : Prop := w.heap[g]? = some (.cells #[.string (bs d), .int .i64 safe] 79 (0, 0))
theorem IsLog.lt {w : World} {g : Nat} {d : List UInt8} {safe : Nat} (h : IsLog w g d safe) : g < w.heap.size := blk_lt h
theorem IsLog.c0 {w : World} {g : Nat} {d : List UInt8} {safe : Nat} (h : IsLog w g d safe) : w.cell? ⟨g, 0, none⟩ = some (.string (bs d)) := (blk_cell h 0).trans rfl
theorem IsLog.c1 {w : World} {g : Nat} {d : List UInt8} {safe : Nat} (h : IsLog w g d safe) : w.cell? ⟨g, 1, none⟩ = some (.int .i64 safe) := (blk_cell h 1).trans rfl
theorem IsLog.fr {w : World} {g : Nat} {d : List UInt8} {safe : Nat} (h : IsLog w g d safe) (i : Nat) : w.frozen? ⟨g, i, none⟩ = false := blk_frozen h i
theorem IsLog.upd {w w' : World} {g : Nat} {d : List UInt8} {safe : Nat} {S : List Nat} (h : IsLog w g d safe) (hu : Upd S w w') (hg : g ∉ S) : IsLog w' g d safe := (hu.block g h.lt hg).trans h
theorem IsLog.below {w w' : World} {g : Nat} {d : List UInt8} {safe : Nat} (h : IsLog w g d safe) (hu : Below w.heap.size w w') : IsLog w' g d safe := h.upd (Upd.of (S := []) hu) (by simp)

set_option maxRecDepth 100000 in
theorem log_new (w : World) :
    Calls Tryd.prog 17 #[] w fun e w' => e = .returned (.pointer (some ⟨w.heap.size, 0, none⟩)) ∧ IsLog w' w.heap.size [] 0 ∧ Below w.heap.size w w' ∧ w'.heap.size = w.heap.size + 1 := by
  go_enter Tryd.func17, Tryd.ntmps17
  go_wp2
  go_ret
  exact ⟨rfl, heap_new _ _, (Below.refl _ _).alloc (Nat.le_refl _) _, by simp⟩

set_option maxRecDepth 100000 in
theorem log_sync (g : Nat) (d : List UInt8) (safe : Nat) (w : World) (h : IsLog w g d safe) (_hd : d.length ≤ 4000) :
    Calls Tryd.prog 49 #[.pointer (some ⟨g, 0, none⟩)] w fun e w' => e = .returned (.tuple #[]) ∧ IsLog w' g d d.length ∧ Upd [g] w w' := by
  have c0 := h.c0
  have c1 := h.c1
  have f1 := h.fr 1
  have H := Lib.hid h
  clear h
  go_enter Tryd.func49, Tryd.ntmps49
  go_wp2
  go_end0
  exact ⟨rfl, blk_set H.out 1 _, Upd.setCell _ _ _ _⟩

set_option maxRecDepth 100000 in
theorem log_size (g : Nat) (d : List UInt8) (safe : Nat) (w : World) (h : IsLog w g d safe) (_hd : d.length ≤ 4000) :
    Calls Tryd.prog 48 #[.pointer (some ⟨g, 0, none⟩)] w fun e w' => e = .returned (.tuple #[.int .i64 d.length, .int .i64 safe]) ∧ Below w.heap.size w w' := by
  have c0 := h.c0
  have c1 := h.c1
  clear h
  go_enter Tryd.func48, Tryd.ntmps48
  go_wp2
  go_quiet (fail)
  go_wp2
  go_ret2
  exact ⟨rfl, below_drewN (Below.refl _ _) _⟩

/-- what Append answers, and the disk behind it -/
def appE (d r : List UInt8) : Int := if 1100 < r.length then 2 else if 4000 < d.length + (r.length + 6) then 11 else 0
def appD (d r : List UInt8) : List UInt8 := if appE d r = 0 then d ++ frame r else d

set_option maxRecDepth 100000 in
set_option maxHeartbeats 400000 in
theorem log_append (g : Nat) (d r : List UInt8) (safe : Nat) (w : World) (h : IsLog w g d safe) (hd : d.length ≤ 4000) :
    Calls Tryd.prog 18 #[.pointer (some ⟨g, 0, none⟩), .string (bs r)] w fun e w' => e = .returned (.int .i64 (appE d r)) ∧ IsLog w' g (appD d r) safe ∧ Upd [g] w w' := by
  by_cases hr : r.length ≤ 1100
  · have hfl := frame_length r
    by_cases hf : d.length + (r.length + 6) ≤ 4000
    · have HE : Hid (appE d r = 0 ∧ appD d r = d ++ frame r) := by
        have : appE d r = 0 := by unfold appE; rw [if_neg (by omega), if_neg (by omega)]
        exact ⟨this, by unfold appD; rw [if_pos this]⟩
      have H := Lib.hid h
      have HF := Lib.hid hfl
      have hfl' : (frame r).length ≤ 1106 := by omega
      have hsum : d.length + (frame r).length ≤ 4000 := by omega
      clear h hfl
      go_enter Tryd.func18, Tryd.ntmps18
      go_wp2_with fail
      refine (log_frame r _ hr).mono ?_
      rintro e w1 ⟨rfl, hb1⟩
      have h1 := H.out.below hb1
      have c0 := h1.c0
      have f0 := h1.fr 0
      have H1 := Lib.hid h1
      clear h1
      go_wp2
      go_ret
      exact ⟨by rw [HE.out.1]; rfl, by rw [HE.out.2]; exact blk_set H1.out 0 _, (Upd.of hb1).trans (Upd.setCell _ _ _ _) (by simp)⟩
    · have HE : Hid (appE d r = 11 ∧ appD d r = d) := by
        have : appE d r = 11 := by unfold appE; rw [if_neg (by omega), if_pos (by omega)]
        exact ⟨this, by unfold appD; rw [if_neg (by omega)]⟩
      have H := Lib.hid h
      have HF := Lib.hid hfl
      have hfl' : (frame r).length ≤ 1106 := by omega
      have hsum : 4000 < d.length + (frame r).length := by omega
      clear h hfl
      go_enter Tryd.func18, Tryd.ntmps18
      go_wp2_with fail
      refine (log_frame r _ hr).mono ?_
      rintro e w1 ⟨rfl, hb1⟩
      have h1 := H.out.below hb1
      have c0 := h1.c0
      clear h1
      go_wp2
      go_ret
      exact ⟨by rw [HE.out.1]; rfl, by rw [HE.out.2]; exact H.out.below hb1, Upd.of hb1⟩
  · have HE : Hid (appE d r = 2 ∧ appD d r = d) := by
      have : appE d r = 2 := by unfold appE; rw [if_pos (by omega)]
      exact ⟨this, by unfold appD; rw [if_neg (by omega)]⟩
    have H := Lib.hid h
    clear h
    go_enter Tryd.func18, Tryd.ntmps18
    go_wp2_with fail
    refine (log_frame_long r _ hr).mono ?_
    rintro e w1 ⟨rfl, hb1⟩
    go_wp2
    go_ret
    exact ⟨by rw [HE.out.1]; rfl, by rw [HE.out.2]; exact H.out.below hb1, Upd.of hb1⟩

/-- how long the record is that begins at the front -/
def hd2 (s : List UInt8) : Nat := (s.getD 0 0).toNat * 256 + (s.getD 1 0).toNat
/-- does a whole frame begin at the front? -/
def okF (s : List UInt8) : Bool := decide (6 ≤ s.length) && decide (hd2 s ≤ 1100) && decide (hd2 s + 6 ≤ s.length) && sumR (s.take (hd2 s + 6))
def scan : Nat → List UInt8 → List (List UInt8)
  | 0, _ => []
  | f + 1, s => if okF s then (s.drop 2).take (hd2 s) :: scan f (s.drop (hd2 s + 6)) else []
def used (l : List (List UInt8)) : Nat := (l.map fun r => r.length + 6).sum

theorem used_snoc (l : List (List UInt8)) (r : List UInt8) : used (l ++ [r]) = used l + (r.length + 6) := by simp [used]

theorem scan_stop {f : Nat} {s : List UInt8} (h : okF s = false) : scan f s = [] := by cases f <;> simp [scan, h]
theorem owns_below' {w w' : World} {base e size n : Nat} {v : Value} {xs : List Value} (h : w.ownsRow base e size v n xs) (hb : Below w.heap.size w w') : w'.ownsRow base e size v n xs := by
  refine ⟨h.1, ?_⟩
  rcases h.2 with hn | ⟨g, cap, cur, rfl, hbg, hgg, rest⟩
  · exact .inl hn
  · exact .inr ⟨g, cap, cur, rfl, hbg, by rw [hb.block g (Array.getElem?_eq_some_iff.1 hgg).1]; exact hgg, rest⟩
theorem owns_shape' {w : World} {base e size n : Nat} {v : Value} {xs : List Value} (h : w.ownsRow base e size v n xs) : ∃ A c, v = .slice A n c := by
  rcases h.2 with ⟨rfl, rfl⟩ | ⟨g, cap, cur, rfl, _⟩
  · exact ⟨_, _, rfl⟩
  · exact ⟨_, _, rfl⟩

set_option maxRecDepth 100000 in
set_option maxHeartbeats 800000 in
theorem log_scan (s : List UInt8) (w : World) (hs : s.length ≤ 1000000) :
    Calls Tryd.prog 51 #[.string (bs s)] w fun e w' => ∃ A c, e = .returned (.tuple #[.slice A (scan s.length s).length c, .int .i64 (used (scan s.length s))]) ∧
      w'.ownsRow w.heap.size 9 1 (.slice A (scan s.length s).length c) (scan s.length s).length (strCells (scan s.length s)) ∧ Below w.heap.size w w' := by
  obtain ⟨i0, hi, hz0, hz1, hz2⟩ := info_parts info_str
  have HI := Lib.hid hi
  have HZ0 := Lib.hid hz0
  have HZ1 := Lib.hid hz1
  have HZ2 := Lib.hid hz2
  clear hi hz0 hz1 hz2
  generalize hN : s.length = N at *
  have HN := Lib.hid hN
  go_enter Tryd.func51, Tryd.ntmps51
  go_wp2
  go_loopw [4, 5] (fun ov av wr => ∃ (at_ : Nat) (acc : List (List UInt8)) (A : Option Addr) (c : Nat), av = .int .i64 at_ ∧ at_ ≤ N ∧ ov = .slice A acc.length c ∧ acc.length ≤ at_ ∧
      Hid (scan N s = acc ++ scan (N - acc.length) (s.drop at_)) ∧ Hid (at_ = used acc) ∧ Hid (wr.ownsRow w.heap.size 9 1 (.slice A acc.length c) acc.length (strCells acc)) ∧ Below w.heap.size w wr) (fun _ av _ => N - (intOf av).toNat)
  case atStart => exact ⟨0, [], none, 0, rfl, by omega, rfl, by simp, rfl, rfl, World.ownsRow_nil _ _ _ _, Below.refl _ _⟩
  case round =>
    obtain ⟨at_, acc, A, c, rfl, hat, rfl, hal, HS, HU, HO, hb⟩ := hrel
    have done : okF (s.drop at_) = false → scan N s = acc ∧ at_ = used (scan N s) := by
      intro h
      have := HS.out
      rw [scan_stop h, List.append_nil] at this
      rw [this]
      exact ⟨rfl, HU.out⟩
    by_cases h6 : at_ + 6 ≤ N
    · have b0 := bs_get s at_ (by simp; omega)
      have b1 := bs_get s (at_ + 1) (by simp; omega)
      have hm : hd2 (s.drop at_) = s[at_].toNat * 256 + s[at_ + 1].toNat := by
        unfold hd2
        simp [List.getD, List.getElem?_drop, show at_ < s.length by omega, show at_ + 1 < s.length by omega]
      have hx := s[at_].toNat_lt
      have hy := s[at_ + 1].toNat_lt
      have hok : okF (s.drop at_) = (decide (hd2 (s.drop at_) ≤ 1100) && decide (hd2 (s.drop at_) + 6 ≤ N - at_) && sumR ((s.drop at_).take (hd2 (s.drop at_) + 6))) := by
        unfold okF
        rw [List.length_drop, HN.out, decide_eq_true (show 6 ≤ N - at_ by omega), Bool.true_and]
      have hsc : okF (s.drop at_) = true → scan N s = (acc ++ [((s.drop at_).drop 2).take (hd2 (s.drop at_))]) ++ scan (N - (acc.length + 1)) (s.drop (at_ + (hd2 (s.drop at_) + 6))) := by
        intro h
        have := HS.out
        rw [show N - acc.length = (N - (acc.length + 1)) + 1 by omega, scan, if_pos h, List.drop_drop] at this
        rw [this]
        simp
      generalize hx0 : s[at_].toNat = x at *
      generalize hy0 : s[at_ + 1].toNat = y at *
      have b0' : ((bs s)[at_]'(by simp; omega)).toNat = x := by rw [b0]; exact hx0
      have b1' : ((bs s)[at_ + 1]'(by simp; omega)).toNat = y := by rw [b1]; exact hy0
      generalize hd2 (s.drop at_) = m at *
      clear b0 b1 hx0 hy0
      have HM := Lib.hid hm
      have HK := Lib.hid hok
      have HC := Lib.hid hsc
      have HD := Lib.hid done
      have g1 : (at_ : Int) < (N : Int) := by omega
      have g2 : (at_ : Int) + 1 < (N : Int) := by omega
      have g3 : (0 : Int) ≤ (at_ : Int) + 1 := by omega
      have g4 : ((at_ : Int) + 1).toNat = at_ + 1 := by omega
      have g5 : at_ < N := by omega
      have g6 : at_ + 1 < N := by omega
      have hm1 : (x : Int) * 256 + (y : Int) = (m : Int) := by omega
      clear hm hok hsc done
      go_wp2
      go_quiet (fail)
      have HB := Lib.hid (below_drewN hb nq)
      have HO1 : Hid ((wr.drewN nq).ownsRow w.heap.size 9 1 (.slice A acc.length c) acc.length (strCells acc)) := HO.out
      generalize wr.drewN nq = W at *
      clear hm1 g1 g2 g3 g4 g5 g6 b0' b1' hx hy
      by_cases h1 : m ≤ 1100
      · by_cases h2 : at_ + (m + 6) ≤ N
        · have k1 : ((at_ : Int) + (m : Int) + 6).toNat = at_ + m + 6 := by omega
          have k2 : at_ + m + 6 - at_ = m + 6 := by omega
          have CR := Lib.hid (fun W' => sum_right ((s.drop at_).take (m + 6)) W' (by simp; omega))
          by_cases h3 : sumR ((s.drop at_).take (m + 6)) = true
          · have HSC := Lib.hid (HC.out (by rw [HK.out, h3, decide_eq_true h1, decide_eq_true (show m + 6 ≤ N - at_ by omega)]; rfl))
            have H3 := Lib.hid h3
            clear h3
            go_wp2_with fail
            go_fit (CR.out _)
            rw [H3.out]
            rintro e w1 ⟨rfl, hb1⟩
            have k3 : ((at_ : Int) + 2).toNat = at_ + 2 := by omega
            have k4 : ((at_ : Int) + 2 + (m : Int)).toNat = at_ + 2 + m := by omega
            have k5 : at_ + 2 + m - (at_ + 2) = m := by omega
            have hown1 := owns_below' HO1.out hb1
            have hBW : w.heap.size ≤ w1.heap.size := Nat.le_trans HB.out.size hb1.size
            go_wp2_with (at_builtin; refine wpList_append_own _ rfl _ _ 33 rfl w.heap.size 9 i0 _ 1 16 Tryd.underlying33 HI.out HZ0.out HZ1.out HZ2.out rfl (by decide) _ _ _ rfl (hown1.alloc _) ⟨w1.heap.size, 0, none⟩ 1 1 [.string (bs (List.take m (List.drop (at_ + 2) s)))] rfl rfl ?c1 ?c2 ?c3 ?c4 ?c5 ?_)
            case c1 => exact cell_one_new' _ _ _
            case c2 => intro u hu; simp at hu; subst hu; rfl
            case c3 => unfold maxLen; omega
            case c4 => omega
            case c5 => simp; omega
            intro v' w4 hown4 hgrow _
            obtain ⟨A', c', rfl⟩ := owns_shape' hown4
            have HO4 := Lib.hid hown4
            have hbf : Below w.heap.size w w4 := ((HB.out.trans (hb1.mono HB.out.size)).alloc (by omega) _).grown hgrow (by simp; omega) (fun k hk => (HO1.out.lt k hk).1)
            clear hown4 hown1
            go_wp2
            go_roundw
            case rel =>
              refine ⟨at_ + (m + 6), acc ++ [List.take m (List.drop (at_ + 2) s)], A', c', by go_num, by omega, by simp, by simp; omega, ?_, ?_, ?_, hbf⟩
              · unfold Hid; rw [HSC.out]; simp [List.drop_drop]
              · unfold Hid; rw [used_snoc, ← HU.out]; simp only [List.length_take, List.length_drop]; omega
              · have := HO4.out
                simpa [strCells, Hid] using this
            case measure => simp [intOf]; omega
          · have h3' : sumR ((s.drop at_).take (m + 6)) = false := by simpa using h3
            have E := Lib.hid (HD.out (by rw [HK.out, h3']; simp))
            have H3 := Lib.hid h3'
            clear h3 h3'
            go_wp2_with fail
            go_fit (CR.out _)
            rw [H3.out]
            rintro e w1 ⟨rfl, hb1⟩
            go_wp2
            go_ret2
            obtain ⟨e1, e2⟩ := E.out
            obtain rfl := e1
            refine ⟨A, c, ?_, owns_below' HO1.out hb1, HB.out.trans (hb1.mono HB.out.size)⟩
            rw [← e2]
            rfl
        · have E := Lib.hid (HD.out (by rw [HK.out, decide_eq_false (show ¬ m + 6 ≤ N - at_ by omega)]; simp))
          go_wp2
          go_ret2
          obtain ⟨e1, e2⟩ := E.out
          obtain rfl := e1
          refine ⟨A, c, ?_, HO1.out, HB.out⟩
          rw [← e2]
          rfl
      · have hno := HD.out (by rw [HK.out, decide_eq_false h1]; rfl)
        obtain ⟨e1, e2⟩ := hno
        have E1 := Lib.hid e1
        have E2 := Lib.hid e2
        clear e1 e2
        go_wp2
        go_ret2
        obtain rfl := E1.out
        refine ⟨A, c, ?_, HO1.out, HB.out⟩
        rw [← E2.out]
        rfl
    · have E := Lib.hid (done (by unfold okF; rw [decide_eq_false (by rw [List.length_drop, HN.out]; omega)]; rfl))
      clear done
      go_wp2
      go_ret2
      obtain ⟨e1, e2⟩ := E.out
      obtain rfl := e1
      refine ⟨A, c, ?_, HO.out, hb⟩
      rw [← e2]
      rfl

set_option maxRecDepth 100000 in
set_option maxHeartbeats 400000 in
theorem log_all (g : Nat) (d : List UInt8) (safe : Nat) (w : World) (h : IsLog w g d safe) (hd : d.length ≤ 4000) :
    Calls Tryd.prog 19 #[.pointer (some ⟨g, 0, none⟩)] w fun e w' => ∃ A c, e = .returned (.slice A (scan d.length d).length c) ∧
      w'.ownsRow w.heap.size 9 1 (.slice A (scan d.length d).length c) (scan d.length d).length (strCells (scan d.length d)) ∧ Below w.heap.size w w' := by
  have c0 := h.c0
  clear h
  go_enter Tryd.func19, Tryd.ntmps19
  go_wp2_with fail
  refine (log_scan d _ (by omega)).mono ?_
  rintro e w1 ⟨A, c, rfl, ho, hb⟩
  have HO := Lib.hid ho
  clear ho
  go_wp2
  go_ret
  exact ⟨A, c, rfl, HO.out, hb⟩

/-- a crash keeps the safe bytes and so many more: what it answers, and the disk behind it -/
def crE (d : List UInt8) (safe : Nat) (keep : Int) : Int := if keep < 0 ∨ (d.length : Int) - safe < keep then 1 else 0
def crN (d : List UInt8) (safe : Nat) (keep : Int) : Nat := used (scan (safe + keep.toNat) (d.take (safe + keep.toNat)))

theorem scan_used_le : ∀ (f : Nat) (s : List UInt8), used (scan f s) ≤ s.length
  | 0, s => by simp [scan, used]
  | f + 1, s => by
    rw [scan]
    by_cases h : okF s = true
    · rw [if_pos h]
      have ih := scan_used_le f (s.drop (hd2 s + 6))
      have h2 : hd2 s + 6 ≤ s.length := by
        unfold okF at h
        simp at h
        omega
      have e : used ((s.drop 2).take (hd2 s) :: scan f (s.drop (hd2 s + 6))) = ((s.drop 2).take (hd2 s)).length + 6 + used (scan f (s.drop (hd2 s + 6))) := by simp [used]
      rw [e]
      simp at ih ⊢
      omega
    · rw [if_neg h]; simp [used]

set_option maxRecDepth 100000 in
set_option maxHeartbeats 400000 in
theorem log_crash_no (g : Nat) (d : List UInt8) (safe : Nat) (keep : Int) (w : World) (h : IsLog w g d safe) (hd : d.length ≤ 4000) (hs : safe ≤ d.length) (hk : crE d safe keep ≠ 0) :
    Calls Tryd.prog 65 #[.pointer (some ⟨g, 0, none⟩), .int .i64 keep] w fun e w' => e = .returned (.int .i64 1) ∧ Below w.heap.size w w' := by
  have c0 := h.c0
  have c1 := h.c1
  have hk' : keep < 0 ∨ (d.length : Int) - safe < keep := by
    unfold crE at hk
    by_cases h : keep < 0 ∨ (d.length : Int) - safe < keep
    · exact h
    · rw [if_neg h] at hk; exact absurd rfl hk
  clear h hk
  by_cases h0 : keep < 0
  · have k0 : decide (keep < 0) = true := by simpa using h0
    go_enter Tryd.func65, Tryd.ntmps65
    go_wp2_with fail
    go_quiet (fail)
    go_wp2
    go_ret
    exact ⟨rfl, below_drewN (Below.refl _ _) _⟩
  · have k0 : decide (keep < 0) = false := by simp; omega
    have k1 : decide ((d.length : Int) - (safe : Int) < keep) = true := by simp; omega
    clear hk'
    go_enter Tryd.func65, Tryd.ntmps65
    go_wp2_with fail
    go_quiet (fail)
    go_wp2
    go_ret
    exact ⟨rfl, below_drewN (Below.refl _ _) _⟩

set_option maxRecDepth 100000 in
set_option maxHeartbeats 400000 in
theorem log_crash (g : Nat) (d : List UInt8) (safe : Nat) (keep : Nat) (w : World) (h : IsLog w g d safe) (hd : d.length ≤ 4000) (hs : safe ≤ d.length) (hk : safe + keep ≤ d.length) :
    Calls Tryd.prog 65 #[.pointer (some ⟨g, 0, none⟩), .int .i64 keep] w fun e w' => e = .returned (.int .i64 0) ∧ IsLog w' g (d.take (crN d safe keep)) (crN d safe keep) ∧ Upd [g] w w' := by
  have c0 := h.c0
  have c1 := h.c1
  have HC : Hid (crN d safe keep = used (scan (d.take (safe + keep)).length (d.take (safe + keep))) ∧ crN d safe keep ≤ safe + keep) := by
    have e : (d.take (safe + keep)).length = safe + keep := by simp; omega
    refine ⟨by rw [e]; simp [crN], ?_⟩
    have := scan_used_le (safe + keep) (d.take (safe + keep))
    rw [e] at this
    simpa [crN] using this
  have H := Lib.hid h
  clear h
  go_enter Tryd.func65, Tryd.ntmps65
  have k0 : decide ((keep : Int) < 0) = false := by simp
  have k1 : decide ((d.length : Int) - (safe : Int) < (keep : Int)) = false := by simp; omega
  have k2 : (safe : Int) + (keep : Int) ≤ (d.length : Int) := by omega
  have k3 : (0 : Int) ≤ (safe : Int) + (keep : Int) := by omega
  have k4 : ((safe : Int) + (keep : Int)).toNat = safe + keep := by omega
  have k5 : ((d.length : Int) - (safe : Int) < (keep : Int)) = False := by simp; omega
  go_wp2_with fail
  go_quiet (fail)
  go_wp2_with fail
  go_quiet (fail)
  go_wp2_with fail
  refine (log_scan (d.take (safe + keep)) _ (by simp; omega)).mono ?_
  rw [← HC.out.1]
  generalize scan (d.take (safe + keep)).length (d.take (safe + keep)) = L
  rintro e w1 ⟨A, c, rfl, ho, hb⟩
  have hb1 : Below w.heap.size w w1 := (below_drewN (Below.refl _ _) _).trans hb
  have h1 := H.out.below hb1
  have c0' := h1.c0
  have c1' := h1.c1
  have f0' := h1.fr 0
  have f1' := h1.fr 1
  have hle := HC.out.2
  have H1 := Lib.hid h1
  have HB := Lib.hid hb1
  generalize hn : crN d safe keep = n at *
  have HN := Lib.hid hn
  clear hn
  have k6 : (0 : Int) ≤ (n : Int) := by omega
  have k7 : (n : Int) ≤ ((safe + keep : Nat) : Int) := by omega
  have k8 : min (safe + keep) d.length = safe + keep := by omega
  clear c0 c1 k0 k1 k2 k3 k4 k5 ho hb h1 hb1
  have HLE := Lib.hid hle
  go_wp2
  go_ret
  rw [List.take_take, Nat.min_eq_left HLE.out, HN.out]
  exact ⟨rfl, blk_set (blk_set H1.out 0 _) 1 _, ((Upd.of HB.out).trans (Upd.setCell _ _ _ _) (by simp)).trans (Upd.setCell _ _ _ _) (by simp)⟩
end Go.Proofs.YtclebkgfogienaaDoor
