/- What script.Check, script.Write, script.number and script.Read answer where the edits are small, and where the text is one that was written. -/
import Derived.Test.YtclebkgfogienaaDoorScriptP
import Derived.Test.YtclebkgfogienaaDoorShelf
import Derived.Lib.AppendIntMem
namespace Go.Proofs.YtclebkgfogienaaDoor
set_option linter.unusedSimpArgs false
set_option linter.unusedVariables false
open Go.RowKit

/-- the library's table of powers of ten, in whatever world agrees with this one below block number B -/
def Tab (B : Nat) (w : World) : Prop := Lib.TabBelow Tryd.prog B w "internal/strconv.uint64pow10" .u64 Lib.pow10Tab
theorem Tab.on {B : Nat} {w w1 : World} (h : Tab B w) (hb : Below B w w1) : Tab B w1 := Lib.TabBelow.on h hb
theorem Tab.to {B : Nat} {w w1 : World} (h : Tab B w) (hB : B ≤ w.heap.size) (hb : Below w.heap.size w w1) : Tab B w1 := h.on (hb.mono hB)

theorem below_grow (w : World) (k : Nat) (os : Array Obj) : Below w.heap.size w (Sort.grow (w.drewN k) os) := by
  refine ⟨rfl, rfl, rfl, ?_, fun j hj => ?_⟩
  · show w.heap.size ≤ (w.heap ++ os).size
    simp
  · show (w.heap ++ os)[j]? = _
    rw [Array.getElem?_append_left hj]

theorem itoa (B : Nat) (n : Nat) (hn : n ≤ 1000000) (w : World) (hT : Tab B w) :
    Calls Tryd.prog 97 #[.int .i64 n] w fun e w' => e = .returned (.string (bs (dig n))) ∧ Below w.heap.size w w' := by
  refine (Tryd.strconv_Itoa (n : Int) (by omega) (by omega) w hT.here).mono ?_
  rintro e w' ⟨rfl, k, os, rfl⟩
  exact ⟨by rw [Lib.itoa_nonneg]; rfl, below_grow w k os⟩

set_option maxRecDepth 100000 in
set_option maxHeartbeats 400000 in
theorem script_check (v : Value) (l : List Ed) (w : World) (hv : EditsAt w v l) (hs : Small l) (h20 : l.length ≤ 20) :
    Calls Tryd.prog 96 #[v] w fun e w' => e = .returned (.int .i64 0) ∧ Below w.heap.size w w' := by
  obtain ⟨A, c, rfl, hlc, hc⟩ := hv
  have HS := Lib.hid hs
  clear hs
  go_enter Tryd.func96, Tryd.ntmps96
  go_wp2
  go_loopw [10] (fun i wr => ∃ (k : Nat), k ≤ l.length ∧ i = .int .i64 k ∧ Below w.heap.size w wr) (fun i _ => l.length - (intOf i).toNat)
  case atStart => exact ⟨0, by omega, rfl, Below.refl _ _⟩
  case round =>
    obtain ⟨k, hk, rfl, hb⟩ := hrel
    by_cases hlt : k < l.length
    · obtain ⟨b, off, rfl, hbw, hcell⟩ := hc (by intro h; simp [h] at hlt)
      obtain ⟨c0, c1, c2⟩ := hcell k hlt
      have c0' := (hb.cell (p := ⟨b, off + k * 3, none⟩) hbw).trans c0
      have c1' := (hb.cell (p := ⟨b, off + k * 3 + 1, none⟩) hbw).trans c1
      have c2' := (hb.cell (p := ⟨b, off + k * 3 + 2, none⟩) hbw).trans c2
      have hx := HS.out l[k] (List.getElem_mem hlt)
      clear c0 c1 c2 hcell hc
      generalize l[k] = x at *
      obtain ⟨p, d, t⟩ := x
      obtain ⟨x1, x2, x3, x4, x5⟩ := hx
      simp only at x1 x2 x3 x4 x5
      go_wp2
      go_roundw
      case rel => exact ⟨k + 1, by omega, by go_num, hb.alloc hb.size _⟩
      case measure => simp [intOf]; omega
    · clear hc
      go_wp2
      go_ret
      exact ⟨rfl, hb⟩

/-- the cells of a box that holds an edit, and what stands since the call began -/
def Box (w0 : World) (g : Nat) (p d : Int) (t : List UInt8) (B : Nat) (w : World) : Prop :=
  w.cell? ⟨g, 0, none⟩ = some (.int .i64 p) ∧ w.cell? ⟨g, 1, none⟩ = some (.int .i64 d) ∧ w.cell? ⟨g, 2, none⟩ = some (.string (bs t)) ∧ g < w.heap.size ∧ Below w0.heap.size w0 w ∧ Tab B w

theorem itoa_box (w0 : World) (g : Nat) (p d : Int) (t : List UInt8) (B : Nat) (hB : B ≤ w0.heap.size) (n : Nat) (hn : n ≤ 1000000) (w : World) (h : Box w0 g p d t B w) :
    Calls Tryd.prog 97 #[.int .i64 n] w fun e w' => e = .returned (.string (bs (dig n))) ∧ Box w0 g p d t B w' :=
  (itoa B n hn w h.2.2.2.2.2).mono fun e w' ⟨he, hb⟩ => ⟨he, by
    obtain ⟨h1, h2, h3, h4, h5, h6⟩ := h
    exact ⟨(hb.cell (p := ⟨g, 0, none⟩) h4).trans h1, (hb.cell (p := ⟨g, 1, none⟩) h4).trans h2, (hb.cell (p := ⟨g, 2, none⟩) h4).trans h3, Nat.lt_of_lt_of_le h4 hb.size,
      h5.trans (hb.mono h5.size), h6.on (hb.mono (Nat.le_trans hB h5.size))⟩⟩

set_option maxRecDepth 100000 in
set_option maxHeartbeats 800000 in
theorem script_write (B : Nat) (v : Value) (l : List Ed) (w : World) (hB : B ≤ w.heap.size) (hT : Tab B w) (hv : EditsAt w v l) (hs : Small l) (h20 : l.length ≤ 20) :
    Calls Tryd.prog 78 #[v] w fun e w' => e = .returned (.tuple #[.string (bs (wrL l)), .int .i64 0]) ∧ Below w.heap.size w w' := by
  have hv' := hv
  obtain ⟨A, c, rfl, hlc, hc⟩ := hv
  have HS := Lib.hid hs
  have HT := Lib.hid hT
  clear hs hT
  go_enter Tryd.func78, Tryd.ntmps78
  go_wp2_with (go_at_call 96; refine (script_check _ l _ hv' HS.out h20).mono ?_; rintro e w1 ⟨rfl, hb1⟩)
  go_loopw [5, 15] (fun o i wr => ∃ (k : Nat) (out : List UInt8), k ≤ l.length ∧ i = .int .i64 k ∧ o = .string (bs out) ∧ out.length ≤ 100 * k ∧ Below w.heap.size w wr ∧ Hid (wrL l = out ++ wrL (l.drop k))) (fun _ i _ => l.length - (intOf i).toNat)
  case atStart => exact ⟨0, [], by omega, rfl, by rw [bs_emp], by simp, hb1, rfl⟩
  case round =>
    obtain ⟨k, out, hk, rfl, rfl, hol, hb, HD⟩ := hrel
    clear hb1
    by_cases hlt : k < l.length
    · obtain ⟨b, off, rfl, hbw, hcell⟩ := hc (by intro h; simp [h] at hlt)
      obtain ⟨c0, c1, c2⟩ := hcell k hlt
      have c0' := (hb.cell (p := ⟨b, off + k * 3, none⟩) hbw).trans c0
      have c1' := (hb.cell (p := ⟨b, off + k * 3 + 1, none⟩) hbw).trans c1
      have c2' := (hb.cell (p := ⟨b, off + k * 3 + 2, none⟩) hbw).trans c2
      have hx := HS.out l[k] (List.getElem_mem hlt)
      have hwl := wrE_length l[k] hx
      have hD := HD.out
      rw [List.drop_eq_getElem_cons hlt] at hD
      clear c0 c1 c2 hcell hc HD
      generalize l[k] = x at *
      obtain ⟨p, d, t⟩ := x
      obtain ⟨x1, x2, x3, x4, x5⟩ := hx
      simp only at x1 x2 x3 x4 x5
      obtain ⟨p', rfl⟩ : ∃ p' : Nat, p = (p' : Int) := ⟨p.toNat, by omega⟩
      obtain ⟨d', rfl⟩ : ∃ d' : Nat, d = (d' : Int) := ⟨d.toNat, by omega⟩
      have HD : Hid (wrL l = out ++ (wrE ⟨p', d', t⟩ ++ wrL (l.drop (k + 1)))) := hD
      have HW := Lib.hid hwl
      clear hD hwl
      have l1 : (dig p').length ≤ 3 := (digits_dec p' (by omega)).2.2.2.2
      have l2 : (dig d').length ≤ 3 := (digits_dec d' (by omega)).2.2.2.2
      have l3 : (dig t.length).length ≤ 3 := (digits_dec t.length (by omega)).2.2.2.2
      have C := Lib.hid (fun n hn W hb => itoa_box w wr.heap.size p' d' t B hB n hn W hb)
      go_wp2
      have hbox : Box w wr.heap.size p' d' t B ((wr.alloc (.cells #[.int .i64 p', .int .i64 d', .string (bs t)] 89)).drew) := by
        refine ⟨by simp, by simp, by simp, by simp, (hb.alloc hb.size _).drew, HT.out.on (((hb.alloc hb.size _).drew).mono hB)⟩
      have e1 := add_bs (dig p') [32] _ ⟨#[32]⟩ rfl (by simp; omega) rfl
      have e2 := add_bs (dig p' ++ [32]) (dig d') (dig p' ++ 32 :: dig d') (bs (dig d')) rfl (by simp; omega) (by simp)
      have e3 := add_bs (dig p' ++ 32 :: dig d') [32] (dig p' ++ 32 :: (dig d' ++ [32])) ⟨#[32]⟩ rfl (by simp; omega) (by simp)
      have e4 := add_bs (dig p' ++ 32 :: (dig d' ++ [32])) (dig t.length) (dig p' ++ 32 :: (dig d' ++ 32 :: dig t.length)) (bs (dig t.length)) rfl (by simp; omega) (by simp)
      have e5 := add_bs (dig p' ++ 32 :: (dig d' ++ 32 :: dig t.length)) [58] (dig p' ++ 32 :: (dig d' ++ 32 :: (dig t.length ++ [58]))) ⟨#[58]⟩ rfl (by simp; omega) (by simp)
      have e6 := add_bs (dig p' ++ 32 :: (dig d' ++ 32 :: (dig t.length ++ [58]))) t (dig p' ++ 32 :: (dig d' ++ 32 :: (dig t.length ++ 58 :: t))) (bs t) rfl (by simp; omega) (by simp)
      have e7 := add_bs (dig p' ++ 32 :: (dig d' ++ 32 :: (dig t.length ++ 58 :: t))) [59] (dig p' ++ 32 :: (dig d' ++ 32 :: (dig t.length ++ 58 :: (t ++ [59])))) ⟨#[59]⟩ rfl (by simp; omega) (by simp)
      have e8 := add_bs out (dig p' ++ 32 :: (dig d' ++ 32 :: (dig t.length ++ 58 :: (t ++ [59])))) _ (bs (dig p' ++ 32 :: (dig d' ++ 32 :: (dig t.length ++ 58 :: (t ++ [59]))))) rfl (by simp; omega) rfl
      clear l1 l2 l3
      go_region_held3 (fun W : World => W.cell? ⟨wr.heap.size, 0, none⟩ = some (.int .i64 p') ∧ W.cell? ⟨wr.heap.size, 1, none⟩ = some (.int .i64 d') ∧ W.cell? ⟨wr.heap.size, 2, none⟩ = some (.string (bs t)) ∧ wr.heap.size < W.heap.size ∧ Below w.heap.size w W ∧ Tab B W) (first | exact hbox | assumption) (first | (go_at_call 97; go_must (go_fit (C.out _ (by omega) _ (by assumption)); rintro e w1 ⟨rfl, hb1⟩)))
      go_wp2
      go_roundw
      case rel =>
        refine ⟨k + 1, _, by omega, by go_num, rfl, ?_, hb1.2.2.2.2.1, ?_⟩
        · have := HW.out
          simp [wrE] at this ⊢
          omega
        · unfold Hid; rw [HD.out]; simp [wrE]
      case measure => simp [intOf]; omega
    · clear hc
      go_wp2
      go_ret2
      refine ⟨ret_se ?_ rfl, hb⟩
      rw [HD.out, List.drop_of_length_le (l := l) (by omega)]
      simp [wrL]

set_option maxRecDepth 100000 in
set_option maxHeartbeats 800000 in
theorem script_number (e : UInt8) (most : Nat) (s : List UInt8) (n : Nat) (r : List UInt8) (w : World) (h : Num e most s n r) (he : e.toNat < 48 ∨ 57 < e.toNat) (hm : most ≤ 200) (hs : s.length ≤ 1000000) :
    Calls Tryd.prog 98 #[.string (bs s), .int .u8 e.toNat, .int .i64 most] w fun e w' => e = .returned (.tuple #[.int .i64 n, .string (bs r), .bool true]) ∧ Below w.heap.size w w' := by
  obtain ⟨ds, hsd, hne, hD, hv, hnm, hz⟩ := h
  have hlen : ds.length < s.length := by rw [hsd]; simp
  have HV := Lib.hid hv
  have HS := Lib.hid hsd
  have HD := Lib.hid hD
  have HZ := Lib.hid hz
  have hd0 : 0 < ds.length := List.length_pos_iff.2 hne
  clear hv hsd hD hz hne
  go_enter Tryd.func98, Tryd.ntmps98
  go_wp2
  go_loopw [9, 14] (fun x i wr => ∃ k : Nat, k ≤ ds.length ∧ i = .int .i64 k ∧ x = .int .i64 (valD (ds.take k) : Nat) ∧ Below w.heap.size w wr) (fun _ i _ => s.length - (intOf i).toNat)
  case atStart => exact ⟨0, by omega, rfl, rfl, Below.refl _ _⟩
  case round =>
    obtain ⟨k, hk, rfl, rfl, hb⟩ := hrel
    have hks : k < s.length := by omega
    have hle := valD_take_le ds k
    rw [HV.out] at hle
    have hget := bs_get s k (by simpa using hks)
    by_cases hlt : k < ds.length
    · have hc : s[k] = ds[k] := by
        have := HS.out
        subst this
        rw [List.getElem_append_left hlt]
      obtain ⟨d1, d2⟩ := HD.out ds[k] (List.getElem_mem hlt)
      have hle' := valD_take_le ds (k + 1)
      rw [HV.out, List.take_succ_eq_append_getElem hlt, valD_append] at hle'
      have HT : Hid (valD (ds.take (k + 1)) = 10 * valD (ds.take k) + (ds[k].toNat - 48)) := by
        unfold Hid; rw [List.take_succ_eq_append_getElem hlt, valD_append]
      rw [hc] at hget
      generalize ds[k] = c at *
      generalize valD (ds.take k) = m at *
      have hne : (((c.toNat : Nat) : Int) == (e.toNat : Int)) = false := by simp; omega
      go_wp2
      go_roundw
      case rel => exact ⟨k + 1, by omega, by go_num, by rw [HT.out]; congr 1; omega, hb⟩
      case measure => simp [intOf]; omega
    · obtain rfl : k = ds.length := by omega
      have hc : s[ds.length] = e := by
        have := HS.out
        subst this
        simp
      have hc0 : s[0] = ds[0] := by
        have := HS.out
        subst this
        rw [List.getElem_append_left hd0]
      have HR : Hid (s.drop (ds.length + 1) = r) := by
        have := HS.out
        subst this
        unfold Hid
        rw [List.drop_append, List.drop_of_length_le (by omega), show ds.length + 1 - ds.length = 1 by omega]
        rfl
      have hval : Hid (valD (ds.take ds.length) = n) := by unfold Hid; rw [List.take_length]; exact HV.out
      have hget0 := bs_get s 0 (by simp; omega)
      rw [hc] at hget
      rw [hc0] at hget0
      have hz := HZ.out
      rw [List.head?_eq_getElem?, List.getElem?_eq_getElem hd0] at hz
      generalize ds[0] = c0 at *
      generalize valD (ds.take ds.length) = m at *
      obtain rfl : m = n := hval.out
      clear hc hc0 hle hval
      have g0 : decide ((0 : Int) < (ds.length : Int)) = true := by simp; omega
      have g1 : (0 : Int) < (ds.length : Int) := by omega
      have g2 : (0 : Int) ≤ (ds.length : Int) + 1 := by omega
      have g3 : (ds.length : Int) + 1 ≤ (s.length : Int) := by omega
      have g4 : ((ds.length : Int) + 1).toNat = ds.length + 1 := by omega
      have g5 : ds.length + 1 ≤ s.length := by omega
      by_cases h48 : c0 = 48
      · have hl1 : ds.length = 1 := by
          rcases hz with h | h
          · exact absurd (by rw [h48]) h
          · exact h
        have HL := Lib.hid hl1
        subst h48
        have g6 : ((ds.length : Int) == 1) = true := by simp; omega
        clear hl1 hz
        go_wp2
        go_quiet (fail)
        go_wp2
        go_ret3
        obtain rfl := HR.out
        exact ⟨rfl, below_drewN hb _⟩
      · have g6 : (((c0.toNat : Nat) : Int) != 48) = true := by
          simp
          intro h
          exact h48 (UInt8.toNat_inj.1 (show c0.toNat = 48 by omega))
        clear hz
        go_wp2
        go_quiet (fail)
        go_wp2
        go_ret3
        obtain rfl := HR.out
        exact ⟨rfl, below_drewN hb _⟩

def edCells (l : List Ed) : List Value := l.flatMap fun x => [.int .i64 x.pos, .int .i64 x.del, .string (bs x.ins)]
theorem edCells_length (l : List Ed) : (edCells l).length = l.length * 3 := by
  induction l with
  | nil => rfl
  | cons x l ih => simp [edCells] at *; omega
theorem edCells_at : ∀ (l : List Ed) (i : Nat) (h : i < l.length), (edCells l)[i * 3]? = some (.int .i64 l[i].pos) ∧ (edCells l)[i * 3 + 1]? = some (.int .i64 l[i].del) ∧ (edCells l)[i * 3 + 2]? = some (.string (bs l[i].ins))
  | x :: l, 0, _ => by simp [edCells]
  | x :: l, i + 1, h => by
    have := edCells_at l i (by simpa using h)
    have e : edCells (x :: l) = [.int .i64 x.pos, .int .i64 x.del, .string (bs x.ins)] ++ edCells l := rfl
    rw [e]
    simp only [List.getElem_cons_succ]
    have sh : ∀ j, ([Value.int .i64 x.pos, .int .i64 x.del, .string (bs x.ins)] ++ edCells l)[3 + j]? = (edCells l)[j]? := by
      intro j; rw [List.getElem?_append_right (by simp)]; simp
    rw [show (i + 1) * 3 = 3 + i * 3 by omega, show 3 + i * 3 + 1 = 3 + (i * 3 + 1) by omega, show 3 + i * 3 + 2 = 3 + (i * 3 + 2) by omega, sh, sh, sh]
    exact this
/-- a row of edits that the call owns reads as these edits -/
theorem editsAt_of_owns {w : World} {base : Nat} {v : Value} {l : List Ed} (h : w.ownsRow base 89 3 v l.length (edCells l)) : EditsAt w v l := by
  obtain ⟨hl, h2⟩ := h
  rcases h2 with ⟨rfl, h0⟩ | ⟨g, cap, cur, rfl, hb, hg, hn, hc, hs, ht⟩
  · have : l = [] := List.eq_nil_of_length_eq_zero h0
    subst this
    exact ⟨none, 0, rfl, by simp, by simp⟩
  · refine ⟨_, _, rfl, hn, fun _ => ⟨g, 0, rfl, (Array.getElem?_eq_some_iff.1 hg).1, fun i hi => ?_⟩⟩
    obtain ⟨a1, a2, a3⟩ := edCells_at l i hi
    have key : ∀ j u, j < l.length * 3 → (edCells l)[j]? = some u → w.cell? ⟨g, 0 + j, none⟩ = some u := by
      intro j u hj hu
      rw [cell_of_row w g (0 + j) cur _ (0, 0) hg]
      rw [← ht, List.getElem?_take, if_pos hj] at hu
      simpa using hu
    rw [show 0 + i * 3 + 1 = 0 + (i * 3 + 1) by omega, show 0 + i * 3 + 2 = 0 + (i * 3 + 2) by omega]
    exact ⟨key _ _ (by omega) a1, key _ _ (by omega) a2, key _ _ (by omega) a3⟩

theorem info_ed : (Tryd.prog.info? 89).map (fun i => (i.zero, i.size, i.bytes)) = some (some (.agg #[.int .i64 0, .int .i64 0, .string ⟨#[]⟩]), 3, 32) := by kernel_rfl
def strLen : Value → Nat | .string s => s.size | _ => 0

theorem cell_three_new (w : World) (x y z : Value) (t : TypeId) : ∀ j u, [x, y, z][j]? = some u → (w.alloc (.cells #[x, y, z] t)).cell? ((⟨w.heap.size, 0, none⟩ : Addr).add j) = some u := by
  intro j u hj
  match j, hj with
  | 0, hj => simp at hj; subst hj; simp [Addr.add]
  | 1, hj => simp at hj; subst hj; simp [Addr.add]
  | 2, hj => simp at hj; subst hj; simp [Addr.add]
  | (j + 3), hj => simp at hj

theorem owns_shape {w : World} {base e size n : Nat} {v : Value} {xs : List Value} (h : w.ownsRow base e size v n xs) : ∃ A c, v = .slice A n c := by
  rcases h.2 with ⟨rfl, rfl⟩ | ⟨g, cap, cur, rfl, _⟩
  · exact ⟨_, _, rfl⟩
  · exact ⟨_, _, rfl⟩
theorem owns_below {w w' : World} {base e size n : Nat} {v : Value} {xs : List Value} (h : w.ownsRow base e size v n xs) (hb : Below w.heap.size w w') : w'.ownsRow base e size v n xs := by
  refine ⟨h.1, ?_⟩
  rcases h.2 with hn | ⟨g, cap, cur, rfl, hbg, hgg, rest⟩
  · exact .inl hn
  · exact .inr ⟨g, cap, cur, rfl, hbg, by rw [hb.block g (Array.getElem?_eq_some_iff.1 hgg).1]; exact hgg, rest⟩
theorem oneCell3 (x y : Int) (t : ByteArray) : ∀ u ∈ [Value.int .i64 x, .int .i64 y, .string t], u.oneCell' = true := by
  intro u hu
  simp at hu
  rcases hu with rfl | rfl | rfl <;> rfl
theorem num_le {e : UInt8} {most : Nat} {s : List UInt8} {n : Nat} {r : List UInt8} (h : Num e most s n r) : n ≤ most ∧ r.length < s.length ∧ s ≠ [] := by
  obtain ⟨ds, rfl, h2, _, _, h5, _⟩ := h
  exact ⟨h5, by simp; omega, by simp⟩

set_option maxRecDepth 100000 in
set_option maxHeartbeats 800000 in
theorem script_read (s : List UInt8) (l : List Ed) (w : World) (h : Reads s l) (h20 : l.length ≤ 20) (hs : s.length ≤ 1000000) :
    Calls Tryd.prog 82 #[.string (bs s)] w fun e w' => ∃ v, e = .returned (.tuple #[v, .int .i64 0]) ∧ EditsAt w' v l ∧ Below w.heap.size w w' := by
  obtain ⟨i0, hi, hz0, hz1, hz2⟩ := info_parts info_ed
  have HI := Lib.hid hi
  have HZ0 := Lib.hid hz0
  have HZ1 := Lib.hid hz1
  have HZ2 := Lib.hid hz2
  have HR := Lib.hid h
  clear hi hz0 hz1 hz2 h
  go_enter Tryd.func82, Tryd.ntmps82
  go_wp2
  go_loopw [0, 4] (fun sv ov wr => ∃ (s' : List UInt8) (acc l' : List Ed) (A : Option Addr) (c : Nat), sv = .string (bs s') ∧ s'.length ≤ s.length ∧ Hid (l = acc ++ l') ∧ Hid (Reads s' l') ∧ ov = .slice A acc.length c ∧ Hid (wr.ownsRow w.heap.size 89 3 (.slice A acc.length c) acc.length (edCells acc)) ∧ Below w.heap.size w wr) (fun sv _ _ => strLen sv)
  case atStart => exact ⟨s, [], l, none, 0, rfl, by omega, rfl, HR.out, rfl, World.ownsRow_nil _ _ _ _, Below.refl _ _⟩
  case round =>
    obtain ⟨s', acc, l', A, c, rfl, hs', HL, HR', rfl, HO, hb⟩ := hrel
    rcases HR'.out with _ | @⟨_, r1, r2, r3, a, d, n, l2, h1, h2, h3, h4, h5⟩
    · go_wp2
      go_ret2
      have e : l = acc := by rw [HL.out, List.append_nil]
      subst e
      exact ⟨_, rfl, editsAt_of_owns HO.out, hb⟩
    · obtain ⟨a1, a2, a3⟩ := num_le h1
      obtain ⟨b1, b2, b3⟩ := num_le h2
      obtain ⟨n1, n2, n3⟩ := num_le h3
      have hlen : acc.length < 20 := by
        have := congrArg List.length HL.out
        simp at this
        omega
      have k20 : ((acc.length : Int) == 20) = false := by simp; omega
      have kem : s'.isEmpty = false := by cases s' with | nil => exact absurd rfl a3 | cons => rfl
      have kn : n < r3.length := by
        rcases Nat.lt_or_ge n r3.length with h | h
        · exact h
        · rw [List.getElem?_eq_none h] at h4; cases h4
      have hget := bs_get r3 n (by simpa using kn)
      have h59 : r3[n] = 59 := by rw [List.getElem?_eq_getElem kn] at h4; injection h4
      rw [h59] at hget
      have H1 := Lib.hid h1
      have H2 := Lib.hid h2
      have H3 := Lib.hid h3
      have H5 := Lib.hid h5
      have HL' := HL
      clear h1 h2 h3 h4 h5 h59 HL a3 b3 n3
      go_wp2_with fail
      refine (script_number 32 200 _ _ _ _ H1.out (by decide) (by omega) (by omega)).mono ?_
      rintro e w1 ⟨rfl, hb1⟩
      go_wp2_with fail
      refine (script_number 32 200 _ _ _ _ H2.out (by decide) (by omega) (by omega)).mono ?_
      rintro e w2 ⟨rfl, hb2⟩
      go_wp2_with fail
      refine (script_number 58 40 _ _ _ _ H3.out (by decide) (by omega) (by omega)).mono ?_
      rintro e w3 ⟨rfl, hb3⟩
      have hb' : Below w.heap.size w w3 := ((hb.trans (hb1.mono hb.size)).trans (hb2.mono (Nat.le_trans hb.size hb1.size))).trans (hb3.mono (Nat.le_trans (Nat.le_trans hb.size hb1.size) hb2.size))
      have hown3 := owns_below (owns_below (owns_below HO.out hb1) hb2) hb3
      go_wp2_with (at_builtin; refine wpList_append_own _ rfl _ _ 23 rfl w.heap.size 89 i0 _ 3 32 Tryd.underlying23 HI.out HZ0.out HZ1.out HZ2.out rfl (by decide) _ _ _ rfl (hown3.alloc _) ⟨w3.heap.size, 0, none⟩ 1 1 [.int .i64 a, .int .i64 d, .string (bs (List.take n r3))] rfl rfl ?c1 ?c2 ?c3 ?c4 ?c5 ?_)
      case c1 => exact cell_three_new _ _ _ _ _
      case c2 => exact oneCell3 _ _ _
      case c3 => unfold maxLen; omega
      case c4 => omega
      case c5 => simp; have := hb'.size; omega
      intro v' w4 hown4 hgrow _
      obtain ⟨A', c', rfl⟩ := owns_shape hown4
      have HO4 := Lib.hid hown4
      clear hown4 hown3
      have hbf : Below w.heap.size w w4 := (hb'.alloc hb'.size _).grown hgrow (by simp; have := hb'.size; omega) (fun k hk => (HO.out.lt k hk).1)
      go_wp2
      go_roundw
      case rel =>
        refine ⟨r3.drop (n + 1), acc ++ [⟨a, d, r3.take n⟩], l2, A', c', rfl, by simp; omega, ?_, H5.out, by simp, ?_, hbf⟩
        · unfold Hid; rw [HL'.out]; simp
        · have := HO4.out
          simpa [edCells, Hid] using this
      case measure => simp [strLen]; omega
end Go.Proofs.YtclebkgfogienaaDoor
