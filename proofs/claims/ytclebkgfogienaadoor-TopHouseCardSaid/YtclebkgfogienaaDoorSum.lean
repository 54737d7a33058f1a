/- What sum.Of, sum.Bytes and sum.Right answer: one function of the bytes; its value is looked into nowhere. -/
import Derived.Test.YtclebkgfogienaaDoorBase
namespace Go.Proofs.YtclebkgfogienaaDoor
set_option linter.unusedSimpArgs false
set_option linter.unusedVariables false
open Go.RowKit

/-- four bytes of a number -/
def sumB (x : Int) : List UInt8 := [UInt8.ofNat (x % 256).toNat, UInt8.ofNat (x / 256 % 256).toNat, UInt8.ofNat (x / 65536 % 256).toNat, UInt8.ofNat (x / 16777216).toNat]
theorem sumB_length (x : Int) : (sumB x).length = 4 := rfl

set_option maxRecDepth 100000 in
set_option maxHeartbeats 400000 in
theorem sum_bytes (x : Int) (w : World) (h0 : 0 ≤ x) (h1 : x < 4294967296) :
    Calls Tryd.prog 69 #[.int .u32 x] w fun e w' => e = .returned (.string (bs (sumB x))) ∧ Below w.heap.size w w' := by
  have hc := conv_lit4
  go_enter Tryd.func69, Tryd.ntmps69
  go_wp2
  go_ret
  exact ⟨rfl, (Below.refl _ _).alloc (Nat.le_refl _) _⟩

def crcBit (x : Int) : Int := bits BinOp.xor IntKind.u32 (x / 2) (bits BinOp.and IntKind.u32 x 1 * 2197175160 % 4294967296)
def crcBits : Nat → Int → Int
  | 0, x => x
  | n + 1, x => crcBit (crcBits n x)
def crcByte (x : Int) (c : UInt8) : Int := crcBits 8 (bits BinOp.xor IntKind.u32 x ((c.toNat : Int) % 4294967296))
def crcL (l : List UInt8) : Int := l.foldl crcByte 4294967295
def sumOf (l : List UInt8) : Int := bits BinOp.xor IntKind.u32 IntKind.u32.max (crcL l)

theorem bits_u32 (op : BinOp) (x y : Int) : 0 ≤ bits op IntKind.u32 x y ∧ bits op IntKind.u32 x y < 4294967296 := by
  unfold bits
  simp only [IntKind.wrap, IntKind.signed, IntKind.bits]
  constructor
  · exact Int.emod_nonneg _ (by decide)
  · exact Int.emod_lt_of_pos _ (by decide)

set_option maxRecDepth 100000 in
set_option maxHeartbeats 400000 in
theorem sum_of (s : List UInt8) (w : World) (hs : s.length ≤ 140737488351232) :
    Calls Tryd.prog 70 #[.string (bs s)] w fun e w' => e = .returned (.int .u32 (sumOf s)) ∧ Below w.heap.size w w' := by
  obtain ⟨w1, c, hrun, hb1, hz1, hc⟩ := conv_str_bytes w s
  go_enter Tryd.func70, Tryd.ntmps70
  go_wp2
  go_loopw [3, 9] (fun x i wr => ∃ (k : Nat) (X : Int), k ≤ s.length ∧ i = .int .i64 k ∧ x = .int .u32 X ∧ 0 ≤ X ∧ X < 4294967296 ∧ wr = w1 ∧ Hid (crcL s = (s.drop k).foldl crcByte X)) (fun _ i _ => s.length - (intOf i).toNat)
  case atStart => exact ⟨0, 4294967295, by omega, rfl, rfl, by omega, by omega, rfl, rfl⟩
  case round =>
    obtain ⟨k, X, hk, rfl, rfl, hX0, hX1, rfl, HX⟩ := hrel
    by_cases hlt : k < s.length
    · have hck := hc k hlt
      clear hc
      obtain ⟨b0, b1⟩ := bits_u32 BinOp.xor X ((s[k].toNat : Int) % 4294967296)
      go_wp2
      obtain ⟨wo, rfl⟩ : ∃ wo : World, wo = wr := ⟨_, rfl⟩
      go_loopw [3, 17] (fun x i wr => ∃ (m : Nat) (Y : Int), m ≤ 8 ∧ i = .int .i64 m ∧ x = .int .u32 Y ∧ 0 ≤ Y ∧ Y < 4294967296 ∧ wr = wo ∧ Hid (Y = crcBits m (bits BinOp.xor IntKind.u32 X ((s[k].toNat : Int) % 4294967296)))) (fun _ i _ => 8 - (intOf i).toNat)
      case atStart => exact ⟨0, _, by omega, rfl, rfl, b0, b1, rfl, rfl⟩
      case round =>
        obtain ⟨m, Y, hm, rfl, rfl, hY0, hY1, rfl, HY⟩ := hrel
        clear b0 b1
        by_cases hlm : m < 8
        · go_wp2
          obtain ⟨d0, d1⟩ := bits_u32 BinOp.xor (Y / 2) (bits BinOp.and IntKind.u32 Y 1 * 2197175160 % 4294967296)
          go_roundw
          case rel =>
            refine ⟨m + 1, _, by omega, by go_num, rfl, d0, d1, trivial, ?_⟩
            have e := HY.out
            unfold Hid
            rw [crcBits, ← e, crcBit]
          case measure => simp [intOf]; omega
        · go_wp2
          go_roundw
          case rel =>
            refine ⟨k + 1, _, by omega, by go_num, rfl, hY0, hY1, trivial, ?_⟩
            unfold Hid
            rw [HX.out, List.drop_eq_getElem_cons hlt, List.foldl_cons, HY.out, show m = 8 by omega]
            rfl
          case measure => simp [intOf]; omega
    · go_wp2
      go_ret
      refine ⟨ret_int ?_, hb1⟩
      unfold sumOf
      rw [HX.out, List.drop_of_length_le (by omega)]
      rfl

theorem sumOf_lt (l : List UInt8) : 0 ≤ sumOf l ∧ sumOf l < 4294967296 := bits_u32 _ _ _

def sumR (s : List UInt8) : Bool := decide (4 ≤ s.length) && (sumB (sumOf (s.take (s.length - 4))) == s.drop (s.length - 4))

set_option maxRecDepth 100000 in
set_option maxHeartbeats 400000 in
theorem sum_right (s : List UInt8) (w : World) (hs : s.length ≤ 140737488351232) :
    Calls Tryd.prog 71 #[.string (bs s)] w fun e w' => e = .returned (.bool (sumR s)) ∧ Below w.heap.size w w' := by
  by_cases h4 : 4 ≤ s.length
  · go_enter Tryd.func71, Tryd.ntmps71
    go_wp2
    have hg : (4 : Int) ≤ (s.length : Int) := by omega
    have hg2 : (0 : Int) ≤ (s.length : Int) - 4 := by omega
    have hg3 : decide ((4 : Int) ≤ (s.length : Int)) = true := by simp; omega
    have hg4 : ((s.length : Int) - 4).toNat = s.length - 4 := by omega
    have hg5 : (s.length : Int) - 4 ≤ s.length := by omega
    have hg6 : s.length - 4 ≤ s.length := by omega
    have C1 := Lib.hid (fun w' => sum_of (s.take (s.length - 4)) w' (by simp; omega))
    have C2 := Lib.hid (fun w' => sum_bytes (sumOf (s.take (s.length - 4))) w' (sumOf_lt _).1 (sumOf_lt _).2)
    go_region_held3 (fun _ : World => True) (trivial) (first | (go_at_call 70; go_must (go_fit (C1.out _); rintro e w1 ⟨rfl, hb1⟩)) | (go_at_call 69; go_must (go_fit (C2.out _); rintro e w2 ⟨rfl, hb2⟩)))
    have HS : Hid (sumR s = (sumB (sumOf (List.take (s.length - 4) s)) == List.drop (s.length - 4) s)) := by
      unfold Hid sumR
      rw [decide_eq_true h4]
      rfl
    go_wp2
    go_ret
    refine ⟨by rw [HS.out]; rfl, ?_⟩
    exact ((Below.refl _ _).drew.trans (hb1.mono (Nat.le_refl _))).trans (hb2.mono hb1.size)
  · have HS : Hid (sumR s = false) := by
      unfold Hid sumR
      rw [decide_eq_false h4]
      rfl
    go_enter Tryd.func71, Tryd.ntmps71
    go_wp2
    have hg : ¬ (4 : Int) ≤ (s.length : Int) := by omega
    have hg3 : decide ((4 : Int) ≤ (s.length : Int)) = false := by simp; omega
    go_quiet (fail)
    go_wp2
    go_ret
    refine ⟨by rw [HS.out]; rfl, below_drewN (Below.refl _ _) _⟩
end Go.Proofs.YtclebkgfogienaaDoor
