/- Plain words on scripts of edits as texts: what is written, what is read, and that what is written is read. No program in sight. -/
import Derived.Test.YtclebkgfogienaaDoorBase
import Derived.Lib.ItoaMem
namespace Go.Proofs.YtclebkgfogienaaDoor
set_option linter.unusedSimpArgs false
set_option linter.unusedVariables false

abbrev dig (n : Nat) : List UInt8 := Lib.decDigits n
def wrE (x : Ed) : List UInt8 := dig x.pos.toNat ++ [32] ++ dig x.del.toNat ++ [32] ++ dig x.ins.length ++ [58] ++ x.ins ++ [59]
def wrL (l : List Ed) : List UInt8 := l.flatMap wrE

/-- the number that digits tell -/
def valD (ds : List UInt8) : Nat := ds.foldl (fun n c => 10 * n + (c.toNat - 48)) 0
def Digits (ds : List UInt8) : Prop := ∀ c ∈ ds, 48 ≤ c.toNat ∧ c.toNat ≤ 57
/-- at the front of 's' stands a number 'n' of at most 'most', then the byte 'e', then 'r' -/
def Num (e : UInt8) (most : Nat) (s : List UInt8) (n : Nat) (r : List UInt8) : Prop :=
  ∃ ds, s = ds ++ e :: r ∧ ds ≠ [] ∧ Digits ds ∧ valD ds = n ∧ n ≤ most ∧ (ds.head? ≠ some 48 ∨ ds.length = 1)

inductive Reads : List UInt8 → List Ed → Prop where
  | nil : Reads [] []
  | cons {s r1 r2 r3 : List UInt8} {a d n : Nat} {l : List Ed} (h1 : Num 32 200 s a r1) (h2 : Num 32 200 r1 d r2) (h3 : Num 58 40 r2 n r3)
      (h4 : r3[n]? = some 59) (h5 : Reads (r3.drop (n + 1)) l) : Reads s (⟨a, d, r3.take n⟩ :: l)

theorem valD_append (a : List UInt8) (c : UInt8) : valD (a ++ [c]) = 10 * valD a + (c.toNat - 48) := by simp [valD]
theorem valD_take_le : ∀ (ds : List UInt8) (k : Nat), valD (ds.take k) ≤ valD ds := by
  intro ds
  suffices h : ∀ m, valD (ds.take (ds.length - m)) ≤ valD ds by
    intro k
    by_cases hk : k ≤ ds.length
    · have := h (ds.length - k); rwa [show ds.length - (ds.length - k) = k by omega] at this
    · rw [List.take_of_length_le (by omega)]; exact Nat.le_refl _
  intro m
  induction m with
  | zero => simp
  | succ m ih =>
    by_cases hm : m + 1 ≤ ds.length
    · have e : ds.take (ds.length - m) = ds.take (ds.length - (m + 1)) ++ [ds[ds.length - (m + 1)]] := by
        rw [show ds.length - m = (ds.length - (m + 1)) + 1 by omega, List.take_succ_eq_append_getElem (by omega)]
      rw [e, valD_append] at ih
      omega
    · rw [show ds.length - (m + 1) = ds.length - m by omega]; exact ih

theorem digits_dec : ∀ (n : Nat), n < 1000 → Digits (dig n) ∧ valD (dig n) = n ∧ dig n ≠ [] ∧ ((dig n).head? ≠ some 48 ∨ (dig n).length = 1) ∧ (dig n).length ≤ 3 := by
  have h10 : ∀ n, n < 10 → dig n = [UInt8.ofNat (48 + n)] := fun n h => Lib.decDigits_one h
  intro n hn
  have key : ∀ d, d < 10 → ∃ c : UInt8, UInt8.ofNat (48 + d) = c ∧ c.toNat = 48 + d := by
    intro d hd; refine ⟨_, rfl, ?_⟩; rw [UInt8.toNat_ofNat']; omega
  have hz : ∀ (c : UInt8) (d : Nat), c.toNat = 48 + d → d ≠ 0 → c ≠ 48 := by
    intro c d h1 h2 h3
    rw [h3] at h1
    simp at h1
    omega
  by_cases h1 : n < 10
  · obtain ⟨c, e, hc⟩ := key n h1
    rw [h10 n h1, e]
    refine ⟨?_, ?_, by simp, .inr rfl, by simp⟩
    · intro x hx; simp at hx; subst hx; omega
    · simp [valD, hc]
  · by_cases h2 : n < 100
    · obtain ⟨c, e, hc⟩ := key (n / 10) (by omega)
      obtain ⟨c', e', hc'⟩ := key (n % 10) (by omega)
      rw [show dig n = _ from Lib.decDigits_two h1 h2, e, e']
      refine ⟨?_, ?_, by simp, .inl ?_, by simp⟩
      · intro x hx
        simp at hx
        rcases hx with rfl | rfl <;> omega
      · simp [valD, hc, hc']; omega
      · simp; exact hz c _ hc (by omega)
    · have e : dig n = dig (n / 10) ++ [UInt8.ofNat (48 + n % 10)] := by
        show Lib.decDigits n = _
        rw [Lib.decDigits, dif_neg h1]
      obtain ⟨c, e1, hc⟩ := key (n / 10 / 10) (by omega)
      obtain ⟨c', e2, hc'⟩ := key (n / 10 % 10) (by omega)
      obtain ⟨c2, e3, hc2⟩ := key (n % 10) (by omega)
      rw [e, show dig (n / 10) = _ from Lib.decDigits_two (by omega) (by omega), e1, e2, e3]
      refine ⟨?_, ?_, by simp, .inl ?_, by simp⟩
      · intro x hx
        simp at hx
        rcases hx with rfl | rfl | rfl <;> omega
      · simp [valD, hc, hc', hc2]; omega
      · simp; exact hz c _ hc (by omega)

theorem num_dig (e : UInt8) (most n : Nat) (r : List UInt8) (hn : n ≤ most) (hm : most < 1000) : Num e most (dig n ++ e :: r) n r := by
  obtain ⟨h1, h2, h3, h4, _⟩ := digits_dec n (by omega)
  exact ⟨dig n, rfl, h3, h1, h2, hn, h4⟩

/-- edits that can be written -/
def Small (l : List Ed) : Prop := ∀ x ∈ l, 0 ≤ x.pos ∧ x.pos ≤ 200 ∧ 0 ≤ x.del ∧ x.del ≤ 200 ∧ x.ins.length ≤ 40

theorem reads_wr : ∀ (l : List Ed), Small l → Reads (wrL l) l
  | [], _ => .nil
  | x :: l, h => by
    obtain ⟨h1, h2, h3, h4, h5⟩ := h x (by simp)
    have hr := reads_wr l fun y hy => h y (by simp [hy])
    have e : wrL (x :: l) = dig x.pos.toNat ++ 32 :: (dig x.del.toNat ++ 32 :: (dig x.ins.length ++ 58 :: (x.ins ++ 59 :: wrL l))) := by
      simp [wrL, wrE]
    rw [e]
    have hx : x = ⟨((x.pos.toNat : Nat) : Int), ((x.del.toNat : Nat) : Int), (x.ins ++ 59 :: wrL l).take x.ins.length⟩ := by
      obtain ⟨p, d, t⟩ := x
      simp only at h1 h3
      simp
      omega
    have g4 : (x.ins ++ 59 :: wrL l)[x.ins.length]? = some (59 : UInt8) := by simp
    have g5 : Reads ((x.ins ++ 59 :: wrL l).drop (x.ins.length + 1)) l := by
      rw [List.drop_append, List.drop_of_length_le (by omega), show x.ins.length + 1 - x.ins.length = 1 by omega]
      exact hr
    have := Reads.cons (l := l) (num_dig 32 200 x.pos.toNat _ (by omega) (by omega)) (num_dig 32 200 x.del.toNat _ (by omega) (by omega)) (num_dig 58 40 x.ins.length _ (by omega) (by omega)) g4 g5
    rw [← hx] at this
    exact this
theorem wrE_length (x : Ed) (h : 0 ≤ x.pos ∧ x.pos ≤ 200 ∧ 0 ≤ x.del ∧ x.del ≤ 200 ∧ x.ins.length ≤ 40) : (wrE x).length ≤ 52 := by
  obtain ⟨h1, h2, h3, h4, h5⟩ := h
  have a := (digits_dec x.pos.toNat (by omega)).2.2.2.2
  have b := (digits_dec x.del.toNat (by omega)).2.2.2.2
  have c := (Lib.decDigits_length x.ins.length)
  have c' : (dig x.ins.length).length ≤ 2 := by
    rcases Nat.lt_or_ge x.ins.length 10 with h | h
    · rw [show dig x.ins.length = _ from Lib.decDigits_one h]; simp
    · rw [show dig x.ins.length = _ from Lib.decDigits_two (by omega) (by omega)]; simp
  simp [wrE]
  omega
theorem wrL_length : ∀ (l : List Ed), Small l → (wrL l).length ≤ 52 * l.length
  | [], _ => by simp [wrL]
  | x :: l, h => by
    have := wrE_length x (h x (by simp))
    have := wrL_length l fun y hy => h y (by simp [hy])
    simp [wrL] at *
    omega
end Go.Proofs.YtclebkgfogienaaDoor
