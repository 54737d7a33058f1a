/- A word's turns, in order, and what their last bytes tell. No program in sight. -/
import Derived.Test.YtclebkgfogienaaDoorBase
import Derived.Lib.Bytealg
import Derived.Sort.LotA
namespace Go.Proofs.YtclebkgfogienaaDoor
set_option linter.unusedSimpArgs false
set_option linter.unusedVariables false

theorem cmp_lt : ∀ (a b : List UInt8), Lib.compareBytes a b = if a < b then -1 else if b < a then 1 else 0
  | [], [] => by simp [Lib.compareBytes]
  | [], _ :: _ => by simp [Lib.compareBytes]
  | _ :: _, [] => by simp [Lib.compareBytes]
  | x :: a, y :: b => by
    have ih := cmp_lt a b
    unfold Lib.compareBytes
    rw [ih]
    by_cases h1 : x < y
    · rw [if_pos h1, if_pos (List.cons_lt_cons_iff.2 (.inl h1))]
    · rw [if_neg h1]
      by_cases h2 : y < x
      · have h3 : ¬ (x :: a < y :: b) := by
          rw [List.cons_lt_cons_iff]
          rintro (h | ⟨rfl, _⟩)
          · exact h1 h
          · exact h1 h2
        rw [if_pos h2, if_neg h3, if_pos (List.cons_lt_cons_iff.2 (.inl h2))]
      · have hxy : x = y := UInt8.le_antisymm (UInt8.not_lt.1 h2) (UInt8.not_lt.1 h1)
        subst hxy
        rw [if_neg h2]
        have e : ∀ (p q : List UInt8), (x :: p < x :: q) ↔ p < q := fun p q => by
          rw [List.cons_lt_cons_iff]
          constructor
          · rintro (h | ⟨_, h⟩)
            · exact absurd h h1
            · exact h
          · exact fun h => .inr ⟨rfl, h⟩
        simp only [e]

def rotL (s : List UInt8) (i : Nat) : List UInt8 := ((s ++ s).drop i).take s.length
def rotC (s : List UInt8) (i k : Nat) : Int := if Lib.compareBytes (rotL s i) (rotL s k) ≠ 0 then Lib.compareBytes (rotL s i) (rotL s k) else (i : Int) - k
def RotLess (s : List UInt8) (i k : Nat) : Prop := rotL s i < rotL s k ∨ (rotL s i = rotL s k ∧ i < k)
theorem rotC_lt (s : List UInt8) (i k : Nat) : rotC s i k < 0 ↔ RotLess s i k := by
  unfold rotC RotLess
  rw [cmp_lt]
  by_cases h1 : rotL s i < rotL s k
  · simp [h1]
  · by_cases h2 : rotL s k < rotL s i
    · have h3 : rotL s i ≠ rotL s k := fun h => by rw [h] at h2; exact List.lt_irrefl _ h2
      simp [h1, h2, h3]
    · have h3 : rotL s i = rotL s k := List.le_antisymm (List.not_lt.1 h2) (List.not_lt.1 h1)
      simp [h3, List.lt_irrefl]
      omega
theorem RotLess.irrefl {s : List UInt8} {i : Nat} : ¬ RotLess s i i := by
  rintro (h | ⟨_, h⟩)
  · exact List.lt_irrefl _ h
  · omega
theorem RotLess.trans {s : List UInt8} {i j k : Nat} (h : RotLess s i j) (g : RotLess s j k) : RotLess s i k := by
  rcases h with h | ⟨h, h2⟩
  · rcases g with g | ⟨g, _⟩
    · exact .inl (List.lt_trans h g)
    · exact .inl (by rw [← g]; exact h)
  · rcases g with g | ⟨g, g2⟩
    · exact .inl (by rw [h]; exact g)
    · exact .inr ⟨h.trans g, by omega⟩
theorem RotLess.total {s : List UInt8} {i j : Nat} (h : ¬ RotLess s i j) (g : ¬ RotLess s j i) : i = j := by
  unfold RotLess at h g
  have h1 : ¬ rotL s i < rotL s j := fun x => h (.inl x)
  have h2 : ¬ rotL s j < rotL s i := fun x => g (.inl x)
  have h3 : rotL s i = rotL s j := List.le_antisymm (List.not_lt.1 h2) (List.not_lt.1 h1)
  have h4 : ¬ i < j := fun x => h (.inr ⟨h3, x⟩)
  have h5 : ¬ j < i := fun x => g (.inr ⟨h3.symm, x⟩)
  omega
def rotLe (s : List UInt8) (i k : Nat) : Bool := !decide (rotC s k i < 0)
theorem rotLe_iff (s : List UInt8) (i k : Nat) : rotLe s i k = true ↔ ¬ RotLess s k i := by
  unfold rotLe
  rw [← rotC_lt]; simp
theorem rotLe_trans (s : List UInt8) (a b c : Nat) (h : rotLe s a b = true) (g : rotLe s b c = true) : rotLe s a c = true := by
  rw [rotLe_iff] at *
  intro hca
  by_cases hab : RotLess s a b
  · exact g (hca.trans hab)
  · have := RotLess.total hab h
    subst this
    exact g hca
theorem rotLe_total (s : List UInt8) (a b : Nat) : (rotLe s a b || rotLe s b a) = true := by
  rw [Bool.or_eq_true, rotLe_iff, rotLe_iff]
  by_cases h : RotLess s b a
  · exact .inr fun g => RotLess.irrefl (h.trans g)
  · exact .inl h
/-- the places of a word, by their turns -/
def ordF (s : List UInt8) : List Nat := (List.range s.length).mergeSort (rotLe s)
theorem ordF_perm (s : List UInt8) : (ordF s).Perm (List.range s.length) := List.mergeSort_perm _ _
theorem ordF_sorted (s : List UInt8) : (ordF s).Pairwise (fun a b => rotLe s a b = true) := List.pairwise_mergeSort (fun a b c => rotLe_trans s a b c) (fun a b => rotLe_total s a b) _
theorem ordF_length (s : List UInt8) : (ordF s).length = s.length := by simp [ordF]
theorem ordF_lt (s : List UInt8) {i : Nat} (h : i ∈ ordF s) : i < s.length := by
  have := (ordF_perm s).mem_iff.1 h
  simpa using this
theorem ordF_unique (s : List UInt8) (l : List Nat) (hp : l.Perm (List.range s.length)) (hs : l.Pairwise (fun a b => ¬ RotLess s b a)) : l = ordF s := by
  refine List.Perm.eq_of_pairwise (le := fun a b => rotLe s a b = true) ?_ ?_ (ordF_sorted s) (hp.trans (ordF_perm s).symm)
  · intro a b _ _ h1 h2
    rw [rotLe_iff] at h1 h2
    exact RotLess.total h2 h1
  · exact hs.imp fun h => (rotLe_iff s _ _).2 h
def atF : List Nat → Nat → Nat → Nat
  | [], _, a => a
  | i :: r, k, a => atF r (k + 1) (if i = 0 then k else a)
def lastF (s : List UInt8) (i : Nat) : UInt8 := (s ++ s).getD (i + s.length - 1) 0
def putF (s : List UInt8) : List UInt8 × Nat := ((ordF s).map (lastF s), atF (ordF s) 0 0)
end Go.Proofs.YtclebkgfogienaaDoor
