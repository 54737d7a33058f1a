/- A deed that has an error leaves a house as it was. -/
import Derived.Test.YtclebkgfogienaaDoorSync
namespace Go.Proofs.YtclebkgfogienaaDoor
set_option linter.unusedSimpArgs false
set_option linter.unusedVariables false

theorem undo_redo_eq {E : EdS} : ((undoEd E).1 = 0 → (redoEd (undoEd E).2).2 = E) ∧ ((redoEd E).1 = 0 → (undoEd (redoEd E).2).2 = E) := by
  obtain ⟨tx, bk, onw⟩ := E
  constructor
  · intro h
    unfold undoEd at h ⊢
    simp only at h ⊢
    split at h
    · exact absurd h (by simp)
    · rename_i t ht
      have hne : bk ≠ [] := by intro h0; subst h0; simp at ht
      have hl : bk.dropLast ++ [t] = bk := by
        have := List.dropLast_concat_getLast hne
        rw [List.getLast?_eq_some_getLast hne] at ht
        injection ht with ht
        rw [← ht]; exact this
      simp [redoEd, hl]
  · intro h
    unfold redoEd at h ⊢
    simp only at h ⊢
    split at h
    · exact absurd h (by simp)
    · rename_i t ht
      have hne : onw ≠ [] := by intro h0; subst h0; simp at ht
      have hl : onw.dropLast ++ [t] = onw := by
        have := List.dropLast_concat_getLast hne
        rw [List.getLast?_eq_some_getLast hne] at ht
        injection ht with ht
        rw [← ht]; exact this
      simp [undoEd, hl]
theorem doEd_sync0 {E : EdS} {L : LfS} {l : List Ed} (h : Sync E L) (hl : l ≠ []) (hc : (lfEdit L l).1 = 0) : (doEd E l).1 = 0 := by
  obtain ⟨h1, _⟩ := lfEdit_ok0 hc
  unfold Sync at h
  unfold doEd
  rw [h, if_neg (by simpa using h1), if_neg hl]
theorem pgEdit_no {E : EdS} {L : LfS} (h : Sync E L) (l : List Ed) (hne : (pgEdit E L l).1 ≠ 0) : (pgEdit E L l).2 = (E, L) := by
  unfold pgEdit at hne ⊢
  split
  · rfl
  · rename_i hl
    rw [if_neg hl] at hne
    split
    · rename_i hc
      rw [if_pos hc] at hne
      exact absurd (doEd_sync0 h hl hc) hne
    · rename_i hc
      rw [lfEdit_no hc]
theorem pgStep_no {E : EdS} {L : LfS} (b : Bool) (hne : (pgStep E L b).1 ≠ 0) : (pgStep E L b).2 = (E, L) := by
  have key : ((if b then undoEd E else redoEd E).1 = 0 → (if b then redoEd (if b then undoEd E else redoEd E).2 else undoEd (if b then undoEd E else redoEd E).2).2 = E) ∧ ((if b then undoEd E else redoEd E).1 ≠ 0 → (if b then undoEd E else redoEd E).2 = E) := by
    cases b
    · exact ⟨undo_redo_eq.2, undoEd_no.2⟩
    · exact ⟨undo_redo_eq.1, undoEd_no.1⟩
  unfold pgStep at hne ⊢
  generalize (if b then undoEd E else redoEd E) = r at *
  simp only at hne ⊢
  by_cases hr : r.1 = 0
  · rw [if_pos hr] at hne ⊢
    by_cases hq : (lfSet L r.2.text).1 = 0
    · rw [if_pos hq] at hne
      exact absurd rfl hne
    · rw [if_neg hq, lfSet_no hq, key.1 hr]
  · rw [if_neg hr, key.2 hr]
theorem pgPack_no {E : EdS} {L : LfS} (n : Int) (hne : (pgPack E L n).1 ≠ 0) : (pgPack E L n).2 = (E, L) := by
  unfold pgPack at hne ⊢
  simp only at hne ⊢
  split
  · rename_i hr
    rw [if_pos hr] at hne
    split at hne <;> exact absurd rfl hne
  · rename_i hr
    rw [lfPack_text hr]
theorem pgCrash_no {E : EdS} {L : LfS} (n : Int) (hne : (pgCrash E L n).1 ≠ 0) : (pgCrash E L n).2 = (E, L) := by
  unfold pgCrash at hne ⊢
  simp only at hne ⊢
  split
  · rename_i hr
    rw [if_pos hr] at hne
    exact absurd rfl hne
  · rename_i hr
    rw [lfCrash_no hr]
theorem mkPg_no {p : PageS} {r : Int × EdS × LfS} (h : r.1 ≠ 0 → r.2 = (p.E, p.L)) (hne : (mkPg p.name r).1.2 ≠ 0) : (mkPg p.name r).2 = p := by
  have := h hne
  obtain ⟨e, x⟩ := r
  simp only at this
  subst this
  rfl
theorem doPg_no {p : PageS} (h : Sync p.E p.L) (d : Dd) (hne : (doPg p d).1.2 ≠ 0) : (doPg p d).2 = p := by
  unfold doPg at hne ⊢
  split
  · rename_i hk; rw [if_pos hk] at hne; exact mkPg_no (pgEdit_no h _) hne
  rename_i hk; rw [if_neg hk] at hne; clear hk
  split
  · rename_i hk; rw [if_pos hk] at hne; exact mkPg_no (pgStep_no _) hne
  rename_i hk; rw [if_neg hk] at hne; clear hk
  split
  · rename_i hk; rw [if_pos hk] at hne; exact mkPg_no (pgStep_no _) hne
  rename_i hk; rw [if_neg hk] at hne; clear hk
  split
  · rename_i hk; rw [if_pos hk] at hne; exact absurd rfl hne
  rename_i hk; rw [if_neg hk] at hne; clear hk
  split
  · rename_i hk; rw [if_pos hk] at hne; exact mkPg_no (pgPack_no _) hne
  rename_i hk; rw [if_neg hk] at hne; clear hk
  split
  · rename_i hk; rw [if_pos hk] at hne; exact mkPg_no (pgCrash_no _) hne
  rename_i hk; rw [if_neg hk] at hne; clear hk
  split
  · rfl
  rename_i hk; rw [if_neg hk] at hne; clear hk
  refine mkPg_no (fun hne => ?_) hne
  unfold pgMake at hne ⊢
  simp only at hne ⊢
  split
  · rename_i hq
    rw [if_pos hq] at hne
    exact pgEdit_no h _ hne
  · rfl
theorem doF_no {H : List PageS} (h : Synced H) (d : Dd) (hne : (doF H d).1.2 ≠ 0) : (doF H d).2 = H := by
  unfold doF at hne ⊢
  split
  · rfl
  rename_i hk; rw [if_neg hk] at hne; clear hk
  split
  · rfl
  rename_i hk; rw [if_neg hk] at hne; clear hk
  cases hi : idxF H d.name with
  | none =>
    rw [hi] at hne
    simp only at hne ⊢
    split
    · rename_i hk
      rw [if_pos hk] at hne
      unfold beginF at hne ⊢
      simp only at hne ⊢
      split
      · rfl
      rename_i hk; rw [if_neg hk] at hne; clear hk
      split
      · rfl
      rename_i hk; rw [if_neg hk] at hne; clear hk
      exact absurd rfl hne
    · rfl
  | some k =>
    rw [hi] at hne
    simp only at hne ⊢
    split
    · rfl
    rename_i hk; rw [if_neg hk] at hne; clear hk
    split
    · rename_i hk; rw [if_pos hk] at hne; exact absurd rfl hne
    rename_i hk; rw [if_neg hk] at hne; clear hk
    cases hp : H[k]? with
    | none => rfl
    | some p =>
      rw [hp] at hne
      simp only at hne ⊢
      rw [doPg_no (h p (List.mem_of_getElem? hp)) d hne]
      exact set_self' hp
theorem Synced.nil : Synced [] := fun p hp => by simp at hp
end Go.Proofs.YtclebkgfogienaaDoor
