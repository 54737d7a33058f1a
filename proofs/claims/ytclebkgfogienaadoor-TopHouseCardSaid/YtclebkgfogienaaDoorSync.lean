/- A page's editor and its leaf tell the same text. -/
import Derived.Test.YtclebkgfogienaaDoorNamed
namespace Go.Proofs.YtclebkgfogienaaDoor
set_option linter.unusedSimpArgs false
set_option linter.unusedVariables false

theorem appE_zero_or {d r : List UInt8} (hr : r.length ≤ 1100) : appE d r = 0 ∨ appE d r = 11 := by
  unfold appE
  rw [if_neg (by omega)]
  split
  · exact .inr rfl
  · exact .inl rfl
theorem lfAdd_ok0 {L : LfS} {r : Rec} {t : List UInt8} (h : (lfAdd L r t).1 = 0) : (lfAdd L r t).2.text = t := by
  unfold lfAdd at h ⊢
  split at h
  · rename_i hc; rw [if_pos hc]
  · rename_i hc; exact absurd h hc
theorem lfAdd_no {L : LfS} {r : Rec} {t : List UInt8} (h : (lfAdd L r t).1 ≠ 0) : (lfAdd L r t).2 = L := by
  unfold lfAdd at h ⊢
  split at h
  · exact absurd rfl h
  · rename_i hc; rw [if_neg hc]
theorem lfEdit_ok0 {L : LfS} {l : List Ed} (h : (lfEdit L l).1 = 0) : (apply L.text l).2 = 0 ∧ (lfEdit L l).2.text = (apply L.text l).1 := by
  unfold lfEdit at h ⊢
  by_cases hc : (apply L.text l).2 = 0
  · rw [if_pos hc] at h ⊢
    exact ⟨hc, lfAdd_ok0 h⟩
  · rw [if_neg hc] at h; exact absurd h hc
theorem lfEdit_no {L : LfS} {l : List Ed} (h : (lfEdit L l).1 ≠ 0) : (lfEdit L l).2 = L := by
  unfold lfEdit at h ⊢
  by_cases hc : (apply L.text l).2 = 0
  · rw [if_pos hc] at h ⊢
    exact lfAdd_no h
  · rw [if_neg hc]
theorem lfSet_ok0 {L : LfS} {s : List UInt8} (h : (lfSet L s).1 = 0) : (lfSet L s).2.text = s := by
  unfold lfSet at h ⊢
  split at h
  · exact absurd h (by simp)
  · rename_i hc; rw [if_neg hc]; exact lfAdd_ok0 h
theorem lfSet_no {L : LfS} {s : List UInt8} (h : (lfSet L s).1 ≠ 0) : (lfSet L s).2 = L := by
  unfold lfSet at h ⊢
  split at h
  · rename_i hc; rw [if_pos hc]
  · rename_i hc; rw [if_neg hc]; exact lfAdd_no h
theorem lfSet_err {L : LfS} {s : List UInt8} (hs : s.length ≤ 200) : (lfSet L s).1 = 0 ∨ (lfSet L s).1 = 11 := by
  unfold lfSet lfAdd
  rw [if_neg (by omega)]
  split
  · exact .inl rfl
  · rename_i hc
    rcases appE_zero_or (d := diskOf L.recs) (enc_len (r := .b s) (by simpa [Rec.ok] using hs)) with h | h
    · exact absurd h hc
    · exact .inr h
theorem lfPack_text {L : LfS} {n : Int} (h : (lfPack L n).1 ≠ 0) : (lfPack L n).2 = L := by
  unfold lfPack at h ⊢
  split at h
  · rename_i hc; rw [if_pos hc]
  · split at h <;> exact absurd rfl h
theorem lfCrash_no {L : LfS} {n : Int} (h : (lfCrash L n).1 ≠ 0) : (lfCrash L n).2 = L := by
  unfold lfCrash at h ⊢
  split at h
  · exact absurd rfl h
  · rename_i hc; rw [if_neg hc]

theorem undo_redo_text {E : EdS} : ((undoEd E).1 = 0 → (redoEd (undoEd E).2).2.text = E.text) ∧ ((redoEd E).1 = 0 → (undoEd (redoEd E).2).2.text = E.text) := by
  constructor
  · intro h
    unfold undoEd at h ⊢
    split at h
    · exact absurd h (by simp)
    · rename_i t ht
      simp [redoEd]
  · intro h
    unfold redoEd at h ⊢
    split at h
    · exact absurd h (by simp)
    · rename_i t ht
      simp [undoEd]
theorem undoEd_no {E : EdS} : ((undoEd E).1 ≠ 0 → (undoEd E).2 = E) ∧ ((redoEd E).1 ≠ 0 → (redoEd E).2 = E) := by
  constructor
  · intro h
    unfold undoEd at h ⊢
    split at h
    · rfl
    · exact absurd rfl h
  · intro h
    unfold redoEd at h ⊢
    split at h
    · rfl
    · exact absurd rfl h

def Sync (E : EdS) (L : LfS) : Prop := E.text = L.text
theorem pgEdit_sync {E : EdS} {L : LfS} (h : Sync E L) (l : List Ed) : Sync (pgEdit E L l).2.1 (pgEdit E L l).2.2 := by
  unfold pgEdit
  split
  · exact h
  · rename_i hl
    split
    · rename_i hc
      obtain ⟨h1, h2⟩ := lfEdit_ok0 hc
      unfold Sync at h ⊢
      simp only
      rw [h2, ← h]
      unfold doEd
      rw [h, if_neg (by simpa using h1), if_neg hl]
    · rename_i hc
      rw [lfEdit_no hc]; exact h
theorem pgStep_sync {E : EdS} {L : LfS} (h : Sync E L) (b : Bool) : Sync (pgStep E L b).2.1 (pgStep E L b).2.2 := by
  have key : ((if b then undoEd E else redoEd E).1 = 0 → (if b then redoEd (if b then undoEd E else redoEd E).2 else undoEd (if b then undoEd E else redoEd E).2).2.text = E.text) ∧ ((if b then undoEd E else redoEd E).1 ≠ 0 → (if b then undoEd E else redoEd E).2 = E) := by
    cases b
    · exact ⟨undo_redo_text.2, undoEd_no.2⟩
    · exact ⟨undo_redo_text.1, undoEd_no.1⟩
  unfold pgStep
  generalize (if b then undoEd E else redoEd E) = r at *
  simp only
  by_cases hr : r.1 = 0
  · rw [if_pos hr]
    by_cases hq : (lfSet L r.2.text).1 = 0
    · rw [if_pos hq]
      exact (lfSet_ok0 hq).symm
    · rw [if_neg hq, lfSet_no hq]
      unfold Sync at h ⊢
      simp only
      rw [← h]
      exact key.1 hr
  · rw [if_neg hr]
    unfold Sync at h ⊢
    simp only
    rw [key.2 hr]; exact h
theorem pgPack_sync {E : EdS} {L : LfS} (h : Sync E L) (n : Int) : Sync (pgPack E L n).2.1 (pgPack E L n).2.2 := by
  unfold pgPack
  simp only
  split
  · split
    · rename_i hn
      subst hn
      unfold Sync at h ⊢
      simp only
      rw [h]
      unfold lfPack
      rw [if_neg (by decide), if_neg (by decide)]
    · rfl
  · rename_i hc
    rw [lfPack_text hc]; exact h
theorem pgCrash_sync {E : EdS} {L : LfS} (h : Sync E L) (n : Int) : Sync (pgCrash E L n).2.1 (pgCrash E L n).2.2 := by
  unfold pgCrash
  simp only
  split
  · rfl
  · rename_i hc
    rw [lfCrash_no hc]; exact h
theorem doPg_sync {p : PageS} (h : Sync p.E p.L) (d : Dd) : Sync (doPg p d).2.E (doPg p d).2.L := by
  unfold doPg mkPg
  split; · exact pgEdit_sync h _
  split; · exact pgStep_sync h _
  split; · exact pgStep_sync h _
  split; · exact h
  split; · exact pgPack_sync h _
  split; · exact pgCrash_sync h _
  split; · exact h
  unfold pgMake
  simp only
  split
  · exact pgEdit_sync h _
  · exact h
def Synced (H : List PageS) : Prop := ∀ p ∈ H, Sync p.E p.L
theorem doF_sync {H : List PageS} (h : Synced H) (d : Dd) : Synced (doF H d).2 := by
  unfold doF
  split; · exact h
  split; · exact h
  split
  · split
    · unfold beginF
      split; · exact h
      split; · exact h
      intro p hp
      rcases List.mem_append.1 hp with hp | hp
      · exact h p hp
      · simp at hp; subst hp; rfl
    · exact h
  · split; · exact h
    split
    · exact fun p hp => h p (List.mem_of_mem_eraseIdx hp)
    · split
      · exact h
      · rename_i p hp
        intro q hq
        rcases List.mem_or_eq_of_mem_set hq with hq | rfl
        · exact h q hq
        · exact doPg_sync (h p (List.mem_of_getElem? hp)) d
theorem runF_sync {H : List PageS} (h : Synced H) : ∀ (D : List Dd), Synced (runF H D) := by
  intro D
  induction D generalizing H with
  | nil => exact h
  | cons d D ih => exact ih (doF_sync h d)
end Go.Proofs.YtclebkgfogienaaDoor
