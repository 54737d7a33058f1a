/- What a crash leaves of a text that was saved: one of those that there were since. -/
import Derived.Test.YtclebkgfogienaaDoorStepsP
namespace Go.Proofs.YtclebkgfogienaaDoor
set_option linter.unusedSimpArgs false
set_option linter.unusedVariables false

/-- a leaf has at most one record more, and no less that is safe -/
def LfGrow (L L' : LfS) : Prop := L.safe ≤ L'.safe ∧ (L'.recs = L.recs ∨ ∃ r, L'.recs = L.recs ++ [r])
theorem LfGrow.refl (L : LfS) : LfGrow L L := ⟨Nat.le_refl _, .inl rfl⟩
theorem lfAdd_grow (L : LfS) (r : Rec) (t : List UInt8) : LfGrow L (lfAdd L r t).2 := by
  unfold lfAdd
  split
  · exact ⟨Nat.le_refl _, .inr ⟨r, rfl⟩⟩
  · exact .refl L
theorem lfEdit_grow (L : LfS) (l : List Ed) : LfGrow L (lfEdit L l).2 := by
  unfold lfEdit
  split
  · exact lfAdd_grow _ _ _
  · exact .refl L
theorem lfSet_grow (L : LfS) (s : List UInt8) : LfGrow L (lfSet L s).2 := by
  unfold lfSet
  split
  · exact .refl L
  · exact lfAdd_grow _ _ _
theorem pgEdit_grow (E : EdS) (L : LfS) (l : List Ed) : LfGrow L (pgEdit E L l).2.2 := by
  unfold pgEdit
  split
  · exact .refl L
  · split <;> exact lfEdit_grow _ _
theorem pgStep_grow (E : EdS) (L : LfS) (b : Bool) : LfGrow L (pgStep E L b).2.2 := by
  unfold pgStep
  generalize (if b then undoEd E else redoEd E) = r
  simp only
  by_cases hr : r.1 = 0
  · rw [if_pos hr]
    by_cases hq : (lfSet L r.2.text).1 = 0
    · rw [if_pos hq]; exact lfSet_grow _ _
    · rw [if_neg hq]; exact lfSet_grow _ _
  · rw [if_neg hr]; exact .refl L
theorem doPg_grow {p : PageS} (h : PgOk p.E p.L) (d : Dd) (hk : d.kind ≠ 6 ∧ d.kind ≠ 7) : LfGrow p.L (doPg p d).2.L := by
  unfold doPg mkPg
  split; · exact pgEdit_grow _ _ _
  split; · exact pgStep_grow _ _ _
  split; · exact pgStep_grow _ _ _
  split; · exact ⟨h.leaf.safe, .inl rfl⟩
  split; · rename_i h6; exact absurd h6 hk.1
  split; · rename_i h7; exact absurd h7 hk.2
  split; · exact .refl _
  unfold pgMake
  simp only
  split
  · exact pgEdit_grow _ _ _
  · exact .refl _

/-- the text of a name is the last one of a row; whatever a crash may leave stands in the row -/
def Kept (H : List PageS) (nm : List UInt8) (T : List (List UInt8)) : Prop :=
  ∃ p, pgOf H nm = some p ∧ T.getLast? = some p.E.text ∧ ∀ j, p.L.safe ≤ j → j ≤ p.L.recs.length → play (p.L.recs.take j) ∈ T
theorem Kept.start {H : List PageS} (h : HouseWell H) {nm : List UInt8} (h0 : (doF H (deedD 5 0 nm [])).1.2 = 0) :
    ∃ s, (doF (doF H (deedD 5 0 nm [])).2 (textD nm)).1 = (s, 0) ∧ Kept (doF H (deedD 5 0 nm [])).2 nm [s] := by
  cases ho : pgOf H nm with
  | none =>
    obtain ⟨_, h2, _⟩ := h.no (deedD 5 0 nm []) ho ⟨by simp [textD, deedD], by simp [textD, deedD]⟩
    exact absurd h0 h2
  | some p =>
    obtain ⟨hok, hsy, hpn, _⟩ := h.pg ho
    obtain ⟨a1, b1⟩ := h.turn (deedD 5 0 nm []) ho ⟨by simp [textD, deedD], by simp [textD, deedD], by simp [textD, deedD]⟩
    have b1' : pgOf (doF H (deedD 5 0 nm [])).2 nm = some ⟨p.name, p.E, lfSave p.L⟩ := b1
    refine ⟨p.E.text, (by have := text_some (h.doF (deedD 5 0 nm [])) b1'; exact this), ⟨p.name, p.E, lfSave p.L⟩, b1', rfl, fun j hj1 hj2 => ?_⟩
    simp only [lfSave] at hj1 hj2 ⊢
    have hj : j = p.L.recs.length := by omega
    subst hj
    rw [List.take_length, ← hok.leaf.play]
    unfold Sync at hsy
    rw [hsy]; simp
theorem Kept.own {H : List PageS} (h : HouseWell H) {nm : List UInt8} {p : PageS} (ho : pgOf H nm = some p) (d : Dd) (hk : d.kind ≠ 6 ∧ d.kind ≠ 7 ∧ d.kind ≠ 9) :
    ∃ p', pgOf (doF H d).2 nm = some p' ∧ LfGrow p.L p'.L := by
  by_cases hn : d.name = nm
  · subst hn
    obtain ⟨_, h2⟩ := doF_own h.named d
    rw [h2, ho]
    unfold stepO
    by_cases h1 : d.kind < 1 ∨ 10 < d.kind
    · rw [if_pos h1]; exact ⟨p, rfl, .refl _⟩
    rw [if_neg h1]
    by_cases h2 : nameE d.name ≠ 0
    · rw [if_pos h2]; exact ⟨p, rfl, .refl _⟩
    rw [if_neg h2]
    simp only
    by_cases h3 : d.kind = 1
    · rw [if_pos h3]; exact ⟨p, rfl, .refl _⟩
    rw [if_neg h3, if_neg hk.2.2]
    exact ⟨_, rfl, doPg_grow (h.pg ho).1 d ⟨hk.1, hk.2.1⟩⟩
  · exact ⟨p, by rw [doF_other h.named d nm hn]; exact ho, .refl _⟩
theorem Kept.step {H : List PageS} (h : HouseWell H) {nm : List UInt8} {T : List (List UInt8)} (hT : Kept H nm T) (d : Dd) (hk : d.kind ≠ 6 ∧ d.kind ≠ 7 ∧ d.kind ≠ 9) :
    ∃ s, (doF (doF H d).2 (textD nm)).1 = (s, 0) ∧ Kept (doF H d).2 nm (T ++ [s]) := by
  obtain ⟨p, ho, hl, hj⟩ := hT
  obtain ⟨p', ho', hg1, hg2⟩ := Kept.own h ho d hk
  have w' := h.doF d
  obtain ⟨hok, hsy, hpn, _⟩ := w'.pg ho'
  refine ⟨p'.E.text, text_some w' ho', p', ho', by simp, fun j hj1 hj2 => ?_⟩
  by_cases hlast : j = p'.L.recs.length
  · subst hlast
    rw [List.take_length, ← hok.leaf.play]
    unfold Sync at hsy
    rw [hsy]; simp
  · rcases hg2 with hg2 | ⟨r, hg2⟩
    · rw [hg2] at hj2 hlast ⊢
      exact List.mem_append_left _ (hj j (by omega) hj2)
    · rw [hg2] at hj2 hlast ⊢
      simp at hj2 hlast
      rw [List.take_append_of_le_length (by omega)]
      exact List.mem_append_left _ (hj j (by omega) (by omega))
theorem Kept.crash {H : List PageS} (h : HouseWell H) {nm : List UInt8} {T : List (List UInt8)} (hT : Kept H nm T) (keep : Int) (H1 : List PageS) (r1 : List UInt8 × Int) (e1 : doF H (deedD 7 keep nm []) = (r1, H1)) :
    ∃ s, (doF H1 (textD nm)).1 = (s, 0) ∧ ((r1.2 ≠ 0 ∧ T.getLast? = some s) ∨ (r1.2 = 0 ∧ s ∈ T ∧ (doF H1 (deedD 3 0 nm [])).1.2 = 4)) := by
  obtain ⟨p, ho, hl, hj⟩ := hT
  obtain ⟨hok, hsy, hpn, _⟩ := h.pg ho
  by_cases hr : r1.2 = 0
  · have w1 : HouseWell H1 := by have := h.doF (deedD 7 keep nm []); rwa [e1] at this
    obtain ⟨a1, b1⟩ := h.turn (deedD 7 keep nm []) ho ⟨by simp [textD, deedD], by simp [textD, deedD], by simp [textD, deedD]⟩
    rw [e1] at a1 b1
    have d1 : doPg p (deedD 7 keep nm []) = mkPg p.name (pgCrash p.E p.L keep) := rfl
    rw [d1] at a1 b1
    have z1 : (pgCrash p.E p.L keep).1 = 0 := by have a1' : r1 = _ := a1; rw [← hr, a1']; rfl
    have hc : crE (diskOf p.L.recs) p.L.sb keep = 0 := by
      unfold pgCrash lfCrash at z1
      by_cases hc : crE (diskOf p.L.recs) p.L.sb keep = 0
      · exact hc
      · rw [if_neg hc] at z1; exact absurd z1 (by simp)
    generalize hJ : fitJ p.L.recs (p.L.sb + keep.toNat) = J at *
    have hm : pgCrash p.E p.L keep = (0, ⟨play (p.L.recs.take J), [], []⟩, ⟨play (p.L.recs.take J), p.L.recs.take J, J⟩) := by
      unfold pgCrash lfCrash
      rw [if_pos hc, hJ]
      rfl
    rw [hm] at b1
    have b1' : pgOf H1 nm = some ⟨p.name, ⟨play (p.L.recs.take J), [], []⟩, ⟨play (p.L.recs.take J), p.L.recs.take J, J⟩⟩ := b1
    refine ⟨_, text_some w1 b1', .inr ⟨hr, ?_, ?_⟩⟩
    · refine hj J ?_ (by rw [← hJ]; exact fitJ_le _ _)
      rw [← hJ]
      exact fitJ_ge p.L.recs p.L.safe _ hok.leaf.safe (by unfold LfS.sb; omega)
    · rw [(w1.turn (deedD 3 0 nm []) b1' ⟨by simp [textD, deedD], by simp [textD, deedD], by simp [textD, deedD]⟩).1]
      rfl
  · have hH : H1 = H := by
      have := doF_no h.sync (deedD 7 keep nm []) (by rw [e1]; exact hr)
      rwa [e1] at this
    rw [hH]
    exact ⟨_, text_some h ho, .inl ⟨hr, hl⟩⟩
end Go.Proofs.YtclebkgfogienaaDoor
