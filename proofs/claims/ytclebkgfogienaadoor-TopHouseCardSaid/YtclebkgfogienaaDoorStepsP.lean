/- What is made of a text is undone, and redone. -/
import Derived.Test.YtclebkgfogienaaDoorStep
namespace Go.Proofs.YtclebkgfogienaaDoor
set_option linter.unusedSimpArgs false
set_option linter.unusedVariables false

theorem last_back (l : List (List UInt8)) (t : List UInt8) (c : Prop) [Decidable c] : (if c then (l ++ [t]).tail else l ++ [t]).getLast? = some t ∨ (c ∧ l = []) := by
  split
  · rename_i hc
    cases l with
    | nil => exact .inr ⟨hc, rfl⟩
    | cons a l => exact .inl (by simp)
  · exact .inl (by simp)
theorem pgMake_done {E : EdS} {L : LfS} {t : List UInt8} (h : Sync E L) (h0 : (pgMake E L t).1 = 0) : ∃ X L', pgMake E L t = (0, ⟨t, X, []⟩, L') ∧ X.getLast? = some E.text := by
  unfold pgMake at h0 ⊢
  simp only at h0 ⊢
  by_cases hm : (makeF E.text t).2 = 0
  · rw [if_pos hm] at h0 ⊢
    unfold pgEdit at h0 ⊢
    by_cases hl : (makeF E.text t).1 = []
    · rw [if_pos hl] at h0; exact absurd h0 (by simp)
    rw [if_neg hl] at h0 ⊢
    by_cases hc : (lfEdit L (makeF E.text t).1).1 = 0
    · rw [if_pos hc]
      obtain ⟨h1, _⟩ := lfEdit_ok0 hc
      unfold Sync at h
      rw [← h] at h1
      have ht := make_right E.text t hm h1
      unfold doEd
      rw [if_neg (by simpa using h1), if_neg hl, ht]
      refine ⟨_, _, rfl, ?_⟩
      rcases last_back E.back E.text (30 < E.back.length + 1) with h2 | ⟨h2, h3⟩
      · exact h2
      · rw [h3] at h2; simp at h2
    · rw [if_neg hc] at h0
      exact absurd h0 hc
  · rw [if_neg hm] at h0
    exact absurd h0 hm
theorem pgStep_undo {E : EdS} {L : LfS} {s : List UInt8} (hl : E.back.getLast? = some s) (hs : s.length ≤ 200) :
    (∃ L', pgStep E L true = (0, ⟨s, E.back.dropLast, E.onward ++ [E.text]⟩, L')) ∨ (pgStep E L true).1 = 11 := by
  have hu : undoEd E = (0, ⟨s, E.back.dropLast, E.onward ++ [E.text]⟩) := by unfold undoEd; rw [hl]
  have e : pgStep E L true = (if (lfSet L s).1 = 0 then (0, ⟨s, E.back.dropLast, E.onward ++ [E.text]⟩, (lfSet L s).2) else ((lfSet L s).1, (redoEd ⟨s, E.back.dropLast, E.onward ++ [E.text]⟩).2, (lfSet L s).2)) := by
    unfold pgStep; simp only [if_true, hu]
  rw [e]
  rcases lfSet_err (L := L) hs with h | h
  · rw [if_pos h]; exact .inl ⟨_, rfl⟩
  · rw [if_neg (by rw [h]; decide)]; exact .inr h
theorem pgStep_redo {E : EdS} {L : LfS} {s : List UInt8} (hl : E.onward.getLast? = some s) (hs : s.length ≤ 200) :
    (∃ L', pgStep E L false = (0, ⟨s, E.back ++ [E.text], E.onward.dropLast⟩, L')) ∨ (pgStep E L false).1 = 11 := by
  have hu : redoEd E = (0, ⟨s, E.back ++ [E.text], E.onward.dropLast⟩) := by unfold redoEd; rw [hl]
  have e : pgStep E L false = (if (lfSet L s).1 = 0 then (0, ⟨s, E.back ++ [E.text], E.onward.dropLast⟩, (lfSet L s).2) else ((lfSet L s).1, (undoEd ⟨s, E.back ++ [E.text], E.onward.dropLast⟩).2, (lfSet L s).2)) := by
    unfold pgStep; simp only [Bool.false_eq_true, if_false, if_true, hu]
  rw [e]
  rcases lfSet_err (L := L) hs with h | h
  · rw [if_pos h]; exact .inl ⟨_, rfl⟩
  · rw [if_neg (by rw [h]; decide)]; exact .inr h

theorem steps_law {H : List PageS} (h : HouseWell H) (nm tx : List UInt8) (H1 H2 H3 : List PageS) (r1 r2 r3 : List UInt8 × Int) (e1 : doF H (deedD 10 0 nm tx) = (r1, H1)) (e2 : doF H1 (deedD 3 0 nm []) = (r2, H2)) (e3 : doF H2 (deedD 4 0 nm []) = (r3, H3)) :
    (r1.2 ≠ 0 ∧ H1 = H) ∨
    (r1.2 = 0 ∧ (doF H (textD nm)).1.2 = 0 ∧ (doF H1 (textD nm)).1 = (tx, 0) ∧
      (r2.2 = 11 ∨ (r2.2 = 0 ∧ (doF H2 (textD nm)).1 = ((doF H (textD nm)).1.1, 0) ∧
        ((r3.2 = 0 ∧ (doF H3 (textD nm)).1 = (tx, 0)) ∨ (r3.2 = 11 ∧ (doF H3 (textD nm)).1 = ((doF H (textD nm)).1.1, 0)))))) := by
  by_cases hr : r1.2 = 0
  · refine .inr ⟨hr, ?_⟩
    have w1 : HouseWell H1 := by have := h.doF (deedD 10 0 nm tx); rwa [e1] at this
    have w2 : HouseWell H2 := by have := w1.doF (deedD 3 0 nm []); rwa [e2] at this
    have w3 : HouseWell H3 := by have := w2.doF (deedD 4 0 nm []); rwa [e3] at this
    cases ho : pgOf H nm with
    | none =>
      obtain ⟨_, h2, _⟩ := h.no (deedD 10 0 nm tx) ho ⟨by simp [textD, deedD], by simp [textD, deedD]⟩
      rw [e1] at h2
      exact absurd hr h2
    | some p =>
      obtain ⟨hok, hsy, hpn, _⟩ := h.pg ho
      have t0 := text_some h ho
      obtain ⟨a1, b1⟩ := h.turn (deedD 10 0 nm tx) ho ⟨by simp [textD, deedD], by simp [textD, deedD], by simp [textD, deedD]⟩
      rw [e1] at a1 b1
      have d1 : doPg p (deedD 10 0 nm tx) = mkPg p.name (pgMake p.E p.L tx) := rfl
      rw [d1] at a1 b1
      have z1 : (pgMake p.E p.L tx).1 = 0 := by have a1' : r1 = _ := a1; rw [← hr, a1']; rfl
      obtain ⟨X, L1, m1, hX⟩ := pgMake_done hsy z1
      rw [m1] at b1
      have b1' : pgOf H1 nm = some ⟨p.name, ⟨tx, X, []⟩, L1⟩ := b1
      have t1 := text_some w1 b1'
      rw [t0]
      refine ⟨rfl, t1, ?_⟩
      obtain ⟨a2, b2⟩ := w1.turn (deedD 3 0 nm []) b1' ⟨by simp [textD, deedD], by simp [textD, deedD], by simp [textD, deedD]⟩
      rw [e2] at a2 b2
      have d2 : doPg ⟨p.name, ⟨tx, X, []⟩, L1⟩ (deedD 3 0 nm []) = mkPg p.name (pgStep ⟨tx, X, []⟩ L1 true) := rfl
      rw [d2] at a2 b2
      rcases pgStep_undo (E := ⟨tx, X, []⟩) (L := L1) hX hok.text with ⟨L2, m2⟩ | m2
      · right
        rw [m2] at a2 b2
        have b2' : pgOf H2 nm = some ⟨p.name, ⟨p.E.text, X.dropLast, [tx]⟩, L2⟩ := b2
        have t2 := text_some w2 b2'
        have hr2 : r2.2 = 0 := by
          have : r2 = ([], 0) := a2
          rw [this]
        refine ⟨hr2, t2, ?_⟩
        obtain ⟨a3, b3⟩ := w2.turn (deedD 4 0 nm []) b2' ⟨by simp [textD, deedD], by simp [textD, deedD], by simp [textD, deedD]⟩
        rw [e3] at a3 b3
        have d3 : doPg ⟨p.name, ⟨p.E.text, X.dropLast, [tx]⟩, L2⟩ (deedD 4 0 nm []) = mkPg p.name (pgStep ⟨p.E.text, X.dropLast, [tx]⟩ L2 false) := rfl
        rw [d3] at a3 b3
        have htx : tx.length ≤ 200 := (w1.pg b1').1.text
        rcases pgStep_redo (E := ⟨p.E.text, X.dropLast, [tx]⟩) (L := L2) (s := tx) rfl htx with ⟨L3, m3⟩ | m3
        · left
          rw [m3] at a3 b3
          have b3' : pgOf H3 nm = some ⟨p.name, ⟨tx, X.dropLast ++ [p.E.text], []⟩, L3⟩ := b3
          refine ⟨?_, text_some w3 b3'⟩
          have : r3 = ([], 0) := a3
          rw [this]
        · right
          have hr3 : r3.2 = 11 := by
            have : r3 = ([], (pgStep ⟨p.E.text, X.dropLast, [tx]⟩ L2 false).1) := a3
            rw [this]; exact m3
          refine ⟨hr3, ?_⟩
          have hH3 : H3 = H2 := by
            have := doF_no w2.sync (deedD 4 0 nm []) (by rw [e3]; show r3.2 ≠ 0; rw [hr3]; decide)
            rwa [e3] at this
          rw [hH3]; exact t2
      · left
        have : r2 = ([], (pgStep ⟨tx, X, []⟩ L1 true).1) := a2
        rw [this]; exact m2
  · refine .inl ⟨hr, ?_⟩
    have := doF_no h.sync (deedD 10 0 nm tx) (by rw [e1]; exact hr)
    rwa [e1] at this
end Go.Proofs.YtclebkgfogienaaDoor
