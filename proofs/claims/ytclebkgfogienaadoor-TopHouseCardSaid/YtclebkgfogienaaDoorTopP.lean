/- A text of a house, and an editor of its own: whatever is done comes to the same. -/
import Derived.Test.YtclebkgfogienaaDoorStepsP
namespace Go.Proofs.YtclebkgfogienaaDoor
set_option linter.unusedSimpArgs false
set_option linter.unusedVariables false

/-- what the editor of its own makes of a deed -/
def topE (E : EdS) (d : Dd) : Int × EdS := if d.kind = 2 then doEd E d.edits else if d.kind = 3 then undoEd E else redoEd E
def Mated (H : List PageS) (nm : List UInt8) (E : EdS) : Prop := ∃ p, pgOf H nm = some p ∧ p.E = E
theorem appE_two {d r : List UInt8} (hr : r.length ≤ 1100) (h : appE d r ≠ 0) : appE d r = 11 := by
  rcases appE_zero_or (d := d) hr with h1 | h1
  · exact absurd h1 h
  · exact h1
theorem pgEdit_mate {E : EdS} {L : LfS} (h : PgOk E L) (hs : Sync E L) (l : List Ed) : (pgEdit E L l).1 = 11 ∨ ((pgEdit E L l).1 = 0 ↔ (doEd E l).1 = 0) ∧ (pgEdit E L l).2.1 = (doEd E l).2 := by
  unfold pgEdit
  by_cases hl : l = []
  · right
    rw [if_pos hl]
    unfold doEd
    by_cases ha : (apply E.text l).2 ≠ 0
    · rw [if_pos ha]
      refine ⟨⟨fun h => absurd h (by simp), fun h => absurd h ha⟩, rfl⟩
    · rw [if_neg ha, if_pos hl]
      exact ⟨Iff.rfl, rfl⟩
  rw [if_neg hl]
  by_cases hc : (lfEdit L l).1 = 0
  · right
    rw [if_pos hc]
    have := doEd_sync0 hs hl hc
    exact ⟨Iff.rfl, rfl⟩
  · rw [if_neg hc]
    unfold lfEdit at hc ⊢
    by_cases ha : (apply L.text l).2 = 0
    · rw [if_pos ha] at hc ⊢
      left
      unfold lfAdd at hc ⊢
      by_cases hp : appE (diskOf L.recs) (Rec.enc (.e l)) = 0
      · rw [if_pos hp] at hc; exact absurd rfl hc
      · rw [if_neg hp]
        exact appE_two (enc_len (r := .e l) (apply_small ha)) hp
    · rw [if_neg ha] at hc ⊢
      right
      unfold Sync at hs
      unfold doEd
      rw [hs, if_pos ha]
      exact ⟨Iff.rfl, rfl⟩
theorem pgStep_mate {E : EdS} {L : LfS} (h : PgOk E L) (b : Bool) : (pgStep E L b).1 = 11 ∨ ((pgStep E L b).1 = 0 ↔ (if b then undoEd E else redoEd E).1 = 0) ∧ (pgStep E L b).2.1 = (if b then undoEd E else redoEd E).2 := by
  have h1 : EdOk (if b then undoEd E else redoEd E).2 := by cases b <;> simp [undoEd_ok h.ed]
  unfold pgStep
  simp only
  generalize hr : (if b then undoEd E else redoEd E) = r at *
  by_cases h0 : r.1 = 0
  · rw [if_pos h0]
    rcases lfSet_err (L := L) h1.text with hq | hq
    · rw [if_pos hq]
      right
      simp [h0]
    · rw [if_neg (by rw [hq]; decide)]
      left
      exact hq
  · rw [if_neg h0]
    right
    exact ⟨Iff.rfl, rfl⟩
theorem top_step {H : List PageS} (h : HouseWell H) {nm : List UInt8} {E : EdS} (hM : Mated H nm E) (d : Dd) (hn : d.name = nm) (hk : d.kind = 2 ∨ d.kind = 3 ∨ d.kind = 4) :
    ((doF H d).1.2 = 11 ∧ Mated (doF H d).2 nm E) ∨ ((doF H d).1.2 ≠ 11 ∧ ((doF H d).1.2 = 0 ↔ (topE E d).1 = 0) ∧ Mated (doF H d).2 nm (topE E d).2) := by
  subst hn
  obtain ⟨p, ho, rfl⟩ := hM
  obtain ⟨hok, hsy, hpn, _⟩ := h.pg ho
  obtain ⟨a1, b1⟩ := h.turn d ho ⟨by omega, by omega, by omega⟩
  by_cases h11 : (doF H d).1.2 = 11
  · left
    refine ⟨h11, p, ?_, rfl⟩
    rw [doF_no h.sync d (by rw [h11]; decide)]
    exact ho
  · right
    refine ⟨h11, ?_⟩
    rw [a1] at h11 ⊢
    have key : ((doPg p d).1.2 = 0 ↔ (topE p.E d).1 = 0) ∧ (doPg p d).2.E = (topE p.E d).2 := by
      unfold doPg topE at *
      rcases hk with hk | hk | hk
      · rw [if_pos hk] at h11 ⊢
        rw [if_pos hk]
        rcases pgEdit_mate hok hsy d.edits with h1 | h1
        · exact absurd h1 h11
        · exact h1
      · rw [if_neg (by omega), if_pos hk] at h11 ⊢
        rw [if_neg (by omega), if_pos hk]
        rcases pgStep_mate hok true with h1 | h1
        · exact absurd h1 h11
        · simp only [if_true] at h1
          exact h1
      · rw [if_neg (by omega), if_neg (by omega), if_pos hk] at h11 ⊢
        rw [if_neg (by omega), if_neg (by omega)]
        rcases pgStep_mate hok false with h1 | h1
        · exact absurd h1 h11
        · simp only [Bool.false_eq_true, if_false] at h1
          exact h1
    exact ⟨key.1, _, b1, key.2⟩
/-- what is saved, or packed, is there behind a crash -/
theorem top_end {H : List PageS} (h : HouseWell H) {nm : List UInt8} {E : EdS} (hM : Mated H nm E) (k : Int) (hk : k = 5 ∨ k = 6) (H1 H2 : List PageS) (r1 r2 : List UInt8 × Int) (e1 : doF H (deedD k 0 nm []) = (r1, H1)) (e2 : doF H1 (deedD 7 0 nm []) = (r2, H2)) :
    (doF H (textD nm)).1 = (E.text, 0) ∧ r1.2 = 0 ∧ r2.2 = 0 ∧ (doF H2 (textD nm)).1 = (E.text, 0) := by
  obtain ⟨p, ho, rfl⟩ := hM
  obtain ⟨hok, hsy, hpn, _⟩ := h.pg ho
  have w1 : HouseWell H1 := by have := h.doF (deedD k 0 nm []); rwa [e1] at this
  have w2 : HouseWell H2 := by have := w1.doF (deedD 7 0 nm []); rwa [e2] at this
  obtain ⟨a1, b1⟩ := h.turn (deedD k 0 nm []) ho ⟨by rcases hk with rfl | rfl <;> simp [deedD], by rcases hk with rfl | rfl <;> simp [deedD], by rcases hk with rfl | rfl <;> simp [deedD]⟩
  rw [e1] at a1 b1
  have hL : ∃ L', doPg p (deedD k 0 nm []) = (([], 0), ⟨p.name, p.E, L'⟩) ∧ L'.safe = L'.recs.length ∧ play L'.recs = p.E.text := by
    rcases hk with rfl | rfl
    · refine ⟨lfSave p.L, rfl, rfl, ?_⟩
      show play p.L.recs = _
      rw [← hok.leaf.play]; exact hsy.symm
    · refine ⟨⟨p.L.text, [.b p.L.text], 1⟩, rfl, rfl, ?_⟩
      show play [.b p.L.text] = _
      exact hsy.symm
  obtain ⟨L', m1, hs, hp⟩ := hL
  rw [m1] at a1 b1
  have b1' : pgOf H1 nm = some ⟨p.name, p.E, L'⟩ := b1
  obtain ⟨a2, b2⟩ := w1.turn (deedD 7 0 nm []) b1' ⟨by simp [textD, deedD], by simp [textD, deedD], by simp [textD, deedD]⟩
  rw [e2] at a2 b2
  have hsb : L'.sb = (diskOf L'.recs).length := by unfold LfS.sb; rw [hs, List.take_length]
  have hc : crE (diskOf L'.recs) L'.sb 0 = 0 := by unfold crE; rw [if_neg (by rw [hsb]; omega)]
  have hJ : fitJ L'.recs (L'.sb + (0 : Int).toNat) = L'.recs.length := fitJ_all _ _ (by rw [hsb]; simp)
  have m2 : doPg ⟨p.name, p.E, L'⟩ (deedD 7 0 nm []) = (([], 0), ⟨p.name, ⟨p.E.text, [], []⟩, ⟨p.E.text, L'.recs, L'.recs.length⟩⟩) := by
    show mkPg p.name (pgCrash p.E L' 0) = _
    unfold pgCrash lfCrash
    rw [if_pos hc, hJ, List.take_length, hp]
    rfl
  rw [m2] at a2 b2
  have b2' : pgOf H2 nm = some ⟨p.name, ⟨p.E.text, [], []⟩, ⟨p.E.text, L'.recs, L'.recs.length⟩⟩ := b2
  refine ⟨text_some h ho, ?_, ?_, (by have := text_some w2 b2'; exact this)⟩
  · have : r1 = ([], 0) := a1
    rw [this]
  · have : r2 = ([], 0) := a2
    rw [this]
def oneN : List UInt8 := [111, 110, 101]
theorem top_begin (s : List UInt8) : (doF [] (deedD 1 0 oneN s)).1 = ([], if 200 < s.length then 2 else 0) ∧ (s.length ≤ 200 → Mated (doF [] (deedD 1 0 oneN s)).2 oneN ⟨s, [], []⟩) := by
  have hn : nameE oneN = 0 := by decide
  by_cases h : 200 < s.length
  · have e : doF [] (deedD 1 0 oneN s) = (([], 2), []) := by
      unfold doF
      simp only [deedD]
      rw [if_neg (by decide), if_neg (by rw [hn]; simp)]
      simp [idxF, beginF, h]
    rw [e, if_pos h]
    exact ⟨rfl, fun h2 => by omega⟩
  · have e : doF [] (deedD 1 0 oneN s) = (([], 0), [newPage (deedD 1 0 oneN s)]) := by
      unfold doF
      simp only [deedD]
      rw [if_neg (by decide), if_neg (by rw [hn]; simp)]
      simp [idxF, beginF, h]
    rw [e, if_neg h]
    refine ⟨rfl, fun _ => ⟨newPage (deedD 1 0 oneN s), ?_, rfl⟩⟩
    simp [pgOf, newPage, deedD]
end Go.Proofs.YtclebkgfogienaaDoor
