/- Plain words on a leaf: its records, its disk, what a scan of a torn disk tells. No program in sight. -/
import Derived.Test.YtclebkgfogienaaDoorLog
import Derived.Test.YtclebkgfogienaaDoorEdit
import Derived.Test.YtclebkgfogienaaDoorScriptP
namespace Go.Proofs.YtclebkgfogienaaDoor
set_option linter.unusedSimpArgs false
set_option linter.unusedVariables false

inductive Rec where
  | b (s : List UInt8)
  | e (l : List Ed)
def Rec.enc : Rec → List UInt8
  | .b s => 98 :: s
  | .e l => 101 :: wrL l
def Rec.ok : Rec → Prop
  | .b s => s.length ≤ 200
  | .e l => l.length ≤ 20 ∧ Small l
def diskOf (R : List Rec) : List UInt8 := R.flatMap fun r => frame r.enc
def play1 (s : List UInt8) : Rec → List UInt8
  | .b t => t
  | .e l => (apply s l).1
def play (R : List Rec) : List UInt8 := R.foldl play1 []

theorem enc_len {r : Rec} (h : r.ok) : r.enc.length ≤ 1100 := by
  cases r with
  | b s => simp [Rec.ok] at h; simp [Rec.enc]; omega
  | e l =>
    obtain ⟨h1, h2⟩ := h
    have := wrL_length l h2
    simp [Rec.enc]; omega
theorem diskOf_cons (r : Rec) (R : List Rec) : diskOf (r :: R) = frame r.enc ++ diskOf R := rfl
theorem diskOf_append (R S : List Rec) : diskOf (R ++ S) = diskOf R ++ diskOf S := by simp [diskOf]
theorem diskOf_length (R : List Rec) : (diskOf R).length = used (R.map Rec.enc) := by
  induction R with
  | nil => rfl
  | cons r R ih => rw [diskOf_cons, List.length_append, ih, frame_length]; simp [used]

theorem recs_len (R : List Rec) : R.length ≤ (diskOf R).length := by
  induction R with
  | nil => simp
  | cons r R ih => rw [diskOf_cons, List.length_append, frame_length]; simp; omega
theorem hd2_frame (x : List UInt8) (rest : List UInt8) (hx : x.length ≤ 1100) (n : Nat) (hn : 2 ≤ n) : hd2 ((frame x ++ rest).take n) = x.length := by
  obtain ⟨m, rfl⟩ : ∃ m, n = m + 2 := ⟨n - 2, by omega⟩
  simp [hd2, frame, headF]
  omega
theorem sumR_frame (x : List UInt8) : sumR (frame x) = true := by
  have h1 : (frame x).length - 4 = (headF x).length := by simp [frame, sumB]
  unfold sumR
  rw [h1]
  simp [frame, sumB]
theorem okF_frame (x rest : List UInt8) (hx : x.length ≤ 1100) : okF (frame x ++ rest) = true := by
  have h := hd2_frame x rest hx (frame x ++ rest).length (by simp [frame_length]; omega)
  rw [List.take_length] at h
  have h2 : (frame x ++ rest).take (x.length + 6) = frame x := by rw [← frame_length x, List.take_left]
  unfold okF
  rw [h, h2, sumR_frame]
  simp [frame_length, hx]
  omega
theorem okF_torn (x rest : List UInt8) (hx : x.length ≤ 1100) (n : Nat) (hn : n < x.length + 6) : okF ((frame x ++ rest).take n) = false := by
  by_cases h6 : n < 6
  · unfold okF
    have : ¬ 6 ≤ ((frame x ++ rest).take n).length := by simp; omega
    rw [decide_eq_false this]
    rfl
  · have h := hd2_frame x rest hx n (by omega)
    unfold okF
    rw [h]
    have : ¬ x.length + 6 ≤ ((frame x ++ rest).take n).length := by simp; omega
    rw [decide_eq_false this]
    simp
theorem frame_rec (x rest : List UInt8) : ((frame x ++ rest).drop 2).take x.length = x := by simp [frame, headF]
theorem frame_rest (x rest : List UInt8) : (frame x ++ rest).drop (x.length + 6) = rest := by rw [← frame_length x, List.drop_left]

/-- how many records lie whole in the first n bytes -/
def fitJ : List Rec → Nat → Nat
  | [], _ => 0
  | r :: R, n => if r.enc.length + 6 ≤ n then fitJ R (n - (r.enc.length + 6)) + 1 else 0
theorem fitJ_le : ∀ (R : List Rec) (n : Nat), fitJ R n ≤ R.length
  | [], _ => by simp [fitJ]
  | r :: R, n => by
    unfold fitJ
    split
    · have := fitJ_le R (n - (r.enc.length + 6)); simp; omega
    · simp

theorem scan_take : ∀ (R : List Rec) (n f : Nat), (∀ r ∈ R, r.ok) → n ≤ f → scan f ((diskOf R).take n) = (R.take (fitJ R n)).map Rec.enc
  | [], n, f, _, _ => by
    have h : okF ((diskOf []).take n) = false := by simp [diskOf, okF]
    rw [scan_stop h]; simp
  | r :: R, n, f, h, hf => by
    have hx := enc_len (h r (by simp))
    rw [diskOf_cons]
    by_cases hn : r.enc.length + 6 ≤ n
    · obtain ⟨m, rfl⟩ : ∃ m, n = (frame r.enc).length + m := ⟨n - (frame r.enc).length, by rw [frame_length]; omega⟩
      obtain ⟨f', rfl⟩ : ∃ f', f = f' + 1 := ⟨f - 1, by rw [frame_length] at hf; omega⟩
      have e : (frame r.enc ++ diskOf R).take ((frame r.enc).length + m) = frame r.enc ++ (diskOf R).take m := by rw [List.take_length_add_append]
      have hh : hd2 (frame r.enc ++ (diskOf R).take m) = r.enc.length := by
        have := hd2_frame r.enc ((diskOf R).take m) hx (frame r.enc ++ (diskOf R).take m).length (by simp [frame_length]; omega)
        rwa [List.take_length] at this
      rw [e, scan, okF_frame _ _ hx, if_pos rfl, hh, frame_rec, frame_rest]
      rw [frame_length] at hf ⊢
      have hf2 : m ≤ f' := by omega
      rw [scan_take R m f' (fun x hx => h x (by simp [hx])) hf2, fitJ, if_pos (by omega), show r.enc.length + 6 + m - (r.enc.length + 6) = m by omega]
      simp
    · rw [scan_stop (okF_torn _ _ hx n (by omega)), fitJ, if_neg hn]
      simp

theorem fitJ_all : ∀ (R : List Rec) (n : Nat), (diskOf R).length ≤ n → fitJ R n = R.length
  | [], _, _ => rfl
  | r :: R, n, h => by
    rw [diskOf_cons, List.length_append, frame_length] at h
    rw [fitJ, if_pos (by omega), fitJ_all R _ (by omega)]
    simp
theorem fitJ_ge : ∀ (R : List Rec) (k n : Nat), k ≤ R.length → (diskOf (R.take k)).length ≤ n → k ≤ fitJ R n
  | _, 0, _, _, _ => by omega
  | [], k + 1, _, h, _ => by simp at h
  | r :: R, k + 1, n, hk, h => by
    rw [List.take_succ_cons, diskOf_cons, List.length_append, frame_length] at h
    rw [fitJ, if_pos (by omega)]
    have := fitJ_ge R k (n - (r.enc.length + 6)) (by simpa using hk) (by omega)
    omega
theorem scan_all (R : List Rec) (h : ∀ r ∈ R, r.ok) : scan (diskOf R).length (diskOf R) = R.map Rec.enc := by
  have := scan_take R (diskOf R).length (diskOf R).length h (Nat.le_refl _)
  rw [List.take_length, fitJ_all R _ (Nat.le_refl _), List.take_length] at this
  exact this
theorem disk_take (R : List Rec) (j : Nat) : (diskOf R).take (used ((R.take j).map Rec.enc)) = diskOf (R.take j) := by
  rw [← diskOf_length]
  have e : diskOf R = diskOf (R.take j) ++ diskOf (R.drop j) := by rw [← diskOf_append, List.take_append_drop]
  rw [e, List.take_left]

/-- by how much a row of edits lengthens a text -/
def grows : List Ed → Int
  | [] => 0
  | x :: r => x.ins.length - x.del + grows r
theorem eChk_size (n : Int) : ∀ (l : List Ed) (f : Bool) (e size : Int), eChk n f e size l = 0 → size + grows l ≤ 200
  | [], _, _, size, h => by
    simp only [eChk] at h
    by_cases h1 : 200 < size
    · rw [if_pos h1] at h; exact absurd h (by decide)
    · simp [grows]; omega
  | x :: r, f, e, size, h => by
    simp only [eChk] at h
    by_cases h1 : x.pos < 0 ∨ x.del < 0 ∨ n < x.pos ∨ n - x.pos < x.del
    · rw [if_pos h1] at h; exact absurd h (by decide)
    rw [if_neg h1] at h
    by_cases h2 : 40 < x.ins.length
    · rw [if_pos h2] at h; exact absurd h (by decide)
    rw [if_neg h2] at h
    by_cases h3 : x.del = 0 ∧ x.ins = []
    · rw [if_pos h3] at h; exact absurd h (by decide)
    rw [if_neg h3] at h
    by_cases h4 : f = true ∧ x.pos ≤ e
    · rw [if_pos h4] at h; exact absurd h (by decide)
    rw [if_neg h4] at h
    have := eChk_size n r true _ _ h
    simp only [grows]
    omega
theorem applyL_len (s : List UInt8) : ∀ (l : List Ed) (k : Nat), k ≤ s.length → Fits s.length k l → ((applyL s k l).length : Int) = s.length - k + grows l
  | [], k, hk, _ => by simp [applyL, grows]; omega
  | x :: r, k, hk, h => by
    obtain ⟨h1, h2, h3, h4, h5⟩ := h
    have e1 : (((x.pos + x.del).toNat : Nat) : Int) = x.pos + x.del := by omega
    have ih := applyL_len s r (x.pos + x.del).toNat (by omega) (by rw [e1]; exact h5)
    simp only [applyL, grows, List.length_append, List.length_take, List.length_drop]
    rw [e1] at ih
    omega
theorem apply_len (s : List UInt8) (l : List Ed) : (apply s l).1.length ≤ 200 := by
  unfold apply
  by_cases h : chk s.length l = 0
  · rw [if_pos h]
    obtain ⟨hF, h20, h0, h200⟩ := fits_of_chk h
    have h2 := applyL_len s l 0 (by omega) hF
    unfold chk at h
    rw [if_neg (by omega), if_neg (by omega)] at h
    have h3 := eChk_size _ l _ _ _ h
    simp only at h2 ⊢
    omega
  · rw [if_neg h]; simp
theorem apply_small {s : List UInt8} {l : List Ed} (h : (apply s l).2 = 0) : l.length ≤ 20 ∧ Small l := by
  have hk : chk s.length l = 0 := by
    unfold apply at h
    by_cases h' : chk s.length l = 0
    · exact h'
    · rw [if_neg h'] at h; exact absurd h h'
  obtain ⟨hF, h20, h0, h200⟩ := fits_of_chk hk
  refine ⟨h20, ?_⟩
  have : ∀ (l : List Ed) (k : Int), 0 ≤ k → Fits s.length k l → Small l := by
    intro l
    induction l with
    | nil => intro _ _ _; simp [Small]
    | cons x r ih =>
      intro k hk ⟨h1, h2, h3, h4, h5⟩
      intro y hy
      rcases List.mem_cons.1 hy with rfl | hy
      · omega
      · exact ih (x.pos + x.del) (by omega) h5 y hy
  exact this l 0 (by omega) hF
theorem play1_len (s : List UInt8) (r : Rec) (h : r.ok) : (play1 s r).length ≤ 200 := by
  cases r with
  | b t => exact h
  | e l => exact apply_len s l
theorem play_snoc (R : List Rec) (r : Rec) : play (R ++ [r]) = play1 (play R) r := by simp [play]
theorem play_len (R : List Rec) (h : ∀ r ∈ R, r.ok) : (play R).length ≤ 200 := by
  rcases List.eq_nil_or_concat R with rfl | ⟨R', r, rfl⟩
  · simp [play]
  · rw [List.concat_eq_append] at h ⊢
    rw [play_snoc]
    exact play1_len _ _ (h r (by simp))

structure LfS where
  text : List UInt8
  recs : List Rec
  safe : Nat
def LfS.sb (L : LfS) : Nat := (diskOf (L.recs.take L.safe)).length
structure LfOk (L : LfS) : Prop where
  recs : ∀ r ∈ L.recs, r.ok
  disk : (diskOf L.recs).length ≤ 4000
  safe : L.safe ≤ L.recs.length
  text : L.text.length ≤ 200
  play : L.text = play L.recs
  one : 1 ≤ L.safe

def lfAdd (L : LfS) (r : Rec) (t : List UInt8) : Int × LfS :=
  if appE (diskOf L.recs) r.enc = 0 then (0, ⟨t, L.recs ++ [r], L.safe⟩) else (appE (diskOf L.recs) r.enc, L)
def lfEdit (L : LfS) (l : List Ed) : Int × LfS :=
  if (apply L.text l).2 = 0 then lfAdd L (.e l) (apply L.text l).1 else ((apply L.text l).2, L)
def lfSet (L : LfS) (s : List UInt8) : Int × LfS := if 200 < s.length then (2, L) else lfAdd L (.b s) s
def lfSave (L : LfS) : LfS := ⟨L.text, L.recs, L.recs.length⟩
def lfCrash (L : LfS) (keep : Int) : Int × LfS :=
  if crE (diskOf L.recs) L.sb keep = 0 then (0, ⟨play (L.recs.take (fitJ L.recs (L.sb + keep.toNat))), L.recs.take (fitJ L.recs (L.sb + keep.toNat)), fitJ L.recs (L.sb + keep.toNat)⟩) else (1, L)
def lfPack (L : LfS) (stop : Int) : Int × LfS :=
  if stop < 0 ∨ 3 < stop then (1, L) else if stop = 1 ∨ stop = 2 then (0, (lfCrash L 0).2) else (0, ⟨L.text, [.b L.text], 1⟩)

theorem LfOk.sb {L : LfS} (h : LfOk L) : L.sb ≤ (diskOf L.recs).length := by
  unfold LfS.sb
  have e : diskOf L.recs = diskOf (L.recs.take L.safe) ++ diskOf (L.recs.drop L.safe) := by rw [← diskOf_append, List.take_append_drop]
  rw [e, List.length_append]; omega
theorem lfNew_ok {s : List UInt8} (h : s.length ≤ 200) : LfOk ⟨s, [.b s], 1⟩ := by
  refine ⟨by simpa [Rec.ok] using h, by simp [diskOf, frame_length, Rec.enc]; omega, by simp, h, rfl, by simp⟩
theorem lfAdd_ok {L : LfS} (h : LfOk L) (r : Rec) (hr : r.ok) : LfOk (lfAdd L r (play1 L.text r)).2 := by
  unfold lfAdd
  by_cases ha : appE (diskOf L.recs) r.enc = 0
  · rw [if_pos ha]
    refine ⟨?_, ?_, ?_, play1_len _ _ hr, ?_, h.one⟩
    · intro x hx
      rcases List.mem_append.1 hx with hx | hx
      · exact h.recs x hx
      · simp at hx; exact hx ▸ hr
    · unfold appE at ha
      have : ¬ 4000 < (diskOf L.recs).length + (r.enc.length + 6) := by
        intro hlt
        rw [if_neg (by have := enc_len hr; omega), if_pos hlt] at ha
        exact absurd ha (by decide)
      rw [diskOf_append, List.length_append]
      simp only [diskOf, List.flatMap_cons, List.flatMap_nil, List.append_nil, frame_length] at *
      omega
    · have := h.safe; simp; omega
    · rw [play_snoc, ← h.play]
  · rw [if_neg ha]; exact h
theorem lfEdit_ok {L : LfS} (h : LfOk L) (l : List Ed) : LfOk (lfEdit L l).2 := by
  unfold lfEdit
  by_cases ha : (apply L.text l).2 = 0
  · rw [if_pos ha]; exact lfAdd_ok h (.e l) (apply_small ha)
  · rw [if_neg ha]; exact h
theorem lfSet_ok {L : LfS} (h : LfOk L) (s : List UInt8) : LfOk (lfSet L s).2 := by
  unfold lfSet
  by_cases ha : 200 < s.length
  · rw [if_pos ha]; exact h
  · rw [if_neg ha]; exact lfAdd_ok h (.b s) (by simp [Rec.ok]; omega)
theorem lfSave_ok {L : LfS} (h : LfOk L) : LfOk (lfSave L) :=
  ⟨h.recs, h.disk, Nat.le_refl _, h.text, h.play, Nat.le_trans h.one h.safe⟩
theorem lfCrash_ok {L : LfS} (h : LfOk L) (keep : Int) : LfOk (lfCrash L keep).2 := by
  unfold lfCrash
  by_cases ha : crE (diskOf L.recs) L.sb keep = 0
  · rw [if_pos ha]
    have hj := fitJ_le L.recs (L.sb + keep.toNat)
    have hr : ∀ r ∈ L.recs.take (fitJ L.recs (L.sb + keep.toNat)), r.ok := fun r hr => h.recs r (List.mem_of_mem_take hr)
    refine ⟨hr, ?_, by simp; omega, play_len _ hr, rfl, ?_⟩
    · have e : diskOf L.recs = diskOf (L.recs.take (fitJ L.recs (L.sb + keep.toNat))) ++ diskOf (L.recs.drop (fitJ L.recs (L.sb + keep.toNat))) := by rw [← diskOf_append, List.take_append_drop]
      have := h.disk
      rw [e, List.length_append] at this
      simp only
      omega
    · have := fitJ_ge L.recs L.safe (L.sb + keep.toNat) h.safe (by unfold LfS.sb; omega)
      have := h.one
      simp only
      omega
  · rw [if_neg ha]; exact h
theorem lfPack_ok {L : LfS} (h : LfOk L) (stop : Int) : LfOk (lfPack L stop).2 := by
  unfold lfPack
  by_cases h1 : stop < 0 ∨ 3 < stop
  · rw [if_pos h1]; exact h
  · rw [if_neg h1]
    by_cases h2 : stop = 1 ∨ stop = 2
    · rw [if_pos h2]; exact lfCrash_ok h 0
    · rw [if_neg h2]; exact lfNew_ok h.text
end Go.Proofs.YtclebkgfogienaaDoor
