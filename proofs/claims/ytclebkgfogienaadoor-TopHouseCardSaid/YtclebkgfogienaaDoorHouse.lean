/- House.Do as one contract; a house stays as it should be. -/
import Derived.Test.YtclebkgfogienaaDoorDo3
namespace Go.Proofs.YtclebkgfogienaaDoor
set_option linter.unusedSimpArgs false
set_option linter.unusedVariables false
open Go.RowKit

structure EdOk (E : EdS) : Prop where
  text : E.text.length ≤ 200
  steps : E.back.length + E.onward.length ≤ 30
  back : ∀ t ∈ E.back, t.length ≤ 200
  onward : ∀ t ∈ E.onward, t.length ≤ 200
theorem PgOk.ed {E : EdS} {L : LfS} (h : PgOk E L) : EdOk E := ⟨h.text, h.steps, h.each.1, h.each.2⟩
theorem EdOk.pg {E : EdS} {L : LfS} (h : EdOk E) (hL : LfOk L) : PgOk E L := ⟨h.text, h.steps, ⟨h.back, h.onward⟩, hL⟩
theorem newEd_ok {t : List UInt8} (h : t.length ≤ 200) : EdOk ⟨t, [], []⟩ := ⟨h, by simp, by simp, by simp⟩
theorem doEd_ok {E : EdS} (h : EdOk E) (l : List Ed) : EdOk (doEd E l).2 := by
  unfold doEd
  split
  · exact h
  · split
    · exact h
    · refine ⟨apply_len _ _, ?_, ?_, by simp⟩
      · have := h.steps
        simp only
        split <;> simp <;> omega
      · intro t ht
        simp only at ht
        have : t ∈ E.back ++ [E.text] := by
          split at ht
          · exact List.mem_of_mem_tail ht
          · exact ht
        rcases List.mem_append.1 this with h1 | h1
        · exact h.back t h1
        · simp at h1; subst h1; exact h.text
theorem undoEd_ok {E : EdS} (h : EdOk E) : EdOk (undoEd E).2 ∧ EdOk (redoEd E).2 := by
  obtain ⟨h1, h2⟩ := undoEd_text h.text ⟨h.back, h.onward⟩
  obtain ⟨h3, h4⟩ := undoEd_len E
  refine ⟨⟨h1, by rw [h3]; exact h.steps, ?_, ?_⟩, ⟨h2, by rw [h4]; exact h.steps, ?_, ?_⟩⟩
  all_goals clear h1 h2 h3 h4
  · unfold undoEd; split
    · exact h.back
    · exact fun t ht => h.back t (List.dropLast_subset _ ht)
  · unfold undoEd; split
    · exact h.onward
    · intro t ht
      rcases List.mem_append.1 ht with h1 | h1
      · exact h.onward t h1
      · simp at h1; subst h1; exact h.text
  · unfold redoEd; split
    · exact h.back
    · intro t ht
      rcases List.mem_append.1 ht with h1 | h1
      · exact h.back t h1
      · simp at h1; subst h1; exact h.text
  · unfold redoEd; split
    · exact h.onward
    · exact fun t ht => h.onward t (List.dropLast_subset _ ht)
theorem pgEdit_ok {E : EdS} {L : LfS} (h : PgOk E L) (l : List Ed) : PgOk (pgEdit E L l).2.1 (pgEdit E L l).2.2 := by
  unfold pgEdit
  split
  · exact h
  · split
    · exact (doEd_ok h.ed l).pg (lfEdit_ok h.leaf l)
    · exact h.ed.pg (lfEdit_ok h.leaf l)
theorem pgStep_ok {E : EdS} {L : LfS} (h : PgOk E L) (b : Bool) : PgOk (pgStep E L b).2.1 (pgStep E L b).2.2 := by
  have h1 : EdOk (if b then undoEd E else redoEd E).2 := by cases b <;> simp [undoEd_ok h.ed]
  unfold pgStep
  generalize (if b then undoEd E else redoEd E) = r at *
  simp only
  split
  · split
    · exact h1.pg (lfSet_ok h.leaf _)
    · have h2 : EdOk (if b then redoEd r.2 else undoEd r.2).2 := by cases b <;> simp [undoEd_ok h1]
      exact h2.pg (lfSet_ok h.leaf _)
  · exact h1.pg h.leaf
theorem pgPack_ok {E : EdS} {L : LfS} (h : PgOk E L) (n : Int) : PgOk (pgPack E L n).2.1 (pgPack E L n).2.2 := by
  have h1 := lfPack_ok h.leaf n
  unfold pgPack
  simp only
  split
  · split
    · exact h.ed.pg h1
    · exact (newEd_ok h1.text).pg h1
  · exact h.ed.pg h1
theorem pgCrash_ok {E : EdS} {L : LfS} (h : PgOk E L) (n : Int) : PgOk (pgCrash E L n).2.1 (pgCrash E L n).2.2 := by
  have h1 := lfCrash_ok h.leaf n
  unfold pgCrash
  simp only
  split
  · exact (newEd_ok h1.text).pg h1
  · exact h.ed.pg h1
theorem pgMake_ok {E : EdS} {L : LfS} (h : PgOk E L) (t : List UInt8) : PgOk (pgMake E L t).2.1 (pgMake E L t).2.2 := by
  unfold pgMake
  simp only
  split
  · exact pgEdit_ok h _
  · exact h
theorem doPg_ok {p : PageS} (h : PgOk p.E p.L) (d : Dd) : PgOk (doPg p d).2.E (doPg p d).2.L := by
  unfold doPg mkPg
  split; · exact pgEdit_ok h _
  split; · exact pgStep_ok h _
  split; · exact pgStep_ok h _
  split; · exact h.ed.pg (lfSave_ok h.leaf)
  split; · exact pgPack_ok h _
  split; · exact pgCrash_ok h _
  split; · exact h
  exact pgMake_ok h _
theorem doPg_name (p : PageS) (d : Dd) : (doPg p d).2.name = p.name := by
  unfold doPg mkPg
  repeat (split; · rfl)
  rfl
theorem HouseOk.nil : HouseOk [] := ⟨by simp, by simp⟩
theorem beginF_ok {H : List PageS} (h : HouseOk H) (d : Dd) : HouseOk (beginF H d).2 := by
  unfold beginF
  split
  · exact h
  · split
    · exact h
    · have := h.len
      refine ⟨by simp; omega, fun p hp => ?_⟩
      rcases List.mem_append.1 hp with hp | hp
      · exact h.pg p hp
      · simp at hp; subst hp
        exact (newEd_ok (by omega)).pg (lfNew_ok (by omega))
theorem doF_ok {H : List PageS} (h : HouseOk H) (d : Dd) : HouseOk (doF H d).2 := by
  unfold doF
  split; · exact h
  split; · exact h
  split
  · split
    · exact beginF_ok h d
    · exact h
  · split; · exact h
    split
    · refine ⟨Nat.le_trans (List.length_eraseIdx_le ..) h.len, fun p hp => h.pg p (List.mem_of_mem_eraseIdx hp)⟩
    · split
      · exact h
      · rename_i p hp
        refine ⟨by simpa using h.len, fun q hq => ?_⟩
        rcases List.mem_or_eq_of_mem_set hq with hq | rfl
        · exact h.pg q hq
        · exact doPg_ok (h.pg p (List.mem_of_getElem? hp)) d

theorem set_self' {H : List PageS} {k : Nat} {p : PageS} (h : H[k]? = some p) : H.set k p = H := by
  apply List.ext_getElem?
  intro j
  by_cases hj : k = j
  · subst hj
    have hk := (List.getElem?_eq_some_iff.1 h).1
    rw [List.getElem?_set_self hk, h]
  · rw [List.getElem?_set_ne hj]

theorem house_do (B gh : Nat) (H : List PageS) (F : List Nat) (d : Dd) (ev : Value) (w : World) (h : IsHouse w gh H F) (hH : HouseOk H) (hv : EditsAt w ev d.edits) (hB : B ≤ w.heap.size) (hT : Tab B w) (hF : ∀ x ∈ F, B ≤ x)
    (hvf : d.edits ≠ [] → ∀ A n c, ev = .slice A n c → ∀ x ∈ blk A, x ∉ F) :
    Calls Tryd.prog 12 #[.pointer (some ⟨gh, 0, none⟩), ddV d ev] w (HsPost gh (doF H d).2 F w (.tuple #[.string (bs (doF H d).1.1), .int .i64 (doF H d).1.2])) := by
  obtain ⟨kd, n, nm, tx, eds⟩ := d
  have h6 := hH.len
  unfold ddV
  simp only at hv ⊢
  by_cases hk : kd < 1 ∨ 10 < kd
  · have e : doF H ⟨kd, n, nm, tx, eds⟩ = (([], 1), H) := if_pos hk
    rw [e]
    exact house_do_kind gh H F kd n nm tx eds ev w h hk
  by_cases hn : nameE nm ≠ 0
  · have e : doF H ⟨kd, n, nm, tx, eds⟩ = (([], nameE nm), H) := by unfold doF; rw [if_neg hk, if_pos hn]
    rw [e]
    exact house_do_name gh H F kd n nm tx eds ev w h hk hn
  have hn0 : nameE nm = 0 := Decidable.not_not.1 hn
  cases hi : idxF H nm with
  | none =>
    have hI : idxI H nm = -1 := by unfold idxI; rw [hi]
    by_cases h1 : kd = 1
    · subst h1
      have e : doF H ⟨1, n, nm, tx, eds⟩ = (([], (beginF H ⟨1, n, nm, tx, eds⟩).1), (beginF H ⟨1, n, nm, tx, eds⟩).2) := by unfold doF; rw [if_neg hk, if_neg hn]; simp only [hi]; rfl
      rw [e]
      by_cases hfull : H.length = 6 ∨ 200 < tx.length
      · have e2 : (beginF H ⟨1, n, nm, tx, eds⟩).2 = H := by
          unfold beginF
          split
          · rfl
          · rw [if_pos (by rcases hfull with h | h; contradiction; exact h)]
        rw [e2]
        exact house_do_full gh H F 1 n nm tx eds ev w h h6 hfull hI hn0
      · have e2 : beginF H ⟨1, n, nm, tx, eds⟩ = (0, H ++ [newPage ⟨1, n, nm, tx, eds⟩]) := by
          unfold beginF
          rw [if_neg (fun h => hfull (.inl h)), if_neg (fun h => hfull (.inr h))]
        rw [e2]
        exact house_do_new gh H F 1 n nm tx eds ev w h h6 (by have : ¬ H.length = 6 := fun h => hfull (.inl h); omega) (by have : ¬ 200 < tx.length := fun h => hfull (.inr h); omega) hI hn0
    · have e : doF H ⟨kd, n, nm, tx, eds⟩ = (([], 4), H) := by unfold doF; rw [if_neg hk, if_neg hn]; simp only [hi]; rw [if_neg h1]
      rw [e]
      exact house_do_none gh H F kd n nm tx eds ev w h h6 hk h1 hI hn0
  | some k =>
    have hI : idxI H nm = k := by unfold idxI; rw [hi]
    by_cases h1 : kd = 1
    · subst h1
      have e : doF H ⟨1, n, nm, tx, eds⟩ = (([], 10), H) := by unfold doF; rw [if_neg hk, if_neg hn]; simp only [hi]; rfl
      rw [e]
      exact house_do_there gh H F 1 n nm tx eds ev w h h6 k hI hn0
    have hkl : k < H.length := (List.findIdx?_eq_some_iff_getElem.1 hi).1
    have hget : H[k]? = some H[k] := List.getElem?_eq_getElem hkl
    obtain ⟨R, A, c, hM, rfl, rfl⟩ := h
    simp only [List.length_map] at h6 hkl
    obtain ⟨b, off, rfl, _, _⟩ := hM.own.addr (by omega)
    have hP := hH.pg R[k].s (List.mem_map_of_mem (List.getElem_mem hkl))
    have hF' : ∀ x ∈ R[k].fp, B ≤ x := fun x hx => hF x (mem_hfp.2 (.inr (.inr ⟨_, List.getElem_mem hkl, hx⟩)))
    have hvf' : eds ≠ [] → ∀ A n c, ev = .slice A n c → ∀ x ∈ blk A, x ∉ R[k].fp := fun hne A n c hA x hx hm => hvf hne A n c hA x hx (mem_hfp.2 (.inr (.inr ⟨_, List.getElem_mem hkl, hm⟩)))
    by_cases h9 : kd = 9
    · subst h9
      have e : doF (R.map PgM.s) ⟨9, n, nm, tx, eds⟩ = (([], 0), (R.map PgM.s).eraseIdx k) := by unfold doF; rw [if_neg hk, if_neg hn]; simp only [hi]; rfl
      rw [e]
      exact house_do_drop B gh b off c k R n nm tx eds ev w hM h6 hkl hI hn0 hP
    have e : doF (R.map PgM.s) ⟨kd, n, nm, tx, eds⟩ = ((doPg R[k].s ⟨kd, n, nm, tx, eds⟩).1, (R.map PgM.s).set k (doPg R[k].s ⟨kd, n, nm, tx, eds⟩).2) := by
      unfold doF; rw [if_neg hk, if_neg hn]; simp only [hi]; rw [if_neg h1, if_neg h9, hget]; simp
    rw [e]
    by_cases q2 : kd = 2
    · subst q2; exact house_do_edit B gh b off c k R n nm tx eds ev w hM h6 hkl hI hn0 hP hv hB hT hF' hvf'
    by_cases q3 : kd = 3
    · subst q3; exact house_do_undo B gh b off c k R n nm tx eds ev w hM h6 hkl hI hn0 hP
    by_cases q4 : kd = 4
    · subst q4; exact house_do_redo B gh b off c k R n nm tx eds ev w hM h6 hkl hI hn0 hP
    by_cases q5 : kd = 5
    · subst q5; exact house_do_save B gh b off c k R n nm tx eds ev w hM h6 hkl hI hn0 hP
    by_cases q6 : kd = 6
    · subst q6; exact house_do_pack B gh b off c k R n nm tx eds ev w hM h6 hkl hI hn0 hP
    by_cases q7 : kd = 7
    · subst q7; exact house_do_crash B gh b off c k R n nm tx eds ev w hM h6 hkl hI hn0 hP
    by_cases q8 : kd = 8
    · subst q8
      have e8 : doPg R[k].s ⟨8, n, nm, tx, eds⟩ = ((R[k].s.E.text, 0), R[k].s) := rfl
      rw [e8, set_self' (by simpa using hget)]
      exact house_do_text B gh b off c k R n nm tx eds ev w hM h6 hkl hI hn0 hP
    have q10 : kd = 10 := by omega
    subst q10
    exact house_do_make B gh b off c k R n nm tx eds ev w hM h6 hkl hI hn0 hP hB hT hF'
end Go.Proofs.YtclebkgfogienaaDoor
