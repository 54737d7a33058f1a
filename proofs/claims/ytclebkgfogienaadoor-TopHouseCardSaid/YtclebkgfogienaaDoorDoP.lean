/- What a deed makes of a house, as a function; and a house of which one page is turned. -/
import Derived.Test.YtclebkgfogienaaDoorDelete
namespace Go.Proofs.YtclebkgfogienaaDoor
set_option linter.unusedSimpArgs false
set_option linter.unusedVariables false
open Go.RowKit

def pgCrash (E : EdS) (L : LfS) (keep : Int) : Int × EdS × LfS :=
  let q := lfCrash L keep
  if q.1 = 0 then (0, ⟨q.2.text, [], []⟩, q.2) else (q.1, E, q.2)
def mkPg (nm : List UInt8) (r : Int × EdS × LfS) : (List UInt8 × Int) × PageS := (([], r.1), ⟨nm, r.2.1, r.2.2⟩)
def pgMake (E : EdS) (L : LfS) (t : List UInt8) : Int × EdS × LfS :=
  let q := makeF E.text t
  if q.2 = 0 then pgEdit E L q.1 else (q.2, E, L)
def doPg (p : PageS) (d : Dd) : (List UInt8 × Int) × PageS :=
  if d.kind = 2 then mkPg p.name (pgEdit p.E p.L d.edits)
  else if d.kind = 3 then mkPg p.name (pgStep p.E p.L true)
  else if d.kind = 4 then mkPg p.name (pgStep p.E p.L false)
  else if d.kind = 5 then (([], 0), ⟨p.name, p.E, lfSave p.L⟩)
  else if d.kind = 6 then mkPg p.name (pgPack p.E p.L d.n)
  else if d.kind = 7 then mkPg p.name (pgCrash p.E p.L d.n)
  else if d.kind = 8 then ((p.E.text, 0), p)
  else mkPg p.name (pgMake p.E p.L d.text)
def doF (H : List PageS) (d : Dd) : (List UInt8 × Int) × List PageS :=
  if d.kind < 1 ∨ 10 < d.kind then (([], 1), H) else if nameE d.name ≠ 0 then (([], nameE d.name), H) else
  match idxF H d.name with
  | none => if d.kind = 1 then (([], (beginF H d).1), (beginF H d).2) else (([], 4), H)
  | some k => if d.kind = 1 then (([], 10), H) else if d.kind = 9 then (([], 0), H.eraseIdx k) else
    match H[k]? with
    | none => (([], 0), H)
    | some p => ((doPg p d).1, H.set k (doPg p d).2)

theorem pgCells_set : ∀ (R : List PgM) (k : Nat) (r : PgM) (hk : k < R.length), r.s.name = R[k].s.name → r.gl = R[k].gl → ∀ i, (pgCells (R.set k r))[i]? = if i = k * 3 + 1 then some (.pointer (some ⟨r.ge, 0, none⟩)) else (pgCells R)[i]?
  | [], _, _, h, _, _, _ => by simp at h
  | x :: R, 0, r, _, h1, h2, i => by
    simp only [List.getElem_cons_zero] at h1 h2
    match i with
    | 0 => simp [pgCells, h1]
    | 1 => simp [pgCells]
    | 2 => simp [pgCells, h2]
    | i + 3 => rw [if_neg (by omega)]; rfl
  | x :: R, k + 1, r, hk, h1, h2, i => by
    have ih := pgCells_set R k r (by simpa using hk) (by simpa using h1) (by simpa using h2)
    match i with
    | 0 => rw [if_neg (by omega)]; rfl
    | 1 => rw [if_neg (by omega)]; rfl
    | 2 => rw [if_neg (by omega)]; rfl
    | i + 3 =>
      have e : ∀ (y : PgM) (S : List PgM) j, (pgCells (y :: S))[j + 3]? = (pgCells S)[j]? := fun y S j => rfl
      rw [List.set_cons_succ, e, e, ih i]
      by_cases h : i = k * 3 + 1
      · rw [if_pos h, if_pos (by omega)]
      · rw [if_neg h, if_neg (by omega)]

/-- one page is turned -/
theorem house_turn {w w' : World} {gh : Nat} {R : List PgM} {b off c k : Nat} {E' : EdS} {L' : LfS} {v : Value} {e : Ending} (hM : IsHouseM w gh R (some ⟨b, off, none⟩) c) (hk : k < R.length)
    (h : PkPost b (off + k * 3) R[k].gl E' L' R[k].fp w v e w') : HsPost gh ((R.map PgM.s).set k ⟨R[k].s.name, E', L'⟩) (hfp gh R (some ⟨b, off, none⟩)) w v e w' := by
  obtain ⟨he, ge', fp', h1, h2, h3, h4⟩ := h
  have hmem : R[k] ∈ R := List.getElem_mem hk
  have hbA : b ∈ blk (some (⟨b, off, none⟩ : Addr)) := by simp [blk]
  have hghb : gh ≠ b := fun hh => hM.d1 (by simp [blk, hh])
  have hgl := blk_lt hM.cell
  have hbl := hM.own.lt b hbA
  have hpg : ∀ i (hi : i < R.length), i ≠ k → Dis R[i].fp R[k].fp := by
    intro i hi hik
    have := List.pairwise_iff_getElem.1 hM.d3
    rcases Nat.lt_or_gt_of_ne hik with hlt | hlt
    · have h9 := this i k (by simpa using hi) (by simpa using hk) hlt
      simp only [List.getElem_map] at h9
      exact h9
    · have h9 := this k i (by simpa using hk) (by simpa using hi) hlt
      simp only [List.getElem_map] at h9
      exact h9.symm
  have hbf := (hM.d2 _ hmem).2
  have hghf := (hM.d2 _ hmem).1
  have hfpl : ∀ x ∈ R[k].fp, x < w.heap.size := (hM.pg _ hmem).lt
  have hb' : b ∉ fp' := fun hm => by
    rcases h3 b hm with h | h
    · exact hbf b hbA h
    · omega
  have hgh' : gh ∉ fp' := fun hm => by
    rcases h3 gh hm with h | h
    · exact hghf h
    · omega
  have hcell : (w'.heap[gh]? = some (.cells #[.slice (some ⟨b, off, none⟩) R.length c] 66 (0, 0))) :=
    (h2.block gh hgl (by simp; exact ⟨hghb, hghf⟩)).trans hM.cell
  refine ⟨he, hfp gh (R.set k ⟨⟨R[k].s.name, E', L'⟩, ge', R[k].gl, fp'⟩) (some ⟨b, off, none⟩), ⟨R.set k ⟨⟨R[k].s.name, E', L'⟩, ge', R[k].gl, fp'⟩, some ⟨b, off, none⟩, c, ⟨?_, ?_, ?_, hM.d1, ?_, ?_⟩, ?_, rfl⟩, ?_, ?_⟩
  · rw [List.length_set]; exact hcell
  · rw [List.length_set]
    refine ⟨by rw [pgCells_length, List.length_set], ?_⟩
    rcases hM.own.2 with ⟨h, _⟩ | ⟨b', off', cur, hA, hg, hnc, hcm, hs, ht⟩
    · cases h
    · cases hA
      refine .inr ⟨b, off, _, rfl, h4 cur _ _ hg, hnc, hcm, by simpa using hs, fun i hi => ?_⟩
      rw [pgCells_set R k ⟨⟨R[k].s.name, E', L'⟩, ge', R[k].gl, fp'⟩ hk rfl rfl]
      by_cases hik : i = k * 3 + 1
      · subst hik
        have hmul : k * 3 + 1 < R.length * 3 := hi
        have hcs : R.length * 3 ≤ c * 3 := Nat.mul_le_mul_right _ hnc
        rw [if_pos rfl, show off + (k * 3 + 1) = off + k * 3 + 1 by omega, Array.getElem?_setIfInBounds_self_of_lt (by omega)]
      · rw [if_neg hik, Array.getElem?_setIfInBounds_ne (by omega), ht i hi]
  · intro r hr
    obtain ⟨i, hi, rfl⟩ := List.getElem_of_mem hr
    rw [List.length_set] at hi
    by_cases hik : k = i
    · subst hik
      simpa using h1
    · rw [List.getElem_set_ne hik]
      refine (hM.pg _ (List.getElem_mem hi)).upd h2 (fun x hx hm => ?_)
      rcases List.mem_cons.1 hm with rfl | hm
      · exact (hM.d2 _ (List.getElem_mem hi)).2 x hbA hx
      · exact hpg i hi (fun h => hik h.symm) x hx hm
  · intro r hr
    obtain ⟨i, hi, rfl⟩ := List.getElem_of_mem hr
    rw [List.length_set] at hi
    by_cases hik : k = i
    · subst hik
      simp only [List.getElem_set_self]
      exact ⟨hgh', fun x hx hm => by simp [blk] at hx; subst hx; exact hb' hm⟩
    · rw [List.getElem_set_ne hik]
      exact hM.d2 _ (List.getElem_mem hi)
  · rw [List.pairwise_iff_getElem]
    intro i j hi hj hij
    simp only [List.length_map, List.length_set] at hi hj
    simp only [List.getElem_map]
    have hold := List.pairwise_iff_getElem.1 hM.d3 i j (by simpa using hi) (by simpa using hj) hij
    simp only [List.getElem_map] at hold
    by_cases hki : k = i
    · subst hki
      rw [List.getElem_set_self, List.getElem_set_ne (by omega)]
      exact hold.fresh h3 (hM.pg _ (List.getElem_mem hj)).lt
    · by_cases hkj : k = j
      · subst hkj
        rw [List.getElem_set_self, List.getElem_set_ne hki]
        exact (hold.symm.fresh h3 (hM.pg _ (List.getElem_mem hi)).lt).symm
      · rw [List.getElem_set_ne hki, List.getElem_set_ne hkj]
        exact hold
  · rw [List.map_set]
  · exact h2.mono (fun x hx => by
      rcases List.mem_cons.1 hx with rfl | hx
      · exact mem_hfp.2 (.inr (.inl hbA))
      · exact mem_hfp.2 (.inr (.inr ⟨_, hmem, hx⟩)))
  · intro x hx
    rcases mem_hfp.1 hx with rfl | hx | ⟨r, hr, hxr⟩
    · exact .inl (mem_hfp.2 (.inl rfl))
    · exact .inl (mem_hfp.2 (.inr (.inl hx)))
    · obtain ⟨i, hi, rfl⟩ := List.getElem_of_mem hr
      rw [List.length_set] at hi
      by_cases hik : k = i
      · subst hik
        simp only [List.getElem_set_self] at hxr
        rcases h3 x hxr with h | h
        · exact .inl (mem_hfp.2 (.inr (.inr ⟨_, hmem, h⟩)))
        · exact .inr h
      · rw [List.getElem_set_ne hik] at hxr
        exact .inl (mem_hfp.2 (.inr (.inr ⟨_, List.getElem_mem hi, hxr⟩)))

theorem HsPost.from {gh : Nat} {H : List PageS} {F : List Nat} {w w1 : World} {v : Value} {e : Ending} {w' : World} (hb : Below w.heap.size w w1) (h : HsPost gh H F w1 v e w') : HsPost gh H F w v e w' := by
  obtain ⟨he, F', h1, h2, h3⟩ := h
  exact ⟨he, F', h1, (Upd.of hb).trans h2 (fun x hx => .inl hx), fun x hx => (h3 x hx).imp_right (fun h => Nat.le_trans hb.size h)⟩
theorem HsPost.then {gh : Nat} {H : List PageS} {F : List Nat} {w : World} {v v' : Value} {e : Ending} {w' w'' : World} (h : HsPost gh H F w v e w') (hb : Below w'.heap.size w' w'') : HsPost gh H F w v' (.returned v') w'' := by
  obtain ⟨he, F', h1, h2, h3⟩ := h
  exact ⟨rfl, F', h1.below hb, h2.then hb, h3⟩
theorem IsHouseM.at {w : World} {gh : Nat} {R : List PgM} {b off c k : Nat} (hM : IsHouseM w gh R (some ⟨b, off, none⟩) c) (hk : k < R.length) : PgAt w b (off + k * 3) R[k].s.name R[k].ge R[k].gl ∧ b ∉ R[k].fp := by
  obtain ⟨e0, e1, e2⟩ := pgCells_at R k hk
  have hbA : b ∈ blk (some (⟨b, off, none⟩ : Addr)) := by simp [blk]
  have hfr : ∀ i, w.frozen? ⟨b, i, none⟩ = false := by
    rcases hM.own.2 with ⟨h, _⟩ | ⟨b', off', cur, hA, hg, _⟩
    · cases h
    · cases hA
      exact fun i => blk_frozen hg i
  refine ⟨⟨?_, ?_, ?_, hfr, hM.own.lt b hbA⟩, (hM.d2 _ (List.getElem_mem hk)).2 b hbA⟩
  · rw [hM.own.cell (k * 3) (by omega), e0]
  · rw [Nat.add_assoc, hM.own.cell (k * 3 + 1) (by omega), e1]
  · rw [Nat.add_assoc, hM.own.cell (k * 3 + 2) (by omega), e2]
end Go.Proofs.YtclebkgfogienaaDoor
