/- What a deed makes of the text of one name: its own deeds alone turn it. -/
import Derived.Test.YtclebkgfogienaaDoorRefuse
namespace Go.Proofs.YtclebkgfogienaaDoor
set_option linter.unusedSimpArgs false
set_option linter.unusedVariables false

def pgOf (H : List PageS) (nm : List UInt8) : Option PageS := H.find? (fun p => decide (p.name = nm))
/-- a deed at the text of its own name -/
def stepO (o : Option PageS) (full : Bool) (d : Dd) : (List UInt8 × Int) × Option PageS :=
  if d.kind < 1 ∨ 10 < d.kind then (([], 1), o) else if nameE d.name ≠ 0 then (([], nameE d.name), o) else
  match o with
  | none => if d.kind = 1 then if full then (([], 11), none) else if 200 < d.text.length then (([], 2), none) else (([], 0), some (newPage d)) else (([], 4), none)
  | some p => if d.kind = 1 then (([], 10), some p) else if d.kind = 9 then (([], 0), none) else ((doPg p d).1, some (doPg p d).2)

theorem pgOf_cons (p : PageS) (H : List PageS) (nm : List UInt8) : pgOf (p :: H) nm = if p.name = nm then some p else pgOf H nm := by
  unfold pgOf
  rw [List.find?_cons]
  by_cases h : p.name = nm
  · simp [h]
  · simp [h]
theorem pgOf_append (A B : List PageS) (nm : List UInt8) : pgOf (A ++ B) nm = (pgOf A nm).or (pgOf B nm) := by simp [pgOf, List.find?_append]
theorem pgOf_none {H : List PageS} {nm : List UInt8} : pgOf H nm = none ↔ nm ∉ H.map PageS.name := by
  unfold pgOf
  rw [List.find?_eq_none]
  constructor
  · intro h hm
    obtain ⟨p, hp, rfl⟩ := List.mem_map.1 hm
    simpa using h p hp
  · intro h p hp
    have : ¬ p.name = nm := fun he => h (List.mem_map.2 ⟨p, hp, he⟩)
    simpa using this
theorem pgOf_some {H : List PageS} {nm : List UInt8} {p : PageS} (h : pgOf H nm = some p) : p ∈ H ∧ p.name = nm := by
  unfold pgOf at h
  exact ⟨List.mem_of_find?_eq_some h, by simpa using List.find?_some h⟩
theorem pgOf_idx {H : List PageS} {nm : List UInt8} : (idxF H nm = none → pgOf H nm = none) ∧ ∀ k, idxF H nm = some k → ∃ (A B : List PageS) (p : PageS), H = A ++ p :: B ∧ A.length = k ∧ p.name = nm ∧ pgOf A nm = none := by
  constructor
  · intro h; exact pgOf_none.2 (idxF_none.1 h)
  · intro k h
    obtain ⟨hk, h1, h2⟩ := List.findIdx?_eq_some_iff_getElem.1 h
    refine ⟨H.take k, H.drop (k + 1), H[k], ?_, by simp; omega, by simpa using h1, ?_⟩
    · rw [← List.drop_eq_getElem_cons hk, List.take_append_drop]
    · unfold pgOf
      rw [List.find?_eq_none]
      intro p hp
      obtain ⟨j, hj, rfl⟩ := List.getElem_of_mem hp
      have hj' : j < k := by simp at hj; omega
      rw [List.getElem_take]
      simpa using h2 j hj'
theorem doF_own {H : List PageS} (hN : Named H) (d : Dd) :
    (doF H d).1 = (stepO (pgOf H d.name) (decide (H.length = 6)) d).1 ∧ pgOf (doF H d).2 d.name = (stepO (pgOf H d.name) (decide (H.length = 6)) d).2 := by
  unfold doF stepO
  by_cases h1 : d.kind < 1 ∨ 10 < d.kind
  · rw [if_pos h1, if_pos h1]; exact ⟨rfl, rfl⟩
  rw [if_neg h1, if_neg h1]
  by_cases h2 : nameE d.name ≠ 0
  · rw [if_pos h2, if_pos h2]; exact ⟨rfl, rfl⟩
  rw [if_neg h2, if_neg h2]
  cases hi : idxF H d.name with
  | none =>
    have ho := pgOf_idx.1 hi
    simp only [ho]
    by_cases h3 : d.kind = 1
    · rw [if_pos h3, if_pos h3]
      unfold beginF
      by_cases h4 : H.length = 6
      · have h4' : decide (H.length = 6) = true := by simpa using h4
        rw [if_pos h4, if_pos h4']; exact ⟨rfl, ho⟩
      have h4' : ¬ (decide (H.length = 6) = true) := by simpa using h4
      rw [if_neg h4, if_neg h4']
      by_cases h5 : 200 < d.text.length
      · rw [if_pos h5, if_pos h5]; exact ⟨rfl, ho⟩
      rw [if_neg h5, if_neg h5]
      refine ⟨rfl, ?_⟩
      simp only
      rw [pgOf_append, ho, pgOf_cons]
      simp [newPage]
    · rw [if_neg h3, if_neg h3]; exact ⟨rfl, ho⟩
  | some k =>
    obtain ⟨A, B, p, rfl, rfl, hpn, hA⟩ := pgOf_idx.2 k hi
    have ho : pgOf (A ++ p :: B) d.name = some p := by rw [pgOf_append, hA, pgOf_cons, if_pos hpn]; rfl
    simp only [ho]
    by_cases h3 : d.kind = 1
    · rw [if_pos h3, if_pos h3]; exact ⟨rfl, ho⟩
    rw [if_neg h3, if_neg h3]
    by_cases h4 : d.kind = 9
    · rw [if_pos h4, if_pos h4]
      refine ⟨rfl, ?_⟩
      have he : (A ++ p :: B).eraseIdx A.length = A ++ B := by
        rw [List.eraseIdx_append_of_length_le (Nat.le_refl _)]; simp
      simp only
      rw [he, pgOf_none]
      intro hm
      have hn := hN.apart
      rw [List.map_append, List.map_cons] at hn
      rw [List.map_append] at hm
      rw [List.nodup_append, List.nodup_cons] at hn
      rcases List.mem_append.1 hm with hm | hm
      · exact pgOf_none.1 hA hm
      · exact hn.2.1.1 (by rw [hpn]; exact hm)
    rw [if_neg h4, if_neg h4]
    have hg : (A ++ p :: B)[A.length]? = some p := by simp
    simp only [hg]
    refine ⟨trivial, ?_⟩
    have hs : (A ++ p :: B).set A.length (doPg p d).2 = A ++ (doPg p d).2 :: B := by
      rw [List.set_append_right _ _ (Nat.le_refl _)]; simp
    rw [hs, pgOf_append, hA, pgOf_cons, if_pos (by rw [doPg_name]; exact hpn)]
    rfl
theorem doF_other {H : List PageS} (hN : Named H) (d : Dd) (nm : List UInt8) (hne : d.name ≠ nm) : pgOf (doF H d).2 nm = pgOf H nm := by
  unfold doF
  by_cases h1 : d.kind < 1 ∨ 10 < d.kind
  · rw [if_pos h1]
  rw [if_neg h1]
  by_cases h2 : nameE d.name ≠ 0
  · rw [if_pos h2]
  rw [if_neg h2]
  cases hi : idxF H d.name with
  | none =>
    simp only
    by_cases h3 : d.kind = 1
    · rw [if_pos h3]
      unfold beginF
      by_cases h4 : H.length = 6
      · rw [if_pos h4]
      rw [if_neg h4]
      by_cases h5 : 200 < d.text.length
      · rw [if_pos h5]
      rw [if_neg h5]
      simp only
      rw [pgOf_append, pgOf_cons, if_neg (by simpa [newPage] using hne)]
      simp [pgOf]
    · rw [if_neg h3]
  | some k =>
    obtain ⟨A, B, p, rfl, rfl, hpn, hA⟩ := pgOf_idx.2 k hi
    simp only
    by_cases h3 : d.kind = 1
    · rw [if_pos h3]
    rw [if_neg h3]
    by_cases h4 : d.kind = 9
    · rw [if_pos h4]
      have he : (A ++ p :: B).eraseIdx A.length = A ++ B := by
        rw [List.eraseIdx_append_of_length_le (Nat.le_refl _)]; simp
      simp only
      rw [he, pgOf_append, pgOf_append, pgOf_cons, if_neg (by rw [hpn]; exact hne)]
    rw [if_neg h4]
    have hg : (A ++ p :: B)[A.length]? = some p := by simp
    simp only [hg]
    have hs : (A ++ p :: B).set A.length (doPg p d).2 = A ++ (doPg p d).2 :: B := by
      rw [List.set_append_right _ _ (Nat.le_refl _)]; simp
    rw [hs, pgOf_append, pgOf_append, pgOf_cons, pgOf_cons, if_neg (by rw [doPg_name, hpn]; exact hne), if_neg (by rw [hpn]; exact hne)]

/-- a house as it should be -/
structure HouseWell (H : List PageS) : Prop where
  ok : HouseOk H
  named : Named H
  sync : Synced H
theorem HouseWell.nil : HouseWell [] := ⟨HouseOk.nil, Named.nil, Synced.nil⟩
theorem HouseWell.doF {H : List PageS} (h : HouseWell H) (d : Dd) : HouseWell (doF H d).2 := ⟨doF_ok h.ok d, doF_named h.named d, doF_sync h.sync d⟩
theorem HouseWell.runF {H : List PageS} (h : HouseWell H) (D : List Dd) : HouseWell (runF H D) := ⟨runF_ok h.ok D, runF_named h.named D, runF_sync h.sync D⟩
theorem HouseWell.pg {H : List PageS} (h : HouseWell H) {nm : List UInt8} {p : PageS} (hp : pgOf H nm = some p) : PgOk p.E p.L ∧ Sync p.E p.L ∧ p.name = nm ∧ nameE nm = 0 := by
  obtain ⟨h1, h2⟩ := pgOf_some hp
  exact ⟨h.ok.pg p h1, h.sync p h1, h2, by rw [← h2]; exact h.named.names p h1⟩
/-- a deed that is none of a new text, nor drops one, at a text that is there -/
theorem HouseWell.turn {H : List PageS} (h : HouseWell H) (d : Dd) {p : PageS} (hp : pgOf H d.name = some p) (hk : 1 < d.kind ∧ d.kind ≤ 10 ∧ d.kind ≠ 9) : (Go.Proofs.YtclebkgfogienaaDoor.doF H d).1 = (doPg p d).1 ∧ pgOf (Go.Proofs.YtclebkgfogienaaDoor.doF H d).2 d.name = some (doPg p d).2 := by
  obtain ⟨h1, h2⟩ := doF_own h.named d
  have hs : stepO (pgOf H d.name) (decide (H.length = 6)) d = ((doPg p d).1, some (doPg p d).2) := by
    unfold stepO
    rw [if_neg (by omega), if_neg (by rw [(h.pg hp).2.2.2]; simp), hp]
    simp only
    rw [if_neg (by omega), if_neg (by omega)]
  rw [hs] at h1 h2
  exact ⟨h1, h2⟩
/-- such a deed at a text that isn't there -/
theorem HouseWell.no {H : List PageS} (h : HouseWell H) (d : Dd) (hp : pgOf H d.name = none) (hk : 1 < d.kind ∧ d.kind ≤ 10) : (Go.Proofs.YtclebkgfogienaaDoor.doF H d).1.1 = [] ∧ (Go.Proofs.YtclebkgfogienaaDoor.doF H d).1.2 ≠ 0 ∧ (Go.Proofs.YtclebkgfogienaaDoor.doF H d).1.2 = (if nameE d.name ≠ 0 then nameE d.name else 4) := by
  obtain ⟨h1, h2⟩ := doF_own h.named d
  rw [h1, hp]
  unfold stepO
  rw [if_neg (by omega)]
  by_cases h2 : nameE d.name ≠ 0
  · rw [if_pos h2, if_pos h2]; exact ⟨rfl, h2, rfl⟩
  · rw [if_neg h2, if_neg h2]
    simp only
    rw [if_neg (by omega)]
    exact ⟨rfl, by simp, rfl⟩
theorem text_some {H : List PageS} (h : HouseWell H) {nm : List UInt8} {p : PageS} (hp : pgOf H nm = some p) : (doF H (textD nm)).1 = (p.E.text, 0) := by
  rw [(h.turn (textD nm) hp ⟨by simp [textD, deedD], by simp [textD, deedD], by simp [textD, deedD]⟩).1]; rfl
theorem text_none {H : List PageS} (h : HouseWell H) {nm : List UInt8} (hp : pgOf H nm = none) : (doF H (textD nm)).1.1 = [] ∧ (doF H (textD nm)).1.2 ≠ 0 := by
  obtain ⟨h1, h2, _⟩ := h.no (textD nm) hp ⟨by simp [textD, deedD], by simp [textD, deedD]⟩
  exact ⟨h1, h2⟩
end Go.Proofs.YtclebkgfogienaaDoor
