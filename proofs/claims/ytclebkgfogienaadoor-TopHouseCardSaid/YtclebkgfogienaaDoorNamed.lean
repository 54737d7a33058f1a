/- The names of a house: no two alike, each a name; what a text's deed answers. -/
import Derived.Test.YtclebkgfogienaaDoorOpen
namespace Go.Proofs.YtclebkgfogienaaDoor
set_option linter.unusedSimpArgs false
set_option linter.unusedVariables false

structure Named (H : List PageS) : Prop where
  apart : (H.map PageS.name).Nodup
  names : ∀ p ∈ H, nameE p.name = 0
theorem Named.nil : Named [] := ⟨by simp, by simp⟩
theorem idxF_none {H : List PageS} {nm : List UInt8} : idxF H nm = none ↔ nm ∉ H.map PageS.name := by
  unfold idxF
  rw [List.findIdx?_eq_none_iff]
  constructor
  · intro h hm
    obtain ⟨p, hp, rfl⟩ := List.mem_map.1 hm
    simpa using h p hp
  · intro h p hp
    have : ¬ p.name = nm := fun he => h (List.mem_map.2 ⟨p, hp, he⟩)
    simpa using this
theorem idxF_some {H : List PageS} {nm : List UInt8} {k : Nat} (h : idxF H nm = some k) : ∃ hk : k < H.length, H[k].name = nm := by
  obtain ⟨hk, h1, _⟩ := List.findIdx?_eq_some_iff_getElem.1 h
  exact ⟨hk, by simpa using h1⟩
theorem doF_named {H : List PageS} (h : Named H) (d : Dd) : Named (doF H d).2 := by
  unfold doF
  split; · exact h
  split; · exact h
  rename_i hn
  have hn0 : nameE d.name = 0 := Decidable.not_not.1 hn
  split
  · rename_i hi
    split
    · unfold beginF
      split; · exact h
      split; · exact h
      refine ⟨?_, fun p hp => ?_⟩
      · rw [List.map_append, List.nodup_append]
        refine ⟨h.apart, by simp, fun a ha b hb hab => ?_⟩
        simp [newPage] at hb
        exact idxF_none.1 hi (by rw [← hb, ← hab]; exact ha)
      · rcases List.mem_append.1 hp with hp | hp
        · exact h.names p hp
        · simp at hp; subst hp; exact hn0
    · exact h
  · rename_i k hi
    split; · exact h
    split
    · refine ⟨?_, fun p hp => h.names p (List.mem_of_mem_eraseIdx hp)⟩
      exact h.apart.sublist ((List.eraseIdx_sublist H k).map PageS.name)
    · split
      · exact h
      · rename_i p hp
        obtain ⟨hk, hpk⟩ := List.getElem?_eq_some_iff.1 hp
        have hmap : (H.set k (doPg p d).2).map PageS.name = H.map PageS.name := by
          rw [List.map_set, doPg_name]
          apply List.ext_getElem?
          intro j
          by_cases hj : k = j
          · subst hj
            rw [List.getElem?_set_self (by simpa using hk)]
            simp [hp]
          · rw [List.getElem?_set_ne hj]
        refine ⟨by rw [hmap]; exact h.apart, fun q hq => ?_⟩
        have : q.name ∈ H.map PageS.name := by rw [← hmap]; exact List.mem_map_of_mem hq
        obtain ⟨r, hr, hrn⟩ := List.mem_map.1 this
        rw [← hrn]; exact h.names r hr
theorem runF_named {H : List PageS} (h : Named H) : ∀ (D : List Dd), Named (runF H D) := by
  intro D
  induction D generalizing H with
  | nil => exact h
  | cons d D ih => exact ih (doF_named h d)
theorem text_ok {H : List PageS} (h : Named H) (nm : List UInt8) : ((doF H (textD nm)).1.2 == 0) = decide (nm ∈ H.map PageS.name) := by
  unfold doF textD
  simp only
  rw [if_neg (by decide)]
  by_cases hn : nameE nm ≠ 0
  · rw [if_pos hn]
    have : nm ∉ H.map PageS.name := fun hm => by
      obtain ⟨p, hp, rfl⟩ := List.mem_map.1 hm
      exact hn (h.names p hp)
    rw [decide_eq_false this]
    simpa using hn
  · rw [if_neg hn]
    cases hi : idxF H nm with
    | none =>
      have := idxF_none.1 hi
      rw [decide_eq_false this]
      rfl
    | some k =>
      obtain ⟨hk, hkn⟩ := idxF_some hi
      have : nm ∈ H.map PageS.name := by rw [← hkn]; exact List.mem_map_of_mem (List.getElem_mem hk)
      rw [decide_eq_true this]
      simp only
      rw [if_neg (by decide), if_neg (by decide), List.getElem?_eq_getElem hk]
      rfl

theorem namesF_mem {H : List PageS} {s : List UInt8} : s ∈ namesF H ↔ s ∈ H.map PageS.name := List.mem_mergeSort
theorem namesF_lt {H : List PageS} (h : Named H) : (namesF H).Pairwise (· < ·) := by
  have h1 : (namesF H).Pairwise (fun a b => decide (a ≤ b) = true) := List.pairwise_mergeSort (fun a b c h1 h2 => by simp at *; exact List.le_trans h1 h2) (fun a b => by simp; exact List.le_total a b) _
  have h2 : (namesF H).Nodup := (List.mergeSort_perm _ _).nodup_iff.2 h.apart
  refine (h1.and h2).imp (fun {a b} ⟨h3, h4⟩ => ?_)
  have h3 : a ≤ b := by simpa using h3
  exact Classical.byContradiction fun hn => h4 (List.le_antisymm h3 (List.not_lt.1 hn))
end Go.Proofs.YtclebkgfogienaaDoor
