/- What is done to other texts makes no difference to one, while there is room for it. -/
import Derived.Test.YtclebkgfogienaaDoorStepsP
namespace Go.Proofs.YtclebkgfogienaaDoor
set_option linter.unusedSimpArgs false
set_option linter.unusedVariables false

theorem doF_length (H : List PageS) (d : Dd) : (doF H d).2.length ≤ H.length + 1 := by
  unfold doF
  split; · simp
  split; · simp
  split
  · split
    · unfold beginF
      split; · simp
      split; · simp
      simp
    · simp
  · split; · simp
    split
    · have := List.length_eraseIdx_le H ‹Nat›; simp only; omega
    · split <;> simp
def AllNm (H : List PageS) (nm : List UInt8) : Prop := ∀ p ∈ H, p.name = nm
theorem AllNm.len {H : List PageS} (hN : Named H) {nm : List UInt8} (h : AllNm H nm) : H.length ≤ 1 := by
  match H, hN, h with
  | [], _, _ => simp
  | [_], _, _ => simp
  | p :: q :: H, hN, h =>
    have h1 := h p (by simp)
    have h2 := h q (by simp)
    have := hN.apart
    simp [h1, h2] at this
theorem AllNm.doF {H : List PageS} {nm : List UInt8} (h : AllNm H nm) (d : Dd) (hd : d.kind = 1 → d.name = nm) : AllNm (doF H d).2 nm := by
  unfold Go.Proofs.YtclebkgfogienaaDoor.doF
  split; · exact h
  split; · exact h
  split
  · split
    · rename_i hk
      unfold beginF
      split; · exact h
      split; · exact h
      intro p hp
      rcases List.mem_append.1 hp with hp | hp
      · exact h p hp
      · simp at hp; subst hp; exact hd hk
    · exact h
  · split; · exact h
    split
    · exact fun p hp => h p (List.mem_of_mem_eraseIdx hp)
    · split
      · exact h
      · rename_i p hp
        intro q hq
        rcases List.mem_or_eq_of_mem_set hq with hq | rfl
        · exact h q hq
        · rw [doPg_name]; exact h p (List.mem_of_getElem? hp)
/-- two houses that have the same text of a name, and room -/
structure Twin (nm : List UInt8) (Ha Hb : List PageS) : Prop where
  a : HouseWell Ha
  b : HouseWell Hb
  pg : pgOf Ha nm = pgOf Hb nm
  only : AllNm Hb nm
theorem Twin.nil (nm : List UInt8) : Twin nm [] [] := ⟨.nil, .nil, rfl, fun p hp => by simp at hp⟩
theorem Twin.other {nm : List UInt8} {Ha Hb : List PageS} (h : Twin nm Ha Hb) (d : Dd) (hn : d.name ≠ nm) : Twin nm (doF Ha d).2 Hb :=
  ⟨h.a.doF d, h.b, by rw [doF_other h.a.named d nm hn]; exact h.pg, h.only⟩
theorem Twin.own {nm : List UInt8} {Ha Hb : List PageS} (h : Twin nm Ha Hb) (d : Dd) (hn : d.name = nm) (h5 : Ha.length ≤ 5) : Twin nm (doF Ha d).2 (doF Hb d).2 ∧ (doF Ha d).1 = (doF Hb d).1 := by
  obtain ⟨a1, a2⟩ := doF_own h.a.named d
  obtain ⟨b1, b2⟩ := doF_own h.b.named d
  have hb := h.only.len h.b.named
  have fa : decide (Ha.length = 6) = false := decide_eq_false (by omega)
  have fb : decide (Hb.length = 6) = false := decide_eq_false (by omega)
  rw [fa] at a1 a2
  rw [fb] at b1 b2
  have hp : pgOf Ha d.name = pgOf Hb d.name := by rw [hn]; exact h.pg
  rw [hp] at a1 a2
  refine ⟨⟨h.a.doF d, h.b.doF d, ?_, h.only.doF d (fun _ => hn)⟩, a1.trans b1.symm⟩
  rw [← hn, a2, b2]
theorem Twin.has {nm : List UInt8} {Ha Hb : List PageS} (h : Twin nm Ha Hb) : decide (nm ∈ Ha.map PageS.name) = decide (nm ∈ Hb.map PageS.name) := by
  have ha := pgOf_none (H := Ha) (nm := nm)
  have hb := pgOf_none (H := Hb) (nm := nm)
  rw [h.pg] at ha
  have := ha.symm.trans hb
  by_cases h1 : nm ∈ Ha.map PageS.name
  · have : nm ∈ Hb.map PageS.name := Decidable.not_not.1 fun h2 => this.2 h2 h1
    rw [decide_eq_true h1, decide_eq_true this]
  · have : nm ∉ Hb.map PageS.name := this.1 h1
    rw [decide_eq_false h1, decide_eq_false this]
/-- the deeds that are left of many: those that make no other text -/
def keepOwn (nm : List UInt8) (D : List Dd) : List Dd := D.filter fun d => !(decide (d.kind = 1) && !(decide (d.name = nm)))
theorem keepOwn_mem {nm : List UInt8} {D : List Dd} {d : Dd} (h : d ∈ keepOwn nm D) : d.kind = 1 → d.name = nm := by
  unfold keepOwn at h
  rw [List.mem_filter] at h
  intro hk
  simpa [hk] using h.2
def Room (nm : List UInt8) (D : List Dd) : Prop := D.length ≤ 5 ∨ ∀ d ∈ D, d.kind = 1 → d.name = nm
def ownD (nm : List UInt8) (D : List Dd) : List Dd := D.filter fun d => decide (d.name = nm)
theorem room_keep (nm : List UInt8) (D : List Dd) : Room nm (if 5 < D.length then keepOwn nm D else D) := by
  split
  · exact .inr fun d hd => keepOwn_mem hd
  · exact .inl (by omega)
theorem run_length (H : List PageS) : ∀ (D : List Dd), (runF H D).length ≤ H.length + D.length := by
  intro D
  induction D generalizing H with
  | nil => simp [runF]
  | cons d D ih =>
    have h1 := ih (doF H d).2
    have h2 := doF_length H d
    have e : runF H (d :: D) = runF (doF H d).2 D := rfl
    rw [e]; simp; omega
theorem run_all {nm : List UInt8} {H : List PageS} (h : AllNm H nm) : ∀ (D : List Dd), (∀ d ∈ D, d.kind = 1 → d.name = nm) → AllNm (runF H D) nm := by
  intro D
  induction D generalizing H with
  | nil => exact fun _ => h
  | cons d D ih =>
    intro hD
    have e : runF H (d :: D) = runF (doF H d).2 D := rfl
    rw [e]
    exact ih (h.doF d (hD d (by simp))) (fun x hx => hD x (by simp [hx]))
theorem room_len {nm : List UInt8} {D : List Dd} (hR : Room nm D) (k : Nat) (hk : k ≤ D.length) : (runF [] (D.take k)).length ≤ 5 := by
  rcases hR with h | h
  · have := run_length [] (D.take k)
    simp at this; omega
  · have h1 := run_all (nm := nm) (H := []) (fun p hp => by simp at hp) (D.take k) (fun d hd => h d (List.mem_of_mem_take hd))
    have := h1.len (Named.nil |> fun n => runF_named n (D.take k))
    omega
theorem ownD_snoc_yes {nm : List UInt8} {D : List Dd} {k : Nat} (hk : k < D.length) (h : D[k].name = nm) : ownD nm (D.take (k + 1)) = ownD nm (D.take k) ++ [D[k]] := by
  unfold ownD
  rw [List.take_succ_eq_append_getElem hk, List.filter_append]
  simp [List.filter_cons, h]
theorem ownD_snoc_no {nm : List UInt8} {D : List Dd} {k : Nat} (hk : k < D.length) (h : D[k].name ≠ nm) : ownD nm (D.take (k + 1)) = ownD nm (D.take k) := by
  unfold ownD
  rw [List.take_succ_eq_append_getElem hk, List.filter_append]
  simp [List.filter_cons, h]
theorem twin_run {nm : List UInt8} {D : List Dd} (hR : Room nm D) : ∀ k, k ≤ D.length → Twin nm (runF [] (D.take k)) (runF [] (ownD nm (D.take k)))
  | 0, _ => by simpa [ownD, runF] using Twin.nil nm
  | k + 1, hk => by
    have ih := twin_run hR k (by omega)
    have hk' : k < D.length := by omega
    have h5 := room_len hR k (by omega)
    by_cases hn : D[k].name = nm
    · rw [ownD_snoc_yes hk' hn, List.take_succ_eq_append_getElem hk', runF_snoc, runF_snoc]
      exact (ih.own D[k] hn h5).1
    · rw [ownD_snoc_no hk' hn, List.take_succ_eq_append_getElem hk', runF_snoc]
      exact ih.other D[k] hn
theorem twin_same {nm : List UInt8} {D : List Dd} (hR : Room nm D) (k : Nat) (hk : k < D.length) (hn : D[k].name = nm) : (doF (runF [] (D.take k)) D[k]).1 = (doF (runF [] (ownD nm (D.take k))) D[k]).1 :=
  ((twin_run hR k (by omega)).own D[k] hn (room_len hR k (by omega))).2
end Go.Proofs.YtclebkgfogienaaDoor
