/- The editor: what each call of undo does to its struct and its two rows of texts. -/
import Derived.Test.YtclebkgfogienaaDoorOwn
import Derived.Test.YtclebkgfogienaaDoorEdit
import Derived.BigRegion
namespace Go.Proofs.YtclebkgfogienaaDoor
set_option linter.unusedSimpArgs false
set_option linter.unusedVariables false
open Go.RowKit

structure EdS where
  text : List UInt8
  back : List (List UInt8)
  onward : List (List UInt8)

def IsEd (w : World) (g : Nat) (E : EdS) (fp : List Nat) : Prop :=
  ∃ A1 c1 A2 c2, w.heap[g]? = some (.cells #[.string (bs E.text), .slice A1 E.back.length c1, .slice A2 E.onward.length c2] 91 (0, 0)) ∧
    OwnC 9 1 w A1 E.back.length c1 (strCells E.back) ∧ OwnC 9 1 w A2 E.onward.length c2 (strCells E.onward) ∧ fp = g :: (blk A1 ++ blk A2) ∧ fp.Nodup

theorem IsEd.lt {w : World} {g : Nat} {E : EdS} {fp : List Nat} (h : IsEd w g E fp) : ∀ b ∈ fp, b < w.heap.size := by
  obtain ⟨A1, c1, A2, c2, h1, h2, h3, rfl, _⟩ := h
  intro b hb
  simp at hb
  rcases hb with rfl | hb | hb
  · exact blk_lt h1
  · exact h2.lt b hb
  · exact h3.lt b hb
theorem IsEd.upd {w w' : World} {g : Nat} {E : EdS} {fp S : List Nat} (h : IsEd w g E fp) (hu : Upd S w w') (hS : ∀ b ∈ fp, b ∉ S) : IsEd w' g E fp := by
  obtain ⟨A1, c1, A2, c2, h1, h2, h3, rfl, hn⟩ := h
  exact ⟨A1, c1, A2, c2, (hu.block g (blk_lt h1) (hS g (by simp))).trans h1, h2.upd hu (fun b hb => hS b (by simp [hb])), h3.upd hu (fun b hb => hS b (by simp [hb])), rfl, hn⟩
theorem IsEd.below {w w' : World} {g : Nat} {E : EdS} {fp : List Nat} (h : IsEd w g E fp) (hu : Below w.heap.size w w') : IsEd w' g E fp := h.upd (Upd.of (S := []) hu) (by simp)

set_option maxRecDepth 100000 in
theorem undo_new (s : List UInt8) (w : World) (hs : s.length ≤ 200) :
    Calls Tryd.prog 28 #[.string (bs s)] w fun e w' => ∃ g, e = .returned (.tuple #[.pointer (some ⟨g, 0, none⟩), .int .i64 0]) ∧ IsEd w' g ⟨s, [], []⟩ [g] ∧ w.heap.size ≤ g ∧ Below w.heap.size w w' := by
  go_enter Tryd.func28, Tryd.ntmps28
  go_wp2
  go_ret2
  exact ⟨w.heap.size, rfl, ⟨none, 0, none, 0, heap_new _ _, OwnC.nil _ _ _, OwnC.nil _ _ _, rfl, by simp⟩, Nat.le_refl _, (Below.refl _ _).alloc (Nat.le_refl _) _⟩

set_option maxRecDepth 100000 in
theorem undo_new_long (s : List UInt8) (w : World) (hs : ¬ s.length ≤ 200) :
    Calls Tryd.prog 28 #[.string (bs s)] w fun e w' => e = .returned (.tuple #[.pointer none, .int .i64 2]) ∧ Below w.heap.size w w' := by
  go_enter Tryd.func28, Tryd.ntmps28
  go_wp2
  go_ret2
  exact ⟨rfl, Below.refl _ _⟩

set_option maxRecDepth 100000 in
theorem undo_text (g : Nat) (E : EdS) (fp : List Nat) (w : World) (h : IsEd w g E fp) :
    Calls Tryd.prog 33 #[.pointer (some ⟨g, 0, none⟩)] w fun e w' => e = .returned (.string (bs E.text)) ∧ Below w.heap.size w w' := by
  obtain ⟨A1, c1, A2, c2, h1, h2, h3, rfl, hn⟩ := h
  have k0 : w.cell? ⟨g, 0, none⟩ = some (.string (bs E.text)) := (blk_cell h1 0).trans rfl
  clear h1 h2 h3 hn
  go_enter Tryd.func33, Tryd.ntmps33
  go_wp2
  go_ret
  exact ⟨rfl, Below.refl _ _⟩

theorem not_blk1 {g : Nat} {A1 A2 : Option Addr} (h : (g :: (blk A1 ++ blk A2)).Nodup) : g ∉ blk A1 := by
  simp at h; exact h.1.1
theorem not_blk2 {g : Nat} {A1 A2 : Option Addr} (h : (g :: (blk A1 ++ blk A2)).Nodup) : g ∉ blk A2 := by
  simp at h; exact h.1.2
theorem ed_nodup {g : Nat} {A1 A2 : Option Addr} (h1 : g ∉ blk A1) (h2 : g ∉ blk A2) (h3 : ∀ b ∈ blk A1, b ∉ blk A2) : (g :: (blk A1 ++ blk A2)).Nodup := by
  have hx : ∀ A, (blk A).Nodup := fun A => by cases A <;> simp [blk]
  refine List.nodup_cons.2 ⟨by simp [h1, h2], List.nodup_append.2 ⟨hx _, hx _, fun a ha b hb hab => h3 a ha (hab ▸ hb)⟩⟩
theorem ed_nd {g : Nat} {A1 A2 : Option Addr} (h : (g :: (blk A1 ++ blk A2)).Nodup) : ∀ b ∈ blk A1, b ∉ blk A2 := by
  intro b hb hb2
  exact (List.nodup_append.1 (List.nodup_cons.1 h).2).2.2 b hb b hb2 rfl
theorem at_alloc {w w2 : World} {o : Obj} {S : List Nat} {g : Nat} {x : Obj} (hu : Upd S (w.drew.alloc o) w2) (h : w.heap[g]? = some x) (hg : g ∉ S) : w2.heap[g]? = some x :=
  (hu.block g (by have := blk_lt h; simp; omega) hg).trans ((Below.heap_alloc w.drew o g (blk_lt h)).trans h)

/-- what a call that may turn an editor leaves -/
def EdPost (g : Nat) (E : EdS) (fp : List Nat) (w : World) (v : Value) (e : Ending) (w' : World) : Prop :=
  e = .returned v ∧ ∃ fp', IsEd w' g E fp' ∧ Upd fp w w' ∧ ∀ b ∈ fp', b ∈ fp ∨ w.heap.size ≤ b

theorem EdPost.same {g : Nat} {E : EdS} {fp : List Nat} {w w' : World} {v : Value} (h : IsEd w g E fp) (hb : Below w.heap.size w w') : EdPost g E fp w v (.returned v) w' :=
  ⟨rfl, fp, h.below hb, Upd.of hb, fun _ h => .inl h⟩

def doEd (E : EdS) (l : List Ed) : Int × EdS :=
  if (apply E.text l).2 ≠ 0 then ((apply E.text l).2, E) else if l = [] then (5, E) else
    (0, ⟨(apply E.text l).1, if 30 < E.back.length + 1 then (E.back ++ [E.text]).tail else E.back ++ [E.text], []⟩)

set_option maxRecDepth 100000 in
set_option maxHeartbeats 800000 in
theorem undo_do_ok (g : Nat) (E : EdS) (fp : List Nat) (v : Value) (l : List Ed) (t : List UInt8) (w : World) (h : IsEd w g E fp) (hv : EditsAt w v l) (hl : E.text.length ≤ 200) (hbk : E.back.length ≤ 30)
    (ha : apply E.text l = (t, 0)) (hne : l ≠ []) :
    Calls Tryd.prog 29 #[.pointer (some ⟨g, 0, none⟩), v] w (EdPost g ⟨t, if 30 < E.back.length + 1 then (E.back ++ [E.text]).tail else E.back ++ [E.text], []⟩ fp w (.int .i64 0)) := by
  obtain ⟨A1, c1, A2, c2, h1, h2, h3, rfl, hn⟩ := h
  obtain ⟨tx, bk, onw⟩ := E
  simp only at *
  generalize hE : (EdS.mk t (if 30 < bk.length + 1 then (bk ++ [tx]).tail else bk ++ [tx]) []) = E'
  have HE := Lib.hid hE
  clear hE
  obtain ⟨i0, hi, hz0, hz1, hz2⟩ := info_parts info_str
  have HI := Lib.hid hi
  have HZ0 := Lib.hid hz0
  have HZ1 := Lib.hid hz1
  have HZ2 := Lib.hid hz2
  have HN := Lib.hid hn
  have HA := Lib.hid ha
  have H1 := Lib.hid h1
  have H2 := Lib.hid h2
  have H3 := Lib.hid h3
  have HV := Lib.hid hv
  obtain ⟨A, c, rfl, hlc, _⟩ := hv
  have hl0 : ((l.length : Int) == 0) = false := by
    have := List.length_pos_iff.2 hne
    simp; omega
  have k0 : w.cell? ⟨g, 0, none⟩ = some (.string (bs tx)) := (blk_cell h1 0).trans rfl
  clear hi hz0 hz1 hz2 hn ha h1 h2 h3 hne
  go_enter Tryd.func29, Tryd.ntmps29
  go_wp2_with fail
  refine (edit_apply tx _ l _ HV.out (by omega)).mono ?_
  rw [HA.out]
  rintro e w1 ⟨rfl, hb1⟩
  have g1 := hb1.block g (blk_lt H1.out)
  rw [H1.out] at g1
  have k0' : w1.cell? ⟨g, 0, none⟩ = some (.string (bs tx)) := (blk_cell g1 0).trans rfl
  have k1' : w1.cell? ⟨g, 1, none⟩ = some (.slice A1 bk.length c1) := (blk_cell g1 1).trans rfl
  have k2' : w1.cell? ⟨g, 2, none⟩ = some (.slice A2 onw.length c2) := (blk_cell g1 2).trans rfl
  have f1' : ∀ i, w1.frozen? ⟨g, i, none⟩ = false := fun i => blk_frozen g1 i
  have hO1 := H2.out.below hb1
  have hgl := blk_lt g1
  have qa1 : ∀ o, (w1.alloc o).cell? ⟨g, 1, none⟩ = some (.slice A1 bk.length c1) := fun o => (World.cell?_alloc_lt w1 o _ hgl).trans k1'
  have G1 := Lib.hid g1
  clear g1 k0
  go_wp2_with fail
  go_region_law (refine step_append_C rfl _ _ 33 9 1 16 rfl i0 _ Tryd.underlying33 HI.out HZ0.out HZ1.out HZ2.out rfl A1 bk.length c1 (strCells bk) rfl ((hO1.below ((Below.refl _ _).drew.alloc (Nat.le_refl _) (.cells #[.string (bs tx)] 9)))) ⟨w1.heap.size, 0, none⟩ 1 1 [.string (bs tx)] rfl rfl (cell_one_new' w1.drew _ _) (by intro u hu; simp at hu; subst hu; rfl) (by omega) (by unfold maxLen; omega) (by omega) ?_; intro A' c' w2 hO2 hu2 hbk2; have G2 := Lib.hid (at_alloc hu2 G1.out (not_blk1 HN.out)); have q1 : w2.cell? ⟨g, 1, none⟩ = some (.slice A1 bk.length c1) := (blk_cell G2.out 1).trans rfl; have qf : w2.frozen? ⟨g, 1, none⟩ = false := blk_frozen G2.out 1)
  all_goals
    obtain ⟨b', off', rfl, hnc, hlt⟩ := hO2.addr (by omega)
    have HU2 := Lib.hid hu2
    have HO2 := Lib.hid hO2
    have HB2 := Lib.hid hbk2
    have e0 : w2.cell? ⟨g, 0, none⟩ = some (.string (bs tx)) := (blk_cell G2.out 0).trans rfl
    have e2 : w2.cell? ⟨g, 2, none⟩ = some (.slice A2 onw.length c2) := (blk_cell G2.out 2).trans rfl
    have e3 : w2.frozen? ⟨g, 0, none⟩ = false := blk_frozen G2.out 0
    have e4 : w2.frozen? ⟨g, 2, none⟩ = false := blk_frozen G2.out 2
    clear hu2 hO2 hbk2 hO1 k0' k1' k2' f1' qa1
    have hne : Hid (g ∉ blk (some ⟨b', off', none⟩)) := by
      intro hm
      rcases HB2.out g hm with h | h
      · exact not_blk1 HN.out h
      · simp at h; omega
    have hT : Hid (Upd (g :: (blk A1 ++ blk A2)) w w2 ∧ ∀ b ∈ blk (some ⟨b', off', none⟩), b ∈ g :: (blk A1 ++ blk A2) ∨ w.heap.size ≤ b) := by
      refine ⟨(Upd.of (hb1.trans ((((Below.refl _ _).alloc (Nat.le_refl _) _).drew).mono hb1.size))).trans HU2.out (fun x hx => .inl (by simp [hx])), fun b hb => ?_⟩
      rcases HB2.out b hb with h | h
      · exact .inl (by simp [h])
      · simp at h; have := hb1.size; exact .inr (by omega)
    by_cases h30 : 30 < bk.length + 1
    · have HE2 : Hid (E' = ⟨t, (bk ++ [tx]).tail, []⟩) := by rw [← HE.out, if_pos h30]; exact Lib.hid rfl
      have H30 := Lib.hid h30
      go_wp2
      go_ret
      rw [HE2.out]
      have hU := ((((Upd.setCell w2 g 1 (.slice (some ⟨b', off', none⟩) (bk.length + 1) c')).trans (Upd.setCell _ g 1 (.slice (some ⟨b', off' + 1, none⟩) bk.length (c' - 1))) (fun x hx => .inl hx)).trans (Upd.setCell _ g 0 (.string (bs t))) (fun x hx => .inl hx)).trans (Upd.setCell _ g 2 (.slice none 0 0)) (fun x hx => .inl hx))
      have hG := blk_set (blk_set (blk_set (blk_set G2.out 1 (.slice (some ⟨b', off', none⟩) (bk.length + 1) c')) 1 (.slice (some ⟨b', off' + 1, none⟩) bk.length (c' - 1))) 0 (.string (bs t))) 2 (.slice none 0 0)
      have hl : (bk ++ [tx]).tail.length = bk.length := by simp
      refine ⟨rfl, _, ⟨some ⟨b', off' + 1, none⟩, c' - 1, none, 0, ?_, ?_, OwnC.nil _ _ _, rfl, ?_⟩, hT.out.1.trans hU (fun x hx => .inl (by simp at hx; simp [hx])), ?_⟩
      · simp only [hl]; exact hG
      · have := (HO2.out.tail).upd hU (fun b hb hm => hne (by simp at hm; subst hm; exact hb))
        simp only [hl]
        simpa [strCells, List.map_tail] using this
      · simp [blk] at *; exact fun h => hne (by simp [blk, h])
      · intro b hb
        simp [blk] at hb
        rcases hb with rfl | rfl
        · exact .inl (by simp)
        · exact hT.out.2 b (by simp [blk])
    · have HE2 : Hid (E' = ⟨t, bk ++ [tx], []⟩) := by rw [← HE.out, if_neg h30]; exact Lib.hid rfl
      have H30 := Lib.hid h30
      go_wp2
      go_ret
      rw [HE2.out]
      have hU := (((Upd.setCell w2 g 1 (.slice (some ⟨b', off', none⟩) (bk.length + 1) c')).trans (Upd.setCell _ g 0 (.string (bs t))) (fun x hx => .inl hx)).trans (Upd.setCell _ g 2 (.slice none 0 0)) (fun x hx => .inl hx))
      have hG := blk_set (blk_set (blk_set G2.out 1 (.slice (some ⟨b', off', none⟩) (bk.length + 1) c')) 0 (.string (bs t))) 2 (.slice none 0 0)
      have hl : (bk ++ [tx]).length = bk.length + 1 := by simp
      refine ⟨rfl, _, ⟨some ⟨b', off', none⟩, c', none, 0, ?_, ?_, OwnC.nil _ _ _, rfl, ?_⟩, hT.out.1.trans hU (fun x hx => .inl (by simp at hx; simp [hx])), ?_⟩
      · simp only [hl]; exact hG
      · have := HO2.out.upd hU (fun b hb hm => hne (by simp at hm; subst hm; exact hb))
        simp only [hl]
        simpa [strCells] using this
      · simp [blk] at *; exact fun h => hne (by simp [blk, h])
      · intro b hb
        simp [blk] at hb
        rcases hb with rfl | rfl
        · exact .inl (by simp)
        · exact hT.out.2 b (by simp [blk])


set_option maxRecDepth 100000 in
set_option maxHeartbeats 800000 in
theorem undo_do_no (g : Nat) (E : EdS) (fp : List Nat) (v : Value) (l : List Ed) (n : Int) (w : World) (h : IsEd w g E fp) (hv : EditsAt w v l) (hl : E.text.length ≤ 200)
    (ha : (apply E.text l).2 = n) (hne : n ≠ 0) :
    Calls Tryd.prog 29 #[.pointer (some ⟨g, 0, none⟩), v] w (EdPost g E fp w (.int .i64 n)) := by
  have HP := Lib.hid h
  obtain ⟨A1, c1, A2, c2, h1, h2, h3, rfl, hn⟩ := h
  have H1 := Lib.hid h1
  have HV := Lib.hid hv
  have HA := Lib.hid ha
  have hne' : (n == 0) = false := by simp [hne]
  have k0 : w.cell? ⟨g, 0, none⟩ = some (.string (bs E.text)) := (blk_cell h1 0).trans rfl
  obtain ⟨A, c, rfl, hlc, _⟩ := hv
  clear hn ha h1 h2 h3 hne
  go_enter Tryd.func29, Tryd.ntmps29
  go_wp2_with fail
  refine (edit_apply E.text _ l _ HV.out (by omega)).mono ?_
  rw [HA.out]
  rintro e w1 ⟨rfl, hb1⟩
  go_wp2
  go_ret
  exact EdPost.same HP.out hb1

set_option maxRecDepth 100000 in
set_option maxHeartbeats 800000 in
theorem undo_do_nil (g : Nat) (E : EdS) (fp : List Nat) (v : Value) (w : World) (h : IsEd w g E fp) (hv : EditsAt w v []) (hl : E.text.length ≤ 200) (t : List UInt8)
    (ha : apply E.text [] = (t, 0)) :
    Calls Tryd.prog 29 #[.pointer (some ⟨g, 0, none⟩), v] w (EdPost g E fp w (.int .i64 5)) := by
  have HP := Lib.hid h
  obtain ⟨A1, c1, A2, c2, h1, h2, h3, rfl, hn⟩ := h
  have H1 := Lib.hid h1
  have HV := Lib.hid hv
  have HA := Lib.hid ha
  have k0 : w.cell? ⟨g, 0, none⟩ = some (.string (bs E.text)) := (blk_cell h1 0).trans rfl
  obtain ⟨A, c, rfl, hlc, _⟩ := hv
  clear hn ha h1 h2 h3
  go_enter Tryd.func29, Tryd.ntmps29
  go_wp2_with fail
  refine (edit_apply E.text _ [] _ HV.out (by omega)).mono ?_
  rw [HA.out]
  rintro e w1 ⟨rfl, hb1⟩
  go_wp2
  go_ret
  exact EdPost.same HP.out hb1

theorem apply_nil (s : List UInt8) (hs : s.length ≤ 200) : apply s [] = (s, 0) := by
  have h : chk (s.length : Int) [] = 0 := by
    unfold chk
    rw [if_neg (by omega), if_neg (by simp)]
    simp [eChk]
    omega
  unfold apply
  rw [if_pos h]
  rfl
theorem undo_do (g : Nat) (E : EdS) (fp : List Nat) (v : Value) (l : List Ed) (w : World) (h : IsEd w g E fp) (hv : EditsAt w v l) (hl : E.text.length ≤ 200) (hbk : E.back.length ≤ 30) :
    Calls Tryd.prog 29 #[.pointer (some ⟨g, 0, none⟩), v] w (EdPost g (doEd E l).2 fp w (.int .i64 (doEd E l).1)) := by
  unfold doEd
  by_cases h1 : (apply E.text l).2 ≠ 0
  · rw [if_pos h1]; exact undo_do_no g E fp v l _ w h hv hl rfl h1
  · rw [if_neg h1]
    by_cases h2 : l = []
    · subst h2
      rw [if_pos rfl]; exact undo_do_nil g E fp v w h hv hl _ (apply_nil _ hl)
    · rw [if_neg h2]
      exact undo_do_ok g E fp v l _ w h hv hl hbk (by rw [← Decidable.not_not.1 h1]) h2

set_option maxRecDepth 100000 in
set_option maxHeartbeats 800000 in
theorem undo_undo_no (g : Nat) (E : EdS) (fp : List Nat) (w : World) (h : IsEd w g E fp) (hb : E.back = []) :
    Calls Tryd.prog 30 #[.pointer (some ⟨g, 0, none⟩)] w (EdPost g E fp w (.int .i64 4)) := by
  have HP := Lib.hid h
  obtain ⟨A1, c1, A2, c2, h1, h2, h3, rfl, hn⟩ := h
  have k1 : w.cell? ⟨g, 1, none⟩ = some (.slice A1 0 c1) := by rw [blk_cell h1 1, hb]; rfl
  clear hn h1 h2 h3
  go_enter Tryd.func30, Tryd.ntmps30
  go_wp2
  go_ret
  exact EdPost.same HP.out (Below.refl _ _)

set_option maxRecDepth 100000 in
set_option maxHeartbeats 800000 in
theorem undo_undo_ok (g : Nat) (tx t : List UInt8) (bk onw : List (List UInt8)) (fp : List Nat) (w : World) (h : IsEd w g ⟨tx, bk ++ [t], onw⟩ fp) (ho : bk.length + 1 ≤ 30) (ho : onw.length ≤ 30) :
    Calls Tryd.prog 30 #[.pointer (some ⟨g, 0, none⟩)] w (EdPost g ⟨t, bk, onw ++ [tx]⟩ fp w (.int .i64 0)) := by
  obtain ⟨A1, c1, A2, c2, h1, h2, h3, rfl, hn⟩ := h
  simp only [List.length_append, List.length_cons, List.length_nil, Nat.zero_add] at h1 h2 h3
  obtain ⟨i0, hi, hz0, hz1, hz2⟩ := info_parts info_str
  obtain ⟨b1, off1, rfl, hc1, hlt1⟩ := h2.addr (by omega)
  have HI := Lib.hid hi
  have HZ0 := Lib.hid hz0
  have HZ1 := Lib.hid hz1
  have HZ2 := Lib.hid hz2
  have HN := Lib.hid hn
  have H1 := Lib.hid h1
  have H2 := Lib.hid h2
  have H3 := Lib.hid h3
  have k0' : w.cell? ⟨g, 0, none⟩ = some (.string (bs tx)) := (blk_cell h1 0).trans rfl
  have k1' : w.cell? ⟨g, 1, none⟩ = some (.slice (some ⟨b1, off1, none⟩) (bk.length + 1) c1) := (blk_cell h1 1).trans rfl
  have k2' : w.cell? ⟨g, 2, none⟩ = some (.slice A2 onw.length c2) := (blk_cell h1 2).trans rfl
  have f1' : ∀ i, w.frozen? ⟨g, i, none⟩ = false := fun i => blk_frozen h1 i
  have hgl := blk_lt h1
  have qa0 : ∀ o, (w.alloc o).cell? ⟨g, 2, none⟩ = some (.slice A2 onw.length c2) := fun o => (World.cell?_alloc_lt w o _ hgl).trans k2'
  have hl0 : (((bk.length : Int) + 1) == 0) = false := by simp; omega
  clear hi hz0 hz1 hz2 hn h1 h2 h3
  go_enter Tryd.func30, Tryd.ntmps30
  go_wp2_with fail
  go_region_law (refine step_append_C rfl _ _ 33 9 1 16 rfl i0 _ Tryd.underlying33 HI.out HZ0.out HZ1.out HZ2.out rfl A2 onw.length c2 (strCells onw) rfl ((H3.out.below ((Below.refl _ _).drew.alloc (Nat.le_refl _) (.cells #[.string (bs tx)] 9)))) ⟨w.heap.size, 0, none⟩ 1 1 [.string (bs tx)] rfl rfl (cell_one_new' w.drew _ _) (by intro u hu; simp at hu; subst hu; rfl) (by omega) (by unfold maxLen; omega) (by omega) ?_; intro A' c' w2 hO2 hu2 hbk2; have G2 := Lib.hid (at_alloc hu2 H1.out (not_blk2 HN.out)); have q1 : w2.cell? ⟨g, 2, none⟩ = some (.slice A2 onw.length c2) := (blk_cell G2.out 2).trans rfl; have qf : w2.frozen? ⟨g, 2, none⟩ = false := blk_frozen G2.out 2)
  all_goals
    have HU2 := Lib.hid hu2
    have HO2 := Lib.hid hO2
    have HB2 := Lib.hid hbk2
    clear hu2 hO2 hbk2 qa0 k0' k1' k2' f1' hlt1
    have hne : Hid (b1 ∉ blk A2) := by
      intro hm
      have := HN.out
      simp [blk] at this
      exact this.2.1 hm
    have hOb : Hid (OwnC 9 1 w2 (some ⟨b1, off1, none⟩) (bk.length + 1) c1 (strCells (bk ++ [t]))) := by
      refine Lib.hid ((H2.out.below ((((Below.refl _ _).alloc (Nat.le_refl _) _).drew))).upd HU2.out (fun b hb hm => ?_))
      simp [blk] at hb; subst hb; exact hne hm
    have hcell : w2.cell? ⟨b1, off1 + bk.length, none⟩ = some (.string (bs t)) := by
      rw [hOb.out.cell bk.length (by omega)]
      simp [strCells]
    have hb1 : b1 ≠ g := fun hx => not_blk1 HN.out (by simp [blk, hx])
    have hu3 := HU2.out
    obtain ⟨w3, hw3⟩ : ∃ w3, w3 = w2.setCell ⟨g, 2, none⟩ (.slice A' (onw.length + 1) c') := ⟨_, rfl⟩
    have HW3 := Lib.hid hw3
    have G3 : Hid (w3.heap[g]? = some (.cells #[.string (bs tx), .slice (some ⟨b1, off1, none⟩) (bk.length + 1) c1, .slice A' (onw.length + 1) c'] 91 (0, 0))) := by
      rw [hw3]; exact Lib.hid (blk_set G2.out 2 _)
    have e0 : w3.cell? ⟨g, 0, none⟩ = some (.string (bs tx)) := (blk_cell G3.out 0).trans rfl
    have e1 : w3.cell? ⟨g, 1, none⟩ = some (.slice (some ⟨b1, off1, none⟩) (bk.length + 1) c1) := (blk_cell G3.out 1).trans rfl
    have e2 : ∀ i, w3.frozen? ⟨g, i, none⟩ = false := fun i => blk_frozen G3.out i
    have e3 : w3.cell? ⟨b1, off1 + bk.length, none⟩ = some (.string (bs t)) := by
      rw [hw3, ← hcell]
      have hu4 := Upd.setCell w2 g 2 (.slice A' (onw.length + 1) c')
      have := (hOb.out.upd hu4 (fun b hb hm => by simp [blk] at hb hm; exact hb1 (hb.symm.trans hm))).cell bk.length (by omega)
      rw [this, hOb.out.cell bk.length (by omega)]
    rw [← hw3]
    clear hw3 hcell q1 qf hu3
    have hi1 : (bk.length + 1 : Int) - 1 = bk.length := by omega
    go_wp2_with fail
    go_region
    all_goals
      go_wp2
      go_ret
      have hl : (onw ++ [tx]).length = onw.length + 1 := by simp
      have hU := ((((Upd.setCell w2 g 2 (.slice A' (onw.length + 1) c')).trans (Upd.setCell _ g 0 (.string (bs t))) (fun x hx => .inl hx)).trans (Upd.setCell _ g 1 (.slice (some ⟨b1, off1, none⟩) bk.length c1)) (fun x hx => .inl hx))).then (Below.refl _ _).drew
      rw [← HW3.out] at hU
      have hne2 : g ∉ blk A' := by
        intro hm
        rcases HB2.out g hm with h | h
        · exact not_blk2 HN.out h
        · simp at h; omega
      have hnb : b1 ∉ blk A' := by
        intro hm
        rcases HB2.out b1 hm with h | h
        · exact hne h
        · have := H2.out.lt b1 (by simp [blk]); simp at h; omega
      refine ⟨rfl, _, ⟨some ⟨b1, off1, none⟩, c1, A', c', ?_, ?_, ?_, rfl, ?_⟩, ?_, ?_⟩
      · simp only [hl]
        exact blk_set (blk_set G3.out 0 (.string (bs t))) 1 (.slice (some ⟨b1, off1, none⟩) bk.length c1)
      · have := (hOb.out.take bk.length (by omega)).upd hU (fun b hb hm => by simp [blk] at hb hm; exact hb1 (hb.symm.trans hm))
        simpa [strCells] using this
      · have := HO2.out.upd hU (fun b hb hm => by simp at hm; subst hm; exact hne2 hb)
        simp only [hl]
        simpa [strCells] using this
      · exact ed_nodup (by simpa [blk] using hb1.symm) hne2 (fun b hb hm => by simp [blk] at hb; subst hb; exact hnb hm)
      · exact ((Upd.of (S := g :: (blk (some ⟨b1, off1, none⟩) ++ blk A2)) (((Below.refl _ _).alloc (Nat.le_refl _) _).drew)).trans HU2.out (fun x hx => .inl (by simp [hx]))).trans hU (fun x hx => .inl (by simp at hx; simp [hx]))
      · intro b hb
        simp only [List.mem_cons, List.mem_append] at hb ⊢
        rcases hb with rfl | hb | hb
        · exact .inl (.inl rfl)
        · exact .inl (.inr (.inl hb))
        · rcases HB2.out b hb with h | h
          · exact .inl (.inr (.inr h))
          · simp at h; exact .inr (by omega)
set_option maxRecDepth 100000 in
set_option maxHeartbeats 800000 in
theorem undo_redo_no (g : Nat) (E : EdS) (fp : List Nat) (w : World) (h : IsEd w g E fp) (hb : E.onward = []) :
    Calls Tryd.prog 31 #[.pointer (some ⟨g, 0, none⟩)] w (EdPost g E fp w (.int .i64 4)) := by
  have HP := Lib.hid h
  obtain ⟨A1, c1, A2, c2, h1, h2, h3, rfl, hn⟩ := h
  have k1 : w.cell? ⟨g, 2, none⟩ = some (.slice A2 0 c2) := by rw [blk_cell h1 2, hb]; rfl
  clear hn h1 h2 h3
  go_enter Tryd.func31, Tryd.ntmps31
  go_wp2
  go_ret
  exact EdPost.same HP.out (Below.refl _ _)

set_option maxRecDepth 100000 in
set_option maxHeartbeats 800000 in
theorem undo_redo_ok (g : Nat) (tx t : List UInt8) (bk onw : List (List UInt8)) (fp : List Nat) (w : World) (h : IsEd w g ⟨tx, bk, onw ++ [t]⟩ fp) (ho : onw.length + 1 ≤ 30) (ho : bk.length ≤ 30) :
    Calls Tryd.prog 31 #[.pointer (some ⟨g, 0, none⟩)] w (EdPost g ⟨t, bk ++ [tx], onw⟩ fp w (.int .i64 0)) := by
  obtain ⟨A1, c1, A2, c2, h1, h2, h3, rfl, hn⟩ := h
  simp only [List.length_append, List.length_cons, List.length_nil, Nat.zero_add] at h1 h3 h2
  obtain ⟨i0, hi, hz0, hz1, hz2⟩ := info_parts info_str
  obtain ⟨b2, off2, rfl, hc1, hlt2⟩ := h3.addr (by omega)
  have HI := Lib.hid hi
  have HZ0 := Lib.hid hz0
  have HZ1 := Lib.hid hz1
  have HZ2 := Lib.hid hz2
  have HN := Lib.hid hn
  have H1 := Lib.hid h1
  have H3 := Lib.hid h3
  have H2 := Lib.hid h2
  have k0' : w.cell? ⟨g, 0, none⟩ = some (.string (bs tx)) := (blk_cell h1 0).trans rfl
  have k1' : w.cell? ⟨g, 2, none⟩ = some (.slice (some ⟨b2, off2, none⟩) (onw.length + 1) c2) := (blk_cell h1 2).trans rfl
  have k2' : w.cell? ⟨g, 1, none⟩ = some (.slice A1 bk.length c1) := (blk_cell h1 1).trans rfl
  have f1' : ∀ i, w.frozen? ⟨g, i, none⟩ = false := fun i => blk_frozen h1 i
  have hgl := blk_lt h1
  have qa0 : ∀ o, (w.alloc o).cell? ⟨g, 1, none⟩ = some (.slice A1 bk.length c1) := fun o => (World.cell?_alloc_lt w o _ hgl).trans k2'
  have hl0 : (((onw.length : Int) + 1) == 0) = false := by simp; omega
  clear hi hz0 hz1 hz2 hn h1 h3 h2
  go_enter Tryd.func31, Tryd.ntmps31
  go_wp2_with fail
  go_region_law (refine step_append_C rfl _ _ 33 9 1 16 rfl i0 _ Tryd.underlying33 HI.out HZ0.out HZ1.out HZ2.out rfl A1 bk.length c1 (strCells bk) rfl ((H2.out.below ((Below.refl _ _).drew.alloc (Nat.le_refl _) (.cells #[.string (bs tx)] 9)))) ⟨w.heap.size, 0, none⟩ 1 1 [.string (bs tx)] rfl rfl (cell_one_new' w.drew _ _) (by intro u hu; simp at hu; subst hu; rfl) (by omega) (by unfold maxLen; omega) (by omega) ?_; intro A' c' w2 hO2 hu2 hbk2; have G2 := Lib.hid (at_alloc hu2 H1.out (not_blk1 HN.out)); have q1 : w2.cell? ⟨g, 1, none⟩ = some (.slice A1 bk.length c1) := (blk_cell G2.out 1).trans rfl; have qf : w2.frozen? ⟨g, 1, none⟩ = false := blk_frozen G2.out 1)
  all_goals
    have HU2 := Lib.hid hu2
    have HO2 := Lib.hid hO2
    have HB2 := Lib.hid hbk2
    clear hu2 hO2 hbk2 qa0 k0' k1' k2' f1' hlt2
    have hne : Hid (b2 ∉ blk A1) := by
      intro hm
      exact ed_nd HN.out _ hm (by simp [blk])
    have hOb : Hid (OwnC 9 1 w2 (some ⟨b2, off2, none⟩) (onw.length + 1) c2 (strCells (onw ++ [t]))) := by
      refine Lib.hid ((H3.out.below ((((Below.refl _ _).alloc (Nat.le_refl _) _).drew))).upd HU2.out (fun b hb hm => ?_))
      simp [blk] at hb; subst hb; exact hne hm
    have hcell : w2.cell? ⟨b2, off2 + onw.length, none⟩ = some (.string (bs t)) := by
      rw [hOb.out.cell onw.length (by omega)]
      simp [strCells]
    have hb2 : b2 ≠ g := fun hx => not_blk2 HN.out (by simp [blk, hx])
    have hu3 := HU2.out
    obtain ⟨w3, hw3⟩ : ∃ w3, w3 = w2.setCell ⟨g, 1, none⟩ (.slice A' (bk.length + 1) c') := ⟨_, rfl⟩
    have HW3 := Lib.hid hw3
    have G3 : Hid (w3.heap[g]? = some (.cells #[.string (bs tx), .slice A' (bk.length + 1) c', .slice (some ⟨b2, off2, none⟩) (onw.length + 1) c2] 91 (0, 0))) := by
      rw [hw3]; exact Lib.hid (blk_set G2.out 1 _)
    have e0 : w3.cell? ⟨g, 0, none⟩ = some (.string (bs tx)) := (blk_cell G3.out 0).trans rfl
    have e1 : w3.cell? ⟨g, 2, none⟩ = some (.slice (some ⟨b2, off2, none⟩) (onw.length + 1) c2) := (blk_cell G3.out 2).trans rfl
    have e2 : ∀ i, w3.frozen? ⟨g, i, none⟩ = false := fun i => blk_frozen G3.out i
    have e3 : w3.cell? ⟨b2, off2 + onw.length, none⟩ = some (.string (bs t)) := by
      rw [hw3, ← hcell]
      have hu4 := Upd.setCell w2 g 1 (.slice A' (bk.length + 1) c')
      have := (hOb.out.upd hu4 (fun b hb hm => by simp [blk] at hb hm; exact hb2 (hb.symm.trans hm))).cell onw.length (by omega)
      rw [this, hOb.out.cell onw.length (by omega)]
    rw [← hw3]
    clear hw3 hcell q1 qf hu3
    have hi1 : (onw.length + 1 : Int) - 1 = onw.length := by omega
    go_wp2_with fail
    go_region
    all_goals
      go_wp2
      go_ret
      have hl : (bk ++ [tx]).length = bk.length + 1 := by simp
      have hU := ((((Upd.setCell w2 g 1 (.slice A' (bk.length + 1) c')).trans (Upd.setCell _ g 0 (.string (bs t))) (fun x hx => .inl hx)).trans (Upd.setCell _ g 2 (.slice (some ⟨b2, off2, none⟩) onw.length c2)) (fun x hx => .inl hx))).then (Below.refl _ _).drew
      rw [← HW3.out] at hU
      have hne2 : g ∉ blk A' := by
        intro hm
        rcases HB2.out g hm with h | h
        · exact not_blk1 HN.out h
        · simp at h; omega
      have hnb : b2 ∉ blk A' := by
        intro hm
        rcases HB2.out b2 hm with h | h
        · exact hne h
        · have := H3.out.lt b2 (by simp [blk]); simp at h; omega
      refine ⟨rfl, _, ⟨A', c', some ⟨b2, off2, none⟩, c2, ?_, ?_, ?_, rfl, ?_⟩, ?_, ?_⟩
      · simp only [hl]
        exact blk_set (blk_set G3.out 0 (.string (bs t))) 2 (.slice (some ⟨b2, off2, none⟩) onw.length c2)
      · have := HO2.out.upd hU (fun b hb hm => by simp at hm; subst hm; exact hne2 hb)
        simp only [hl]
        simpa [strCells] using this
      · have := (hOb.out.take onw.length (by omega)).upd hU (fun b hb hm => by simp [blk] at hb hm; exact hb2 (hb.symm.trans hm))
        simpa [strCells] using this
      · exact ed_nodup hne2 (by simpa [blk] using hb2.symm) (fun b hb hm => by simp [blk] at hm; subst hm; exact hnb hb)
      · exact ((Upd.of (S := g :: (blk A1 ++ blk (some ⟨b2, off2, none⟩))) (((Below.refl _ _).alloc (Nat.le_refl _) _).drew)).trans HU2.out (fun x hx => .inl (by simp [hx]))).trans hU (fun x hx => .inl (by simp at hx; simp [hx]))
      · intro b hb
        simp only [List.mem_cons, List.mem_append] at hb ⊢
        rcases hb with rfl | hb | hb
        · exact .inl (.inl rfl)
        · rcases HB2.out b hb with h | h
          · exact .inl (.inr (.inl h))
          · simp at h; exact .inr (by omega)
        · exact .inl (.inr (.inr hb))

def undoEd (E : EdS) : Int × EdS :=
  match E.back.getLast? with
  | none => (4, E)
  | some t => (0, ⟨t, E.back.dropLast, E.onward ++ [E.text]⟩)
def redoEd (E : EdS) : Int × EdS :=
  match E.onward.getLast? with
  | none => (4, E)
  | some t => (0, ⟨t, E.back ++ [E.text], E.onward.dropLast⟩)
theorem undo_undo (g : Nat) (E : EdS) (fp : List Nat) (w : World) (h : IsEd w g E fp) (hl : E.back.length + E.onward.length ≤ 30) :
    Calls Tryd.prog 30 #[.pointer (some ⟨g, 0, none⟩)] w (EdPost g (undoEd E).2 fp w (.int .i64 (undoEd E).1)) := by
  obtain ⟨tx, bk, onw⟩ := E
  rcases List.eq_nil_or_concat bk with rfl | ⟨bk, t, rfl⟩
  · exact undo_undo_no g _ fp w h rfl
  · simp only [List.concat_eq_append] at h hl ⊢
    simp at hl
    have := undo_undo_ok g tx t bk onw fp w h (by omega) (by omega)
    simpa [undoEd] using this
theorem undo_redo (g : Nat) (E : EdS) (fp : List Nat) (w : World) (h : IsEd w g E fp) (hl : E.back.length + E.onward.length ≤ 30) :
    Calls Tryd.prog 31 #[.pointer (some ⟨g, 0, none⟩)] w (EdPost g (redoEd E).2 fp w (.int .i64 (redoEd E).1)) := by
  obtain ⟨tx, bk, onw⟩ := E
  rcases List.eq_nil_or_concat onw with rfl | ⟨onw, t, rfl⟩
  · exact undo_redo_no g _ fp w h rfl
  · simp only [List.concat_eq_append] at h hl ⊢
    simp at hl
    have := undo_redo_ok g tx t bk onw fp w h (by omega) (by omega)
    simpa [redoEd] using this
end Go.Proofs.YtclebkgfogienaaDoor
