/- What a call of House.Do leaves: a crash, a drop, a beginning, and the errors. -/
import Derived.Test.YtclebkgfogienaaDoorDo
namespace Go.Proofs.YtclebkgfogienaaDoor
set_option linter.unusedSimpArgs false
set_option linter.unusedVariables false
open Go.RowKit

theorem pk_new {b o : Nat} {name : List UInt8} {ge gl g : Nat} {E : EdS} {L' : LfS} {fp fe fl fl' : List Nat} {t : List UInt8} {w w1 w3 : World} {v : Value} (hPG : PgAt w b o name ge gl) (hb : b ∉ fp) (hE : IsEd w ge E fe) (hfp : fp = fe ++ fl) (hd : Dis fe fl)
    (hL : IsLeaf w1 gl L' fl') (hu : Upd fl w w1) (hf : Fresh w fl' fl) (hE3 : IsEd w3 g ⟨t, [], []⟩ [g]) (hg : w1.heap.size ≤ g) (hb3 : Below w1.heap.size w1 w3) :
    PkPost b o gl ⟨t, [], []⟩ L' fp w v (.returned v) (w3.setCell ⟨b, o + 1, none⟩ (.pointer (some ⟨g, 0, none⟩))) := by
  have hbf : b ∉ fl := fun hm => hb (by rw [hfp]; simp [hm])
  have hbl := hPG.lt
  have hbl1 : b < w1.heap.size := Nat.lt_of_lt_of_le hbl hu.size
  obtain ⟨p1, p2, p3⟩ := IsPg.leaf hE hfp hd hL hu hf
  have hset := Upd.setCell w3 b (o + 1) (.pointer (some ⟨g, 0, none⟩))
  have hgb : g ≠ b := by omega
  refine ⟨rfl, g, [g] ++ fl', ⟨[g], fl', hE3.upd hset (by simpa using hgb), (hL.below hb3).upd hset ?_, rfl, ?_⟩, ?_, ?_, ?_⟩
  · intro x hx hm
    simp at hm
    subst hm
    rcases hf x hx with h | h
    · exact hbf h
    · omega
  · intro x hx hm
    simp at hx; subst hx
    have := hL.lt x hm
    omega
  · exact ((p2.mono (T := b :: fp) (fun x hx => by simp [hx])).then hb3).trans hset (fun x hx => .inl (by simp at hx; simp [hx]))
  · intro x hx
    rcases List.mem_append.1 hx with h | h
    · simp at h; subst h; have := p2.size; exact .inr (by omega)
    · exact p3 x (by simp [h])
  · intro cur T fr hc
    have e1 : w3.heap[b]? = some (.cells cur T fr) := by rw [hb3.block b hbl1, hu.block b hbl hbf, hc]
    exact blk_set e1 _ _

set_option maxRecDepth 100000 in
set_option maxHeartbeats 1600000 in
theorem house_do_crash (B gh b off c k : Nat) (R : List PgM) (n : Int) (nm tx : List UInt8) (eds : List Ed) (ev : Value) (w : World) (hM : IsHouseM w gh R (some ⟨b, off, none⟩) c) (h6 : R.length ≤ 6) (hkl : k < R.length) (hidx : idxI (R.map PgM.s) nm = k) (hnm : nameE nm = 0) (hP : PgOk R[k].s.E R[k].s.L) :
    Calls Tryd.prog 12 #[.pointer (some ⟨gh, 0, none⟩), .agg #[.int .i64 7, .int .i64 n, .string (bs nm), .string (bs tx), ev]] w (HsPost gh ((R.map PgM.s).set k ⟨R[k].s.name, (pgCrash R[k].s.E R[k].s.L n).2.1, (pgCrash R[k].s.E R[k].s.L n).2.2⟩) (hfp gh R (some ⟨b, off, none⟩)) w (.tuple #[.string ByteArray.empty, .int .i64 (pgCrash R[k].s.E R[k].s.L n).1])) := by
  generalize hRR : pgCrash R[k].s.E R[k].s.L n = RR
  obtain ⟨r, E', L'⟩ := RR
  have HRR := Lib.hid hRR
  simp only
  clear hRR
  have HM := Lib.hid hM
  have HX := Lib.hid hidx
  have HN := Lib.hid hnm
  have HPK := Lib.hid hP
  have hgl := blk_lt hM.cell
  clear hM hidx hnm hP
  go_enter Tryd.func12, Tryd.ntmps12
  go_wp2_with fail
  refine (house_name nm _).mono ?_
  rw [HN.out]
  rintro e w1 ⟨rfl, hb1⟩
  have hB1 : Below w.heap.size w w1 := ((Below.refl _ _).alloc (Nat.le_refl _) _).trans (hb1.mono (by simp))
  have hs1 : w.heap.size + 1 ≤ w1.heap.size := by have := hb1.size; simp at this; exact this
  have hd1 := (hb1.block w.heap.size (by simp)).trans (heap_new w (.cells #[.int .i64 7, .int .i64 n, .string (bs nm), .string (bs tx), ev] 25))
  have hM1 := HM.out.upd (Upd.of (S := []) hB1) (by simp)
  have HM1 := Lib.hid hM1
  have HB1 := Lib.hid hB1
  have HD1 := Lib.hid hd1
  have HS1 := Lib.hid hs1
  have c0 : w1.cell? ⟨gh, 0, none⟩ = some (.slice (some ⟨b, off, none⟩) R.length c) := (blk_cell hM1.cell 0).trans rfl
  have k0 : w1.cell? ⟨w.heap.size, 0, none⟩ = some (.int .i64 7) := (blk_cell hd1 0).trans rfl
  have k2 : w1.cell? ⟨w.heap.size, 2, none⟩ = some (.string (bs nm)) := (blk_cell hd1 2).trans rfl
  clear hM1 hb1 hB1 hs1 hd1
  go_wp2_with fail
  refine (house_index (some ⟨b, off, none⟩) c R nm w.heap.size w1 HM1.out.own h6 k2 (by have := HS1.out; omega)).mono ?_
  rw [HX.out]
  rintro e w2 ⟨rfl, hb2⟩
  have hB2 := HB1.out.trans (hb2.mono HB1.out.size)
  have hd2 := (hb2.block w.heap.size (by have := HS1.out; omega)).trans HD1.out
  have hM2 := HM.out.upd (Upd.of (S := []) hB2) (by simp)
  have HM2 := Lib.hid hM2
  have HB2 := Lib.hid hB2
  have HD2 := Lib.hid hd2
  have HS2 : Hid (w.heap.size + 1 ≤ w2.heap.size) := Nat.le_trans HS1.out hb2.size
  obtain ⟨hat, hbf⟩ := hM2.at hkl
  have HAT := Lib.hid hat
  have HBF := Lib.hid hbf
  have HPG := Lib.hid (hM2.pg _ (List.getElem_mem hkl))
  have g0 : w2.cell? ⟨w.heap.size, 0, none⟩ = some (.int .i64 7) := (blk_cell hd2 0).trans rfl
  have g1 : w2.cell? ⟨w.heap.size, 1, none⟩ = some (.int .i64 n) := (blk_cell hd2 1).trans rfl
  have g3 : w2.cell? ⟨w.heap.size, 3, none⟩ = some (.string (bs tx)) := (blk_cell hd2 3).trans rfl
  have g4 : w2.cell? ⟨w.heap.size, 4, none⟩ = some ev := (blk_cell hd2 4).trans rfl
  have d0 : w2.cell? ⟨gh, 0, none⟩ = some (.slice (some ⟨b, off, none⟩) R.length c) := (blk_cell hM2.cell 0).trans rfl
  have d1 : ∀ i, w2.frozen? ⟨gh, i, none⟩ = false := fun i => blk_frozen hM2.cell i
  have p1 := hat.c1
  have p2 := hat.c2
  have hbl := hat.lt
  have i1 : (k : Int) < (R.length : Int) := by omega
  have i2 : ¬ (k : Int) < 0 := by omega
  clear hM2 hd2 hB2 hb2 hat hbf c0 k0 k2
  obtain ⟨fe, fl, h1, h2, h3, h4⟩ := HPG.out
  have HE := Lib.hid h1
  have H3 := Lib.hid h3
  have H4 := Lib.hid h4
  have HL2 := Lib.hid h2
  have C1 : Hid (Calls Tryd.prog 44 #[.pointer (some ⟨R[k].gl, 0, none⟩), .int .i64 n] w2.drew (LfPost R[k].gl (lfCrash R[k].s.L n).2 fl w2.drew (.int .i64 (lfCrash R[k].s.L n).1))) := leaf_crash R[k].gl R[k].s.L fl n w2.drew h2 HPK.out.leaf
  have HTX := Lib.hid (lfCrash_ok HPK.out.leaf n).text
  have D1 : w2.drew.cell? ⟨b, off + k * 3 + 2, none⟩ = some (.pointer (some ⟨R[k].gl, 0, none⟩)) := p2
  have D3 : w2.drew.cell? ⟨w.heap.size, 1, none⟩ = some (.int .i64 n) := g1
  have hfll : Hid (∀ x ∈ fl, x < w2.heap.size ∧ x ≠ w.heap.size ∧ x ≠ b) := fun x hx => by
    have e1 : x ∈ R[k].fp := by rw [H3.out]; simp [hx]
    have e2 := (HM.out.pg _ (List.getElem_mem hkl)).lt x e1
    refine ⟨HL2.out.lt x hx, by omega, fun hxb => HBF.out (hxb ▸ e1)⟩
  have HBd : Hid (Below w2.heap.size w2 w2.drew) := (Below.refl _ _).drew
  clear h1 h2 h3 h4
  go_wp2_with fail
  by_cases hq : (lfCrash R[k].s.L n).1 = 0
  · have hF2 : pgCrash R[k].s.E R[k].s.L n = (0, ⟨(lfCrash R[k].s.L n).2.text, [], []⟩, (lfCrash R[k].s.L n).2) := by unfold pgCrash; exact if_pos hq
    have HF2 := Lib.hid (HRR.out.symm.trans hF2)
    rw [hq] at C1
    generalize (lfCrash R[k].s.L n).2 = L2 at *
    clear hF2 hq
    go_region_held3 (fun W : World => W.cell? ⟨b, off + k * 3 + 2, none⟩ = some (.pointer (some ⟨R[k].gl, 0, none⟩)) ∧ W.cell? ⟨w.heap.size, 1, none⟩ = some (.int .i64 n)) (first | exact ⟨D1, D3⟩ | exact ⟨q2, q1⟩) (first | (go_at_call 44; go_must (go_fit (C1.out); rintro e w3 ⟨rfl, fl', hL', hu, hfr⟩; have hat3 := HAT.out.upd ((Upd.of (S := fl) HBd.out).trans hu (fun x hx => .inl hx)) (fun hm => (hfll.out b hm).2.2 rfl); have q2 := hat3.c2; have q1 : w3.cell? ⟨w.heap.size, 1, none⟩ = some (.int .i64 n) := (blk_cell ((hu.block w.heap.size HS2.out (fun hm => (hfll.out _ hm).2.1 rfl)).trans HD2.out) 1).trans rfl)))
    all_goals
      have HL3 := Lib.hid hL'
      have HU3 : Hid (Upd fl w2 w3) := (Upd.of (S := fl) HBd.out).trans hu (fun x hx => .inl hx)
      have HF3 : Hid (Fresh w2 fl' fl) := hfr
      have d2 := hat3.c2
      have hbl3 := hat3.lt
      have k1 := hat3.c1
      have k3 := hat3.fr (off + k * 3 + 1)
      clear hL' hu hfr hat3 q1 q2 p1 p2 g0 g1 g3 g4 d0 d1 D1 D3
      go_wp2_with fail
      refine (leaf_text_eq R[k].gl L2 fl' w3 HL3.out).mono ?_
      rintro e w4 ⟨rfl, rfl⟩
      go_wp2_with fail
      refine (undo_new L2.text w4 HTX.out).mono ?_
      rintro e w5 ⟨g, rfl, hE5, hg, hb5⟩
      have e1 : w5.cell? ⟨b, off + k * 3 + 1, none⟩ = some (.pointer (some ⟨R[k].ge, 0, none⟩)) := (hb5.cell (p := ⟨b, off + k * 3 + 1, none⟩) hbl3).trans k1
      have e2 : w5.frozen? ⟨b, off + k * 3 + 1, none⟩ = false := (hb5.frozen (p := ⟨b, off + k * 3 + 1, none⟩) hbl3).trans k3
      have T := Lib.hid ((house_turn (v := .int .i64 0) (e := .returned (.int .i64 0)) HM2.out hkl (pk_new HAT.out HBF.out HE.out H3.out H4.out HL3.out HU3.out HF3.out hE5 hg hb5)).from HB2.out)
      clear hE5 hg hb5
      go_wp2
      go_ret2
      have e := HF2.out
      injection e with e1 e2
      injection e2 with e2 e3
      subst e1 e2 e3
      exact T.out.then (Below.refl _ _)
  · have hF2 : pgCrash R[k].s.E R[k].s.L n = ((lfCrash R[k].s.L n).1, R[k].s.E, (lfCrash R[k].s.L n).2) := by unfold pgCrash; exact if_neg hq
    have HF2 := Lib.hid (HRR.out.symm.trans hF2)
    have hne : ((lfCrash R[k].s.L n).1 == 0) = false := by simpa using hq
    generalize (lfCrash R[k].s.L n).2 = L2 at *
    generalize (lfCrash R[k].s.L n).1 = q at *
    clear hF2 hq
    go_region_held3 (fun W : World => W.cell? ⟨b, off + k * 3 + 2, none⟩ = some (.pointer (some ⟨R[k].gl, 0, none⟩)) ∧ W.cell? ⟨w.heap.size, 1, none⟩ = some (.int .i64 n)) (first | exact ⟨D1, D3⟩ | exact ⟨q2, q1⟩) (first | (go_at_call 44; go_must (go_fit (C1.out); rintro e w3 ⟨rfl, fl', hL', hu, hfr⟩; have hat3 := HAT.out.upd ((Upd.of (S := fl) HBd.out).trans hu (fun x hx => .inl hx)) (fun hm => (hfll.out b hm).2.2 rfl); have q2 := hat3.c2; have q1 : w3.cell? ⟨w.heap.size, 1, none⟩ = some (.int .i64 n) := (blk_cell ((hu.block w.heap.size HS2.out (fun hm => (hfll.out _ hm).2.1 rfl)).trans HD2.out) 1).trans rfl)))
    all_goals
      have T := Lib.hid ((house_turn (v := .int .i64 0) (e := .returned (.int .i64 0)) HM2.out hkl (PgPost.pk HAT.out HBF.out ⟨rfl, _, IsPg.leaf HE.out H3.out H4.out hL' ((Upd.of (S := fl) HBd.out).trans hu (fun x hx => .inl hx)) hfr⟩)).from HB2.out)
      clear hL' hu hfr hat3 q1 q2
      go_wp2
      go_ret2
      have e := HF2.out
      injection e with e1 e2
      injection e2 with e2 e3
      subst e1 e2 e3
      exact T.out.then (Below.refl _ _)

end Go.Proofs.YtclebkgfogienaaDoor
