/- A page: an editor and a leaf, and what edit, step and pack of house do to them. -/
import Derived.Test.YtclebkgfogienaaDoorUndo
import Derived.Test.YtclebkgfogienaaDoorPack
import Derived.Test.YtclebkgfogienaaDoorMake
namespace Go.Proofs.YtclebkgfogienaaDoor
set_option linter.unusedSimpArgs false
set_option linter.unusedVariables false
open Go.RowKit

def Dis (F G : List Nat) : Prop := ∀ b ∈ F, b ∉ G
theorem Dis.symm {F G : List Nat} (h : Dis F G) : Dis G F := fun b hb hb2 => h b hb2 hb
/-- new blocks only -/
def Fresh (w : World) (F' F : List Nat) : Prop := ∀ b ∈ F', b ∈ F ∨ w.heap.size ≤ b
theorem Dis.fresh {w : World} {F F' G : List Nat} (h : Dis F G) (hf : Fresh w F' F) (hG : ∀ b ∈ G, b < w.heap.size) : Dis F' G := by
  intro b hb hg
  rcases hf b hb with h1 | h1
  · exact h b h1 hg
  · have := hG b hg; omega
theorem Fresh.trans {w w' : World} {F F' F'' : List Nat} (h : Fresh w F' F) (h' : Fresh w' F'' F') (hw : w.heap.size ≤ w'.heap.size) : Fresh w F'' F := by
  intro b hb
  rcases h' b hb with h1 | h1
  · exact h b h1
  · exact .inr (by omega)

structure PageS where
  name : List UInt8
  E : EdS
  L : LfS
structure PgR extends PageS where
  ge : Nat
  gl : Nat
  fp : List Nat
structure PgOk (E : EdS) (L : LfS) : Prop where
  text : E.text.length ≤ 200
  steps : E.back.length + E.onward.length ≤ 30
  each : (∀ t ∈ E.back, t.length ≤ 200) ∧ ∀ t ∈ E.onward, t.length ≤ 200
  leaf : LfOk L

def IsPg (w : World) (ge gl : Nat) (E : EdS) (L : LfS) (fp : List Nat) : Prop :=
  ∃ fe fl, IsEd w ge E fe ∧ IsLeaf w gl L fl ∧ fp = fe ++ fl ∧ Dis fe fl
theorem IsPg.lt {w : World} {ge gl : Nat} {E : EdS} {L : LfS} {fp : List Nat} (h : IsPg w ge gl E L fp) : ∀ b ∈ fp, b < w.heap.size := by
  obtain ⟨fe, fl, h1, h2, rfl, _⟩ := h
  intro b hb
  rcases List.mem_append.1 hb with hb | hb
  · exact h1.lt b hb
  · exact h2.lt b hb
theorem IsPg.upd {w w' : World} {ge gl : Nat} {E : EdS} {L : LfS} {fp S : List Nat} (h : IsPg w ge gl E L fp) (hu : Upd S w w') (hS : ∀ b ∈ fp, b ∉ S) : IsPg w' ge gl E L fp := by
  obtain ⟨fe, fl, h1, h2, rfl, h4⟩ := h
  exact ⟨fe, fl, h1.upd hu (fun b hb => hS b (by simp [hb])), h2.upd hu (fun b hb => hS b (by simp [hb])), rfl, h4⟩
theorem IsPg.below {w w' : World} {ge gl : Nat} {E : EdS} {L : LfS} {fp : List Nat} (h : IsPg w ge gl E L fp) (hu : Below w.heap.size w w') : IsPg w' ge gl E L fp := h.upd (Upd.of (S := []) hu) (by simp)
/-- what a call that may turn a page leaves -/
def PgPost (ge gl : Nat) (E : EdS) (L : LfS) (fp : List Nat) (w : World) (v : Value) (e : Ending) (w' : World) : Prop :=
  e = .returned v ∧ ∃ fp', IsPg w' ge gl E L fp' ∧ Upd fp w w' ∧ Fresh w fp' fp
theorem PgPost.same {ge gl : Nat} {E : EdS} {L : LfS} {fp : List Nat} {w w' : World} {v : Value} (h : IsPg w ge gl E L fp) (hb : Below w.heap.size w w') : PgPost ge gl E L fp w v (.returned v) w' :=
  ⟨rfl, fp, h.below hb, Upd.of hb, fun _ h => .inl h⟩
theorem PgPost.leaf {ge gl : Nat} {E : EdS} {L L' : LfS} {fp fe fl fl' : List Nat} {w w' : World} {v : Value} (h1 : IsEd w ge E fe) (hL : ∀ b ∈ fl, b < w.heap.size) (hfp : fp = fe ++ fl) (hd : Dis fe fl)
    (h2 : IsLeaf w' gl L' fl') (hu : Upd fl w w') (hf : Fresh w fl' fl) : PgPost ge gl E L' fp w v (.returned v) w' := by
  subst hfp
  refine ⟨rfl, fe ++ fl', ⟨fe, fl', h1.upd hu hd, h2, rfl, (hd.symm.fresh hf h1.lt).symm⟩, hu.mono (fun x hx => by simp [hx]), ?_⟩
  intro b hb
  rcases List.mem_append.1 hb with hb | hb
  · exact .inl (by simp [hb])
  · rcases hf b hb with h | h
    · exact .inl (by simp [h])
    · exact .inr h
theorem IsPg.leaf {ge gl : Nat} {E : EdS} {L' : LfS} {fp fe fl fl' : List Nat} {w w' : World} (h1 : IsEd w ge E fe) (hfp : fp = fe ++ fl) (hd : Dis fe fl)
    (h2 : IsLeaf w' gl L' fl') (hu : Upd fl w w') (hf : Fresh w fl' fl) : IsPg w' ge gl E L' (fe ++ fl') ∧ Upd fp w w' ∧ Fresh w (fe ++ fl') fp := by
  subst hfp
  refine ⟨⟨fe, fl', h1.upd hu hd, h2, rfl, (hd.symm.fresh hf h1.lt).symm⟩, hu.mono (fun x hx => by simp [hx]), ?_⟩
  intro b hb
  rcases List.mem_append.1 hb with hb | hb
  · exact .inl (by simp [hb])
  · rcases hf b hb with h | h
    · exact .inl (by simp [h])
    · exact .inr h
theorem IsPg.ed {ge gl : Nat} {E' : EdS} {L : LfS} {fp fe fe' fl : List Nat} {w w' : World} (h1 : IsLeaf w gl L fl) (hfp : fp = fe ++ fl) (hd : Dis fe fl)
    (h2 : IsEd w' ge E' fe') (hu : Upd fe w w') (hf : Fresh w fe' fe) : IsPg w' ge gl E' L (fe' ++ fl) ∧ Upd fp w w' ∧ Fresh w (fe' ++ fl) fp := by
  subst hfp
  refine ⟨⟨fe', fl, h2, h1.upd hu hd.symm, rfl, hd.fresh hf h1.lt⟩, hu.mono (fun x hx => by simp [hx]), ?_⟩
  intro b hb
  rcases List.mem_append.1 hb with hb | hb
  · rcases hf b hb with h | h
    · exact .inl (by simp [h])
    · exact .inr h
  · exact .inl (by simp [hb])

def pgEdit (E : EdS) (L : LfS) (l : List Ed) : Int × EdS × LfS :=
  if l = [] then (5, E, L) else if (lfEdit L l).1 = 0 then ((doEd E l).1, (doEd E l).2, (lfEdit L l).2) else ((lfEdit L l).1, E, (lfEdit L l).2)
def pgStep (E : EdS) (L : LfS) (back : Bool) : Int × EdS × LfS :=
  let r := if back then undoEd E else redoEd E
  if r.1 = 0 then
    let q := lfSet L r.2.text
    if q.1 = 0 then (0, r.2, q.2) else (q.1, (if back then redoEd r.2 else undoEd r.2).2, q.2)
  else (r.1, r.2, L)
def pgPack (E : EdS) (L : LfS) (stop : Int) : Int × EdS × LfS :=
  let q := lfPack L stop
  if q.1 = 0 then if stop = 0 then (0, E, q.2) else (0, ⟨q.2.text, [], []⟩, q.2) else (q.1, E, q.2)

/-- the cells of a page -/
structure PgAt (w : World) (b o : Nat) (name : List UInt8) (ge gl : Nat) : Prop where
  c0 : w.cell? ⟨b, o, none⟩ = some (.string (bs name))
  c1 : w.cell? ⟨b, o + 1, none⟩ = some (.pointer (some ⟨ge, 0, none⟩))
  c2 : w.cell? ⟨b, o + 2, none⟩ = some (.pointer (some ⟨gl, 0, none⟩))
  fr : ∀ i, w.frozen? ⟨b, i, none⟩ = false
  lt : b < w.heap.size
theorem PgAt.upd {w w' : World} {b o : Nat} {name : List UInt8} {ge gl : Nat} {S : List Nat} (h : PgAt w b o name ge gl) (hu : Upd S w w') (hb : b ∉ S) : PgAt w' b o name ge gl := by
  have he := hu.block b h.lt hb
  have hc : ∀ i, w'.cell? ⟨b, i, none⟩ = w.cell? ⟨b, i, none⟩ := fun i => by unfold World.cell?; simp only [he]
  have hf : ∀ i, w'.frozen? ⟨b, i, none⟩ = w.frozen? ⟨b, i, none⟩ := fun i => by unfold World.frozen?; simp only [he]
  exact ⟨(hc _).trans h.c0, (hc _).trans h.c1, (hc _).trans h.c2, fun i => (hf i).trans (h.fr i), Nat.lt_of_lt_of_le h.lt hu.size⟩

set_option maxRecDepth 100000 in
set_option maxHeartbeats 800000 in
theorem page_edit (B : Nat) (b o : Nat) (name : List UInt8) (ge gl : Nat) (E : EdS) (L : LfS) (fp : List Nat) (v : Value) (l : List Ed) (w : World) (hp : PgAt w b o name ge gl) (hb : b ∉ fp) (h : IsPg w ge gl E L fp) (hK : PgOk E L)
    (hv : EditsAt w v l) (hB : B ≤ w.heap.size) (hT : Tab B w) (hBf : ∀ x ∈ fp, B ≤ x) (hvf : l ≠ [] → ∀ A n c, v = .slice A n c → ∀ x ∈ blk A, x ∉ fp) :
    Calls Tryd.prog 39 #[.pointer (some ⟨b, o, none⟩), v] w (PgPost ge gl (pgEdit E L l).2.1 (pgEdit E L l).2.2 fp w (.int .i64 (pgEdit E L l).1)) := by
  have HP := Lib.hid h
  obtain ⟨fe, fl, h1, h2, hfp, h4⟩ := h
  have HE := Lib.hid h1
  have HL := Lib.hid h2
  have HD := Lib.hid h4
  have HV := Lib.hid hv
  have HPG := Lib.hid hp
  have HK := Lib.hid hK
  have HFP := Lib.hid hfp
  have c1 := hp.c1
  have c2 := hp.c2
  have hbb := hp.lt
  obtain ⟨A, c, rfl, hlc, hrest⟩ := hv
  have C1 := Lib.hid (leaf_edit B gl L fl _ l w h2 hK.leaf HV.out hB hT)
  by_cases hl : l = []
  · subst hl
    have hF : pgEdit E L [] = (5, E, L) := if_pos rfl
    rw [hF]
    clear hF h1 h2 h4 hp hK hfp hrest hT
    go_enter Tryd.func39, Tryd.ntmps39
    go_wp2
    go_ret
    exact PgPost.same HP.out (Below.refl _ _)
  · have hl0 : ((l.length : Int) == 0) = false := by
      have := List.length_pos_iff.2 hl
      simp; omega
    by_cases ha : (lfEdit L l).1 = 0
    · have hF : pgEdit E L l = ((doEd E l).1, (doEd E l).2, (lfEdit L l).2) := by unfold pgEdit; rw [if_neg hl, if_pos ha]
      rw [hF]
      rw [ha] at C1
      generalize (lfEdit L l).2 = L' at *
      have HTX : Hid (E.text.length ≤ 200) := hK.text
      have HBK : Hid (E.back.length ≤ 30) := by have := hK.steps; unfold Hid; omega
      have C2 := Lib.hid (fun fe W hE hV => undo_do ge E fe (.slice A l.length c) l W hE hV HTX.out HBK.out)
      generalize hR : doEd E l = R at *
      obtain ⟨r, E'⟩ := R
      simp only at *
      clear hF h1 h2 h4 hp hK hfp hl ha hR
      go_enter Tryd.func39, Tryd.ntmps39
      go_wp2_with fail
      refine C1.out.mono ?_
      rintro e w1 ⟨rfl, fl', hL', hu, hfr⟩
      have HPG1 := Lib.hid (HPG.out.upd hu (fun hm => hb (by rw [HFP.out]; simp [hm])))
      have d1 := HPG1.out.c1
      have HL' := Lib.hid hL'
      have HU := Lib.hid hu
      have HFR := Lib.hid hfr
      have HV1 : Hid (EditsAt w1 (.slice A l.length c) l) := by
        refine ⟨A, c, rfl, hlc, fun hne => ?_⟩
        obtain ⟨b0, off0, rfl, hlt0, h3⟩ := hrest hne
        have hx : b0 ∉ fl := fun hm => hvf hne _ _ _ rfl b0 (by simp [blk]) (by rw [HFP.out]; simp [hm])
        have he := hu.block b0 hlt0 hx
        have hcc : ∀ i, w1.cell? ⟨b0, i, none⟩ = w.cell? ⟨b0, i, none⟩ := fun i => by unfold World.cell?; simp only [he]
        refine ⟨b0, off0, rfl, Nat.lt_of_lt_of_le hlt0 hu.size, fun i hi => ?_⟩
        rw [hcc, hcc, hcc]
        exact h3 i hi
      clear hL' hu hfr c1 c2 hrest
      have C3 := Lib.hid (C2.out fe w1 (HE.out.upd HU.out HD.out) HV1.out)
      clear C2 C1
      go_wp2_with fail
      refine C3.out.mono ?_
      rintro e w2 ⟨rfl, fe', hE', hu2, hfr2⟩
      go_wp2
      go_ret
      obtain ⟨p1, p2, p3⟩ := IsPg.leaf HE.out HFP.out HD.out HL'.out HU.out HFR.out
      have hd' : Dis fe fl' := (HD.out.symm.fresh HFR.out HE.out.lt).symm
      obtain ⟨q1, q2, q3⟩ := IsPg.ed (fp := fe ++ fl') HL'.out rfl hd' hE' hu2 hfr2
      refine ⟨rfl, fe' ++ fl', q1, p2.trans q2 (fun x hx => p3 x hx), p3.trans q3 p2.size⟩
    · have hF : pgEdit E L l = ((lfEdit L l).1, E, (lfEdit L l).2) := by unfold pgEdit; rw [if_neg hl, if_neg ha]
      rw [hF]
      have hne : ((lfEdit L l).1 == 0) = false := by simpa using ha
      generalize (lfEdit L l).2 = L' at *
      generalize (lfEdit L l).1 = r at *
      simp only
      clear hF h1 h2 h4 hp hK hfp hl ha hrest
      go_enter Tryd.func39, Tryd.ntmps39
      go_wp2_with fail
      refine C1.out.mono ?_
      rintro e w1 ⟨rfl, fl', hL', hu, hfr⟩
      go_wp2
      go_ret
      exact ⟨rfl, _, IsPg.leaf HE.out HFP.out HD.out hL' hu hfr⟩

set_option maxRecDepth 100000 in
theorem undo_text_eq (g : Nat) (E : EdS) (fp : List Nat) (w : World) (h : IsEd w g E fp) :
    Calls Tryd.prog 33 #[.pointer (some ⟨g, 0, none⟩)] w fun e w' => e = .returned (.string (bs E.text)) ∧ w' = w := by
  obtain ⟨A1, c1, A2, c2, h1, h2, h3, rfl, hn⟩ := h
  have k0 : w.cell? ⟨g, 0, none⟩ = some (.string (bs E.text)) := (blk_cell h1 0).trans rfl
  clear h1 h2 h3 hn
  go_enter Tryd.func33, Tryd.ntmps33
  go_wp2
  go_ret
  exact ⟨rfl, rfl⟩
set_option maxRecDepth 100000 in
theorem leaf_text_eq (g : Nat) (L : LfS) (fp : List Nat) (w : World) (h : IsLeaf w g L fp) :
    Calls Tryd.prog 45 #[.pointer (some ⟨g, 0, none⟩)] w fun e w' => e = .returned (.string (bs L.text)) ∧ w' = w := by
  obtain ⟨gl, h1, rfl⟩ := h
  have c0 := h1.c0
  clear h1
  go_enter Tryd.func45, Tryd.ntmps45
  go_wp2
  go_ret
  exact ⟨rfl, rfl⟩

theorem undoEd_text {E : EdS} (hx : E.text.length ≤ 200) (h : (∀ t ∈ E.back, t.length ≤ 200) ∧ ∀ t ∈ E.onward, t.length ≤ 200) : (undoEd E).2.text.length ≤ 200 ∧ (redoEd E).2.text.length ≤ 200 := by
  constructor
  · unfold undoEd
    split
    · exact hx
    · rename_i t ht
      exact h.1 t (List.mem_of_getLast? ht)
  · unfold redoEd
    split
    · exact hx
    · rename_i t ht
      exact h.2 t (List.mem_of_getLast? ht)
theorem undoEd_len (E : EdS) : (undoEd E).2.back.length + (undoEd E).2.onward.length = E.back.length + E.onward.length ∧ (redoEd E).2.back.length + (redoEd E).2.onward.length = E.back.length + E.onward.length := by
  constructor
  · unfold undoEd
    split
    · rfl
    · rename_i t ht
      have : E.back ≠ [] := by intro h; rw [h] at ht; cases ht
      have := List.length_pos_iff.2 this
      simp; omega
  · unfold redoEd
    split
    · rfl
    · rename_i t ht
      have : E.onward ≠ [] := by intro h; rw [h] at ht; cases ht
      have := List.length_pos_iff.2 this
      simp; omega

set_option maxRecDepth 100000 in
set_option maxHeartbeats 1600000 in
theorem page_undo (b o : Nat) (name : List UInt8) (ge gl : Nat) (E : EdS) (L : LfS) (fp : List Nat) (w : World) (hp : PgAt w b o name ge gl) (hb : b ∉ fp) (h : IsPg w ge gl E L fp) (hK : PgOk E L) :
    Calls Tryd.prog 41 #[.pointer (some ⟨b, o, none⟩), .bool true] w (PgPost ge gl (pgStep E L true).2.1 (pgStep E L true).2.2 fp w (.int .i64 (pgStep E L true).1)) := by
  have HP := Lib.hid h
  obtain ⟨fe, fl, h1, h2, hfp, h4⟩ := h
  have HE := Lib.hid h1
  have HL := Lib.hid h2
  have HD := Lib.hid h4
  have HPG := Lib.hid hp
  have HK := Lib.hid hK
  have HFP := Lib.hid hfp
  have c1 := hp.c1
  have hgl := hp.lt
  have hTX := (undoEd_text hK.text hK.each).1
  have hSZ : (undoEd E).2.back.length + (undoEd E).2.onward.length ≤ 30 := by rw [(undoEd_len E).1]; exact hK.steps
  have C1 := Lib.hid (fun W (hW : IsEd W ge E fe) => undo_undo ge E fe W hW hK.steps)
  by_cases hr : (undoEd E).1 = 0
  · rw [hr] at C1
    have hF0 : pgStep E L true = if (lfSet L (undoEd E).2.text).1 = 0 then (0, (undoEd E).2, (lfSet L (undoEd E).2.text).2) else ((lfSet L (undoEd E).2.text).1, (redoEd (undoEd E).2).2, (lfSet L (undoEd E).2.text).2) := if_pos hr
    rw [hF0]
    clear hF0
    generalize undoEd E = R at *
    obtain ⟨r, E'⟩ := R
    simp only at *
    subst hr
    by_cases hq : (lfSet L E'.text).1 = 0
    · rw [if_pos hq]
      have C2 := Lib.hid (fun W (hW : IsLeaf W gl L fl) => leaf_set gl L fl E'.text W hW HK.out.leaf hTX)
      rw [hq] at C2
      generalize (lfSet L E'.text).2 = L' at *
      simp only
      clear h1 h2 h4 hp hK hfp hq
      go_enter Tryd.func41, Tryd.ntmps41
      go_wp2_with fail
      go_region
      all_goals
        have HEW : Hid (IsEd w.drew ge E fe) := HE.out
        have HLW : Hid (IsLeaf w.drew gl L fl) := HL.out
        have HPW : Hid (PgAt w.drew b o name ge gl) := ⟨HPG.out.c0, HPG.out.c1, HPG.out.c2, HPG.out.fr, HPG.out.lt⟩
        have HUW : Hid (Upd fp w w.drew) := Upd.of (Below.refl _ _).drew
        have HSW : Hid (w.drew.heap.size = w.heap.size) := rfl
        generalize w.drew = W at *
        clear c1
        go_wp2_with fail
        refine (C1.out W HEW.out).mono ?_
        rintro e w1 ⟨rfl, fe', hE', hu1, hfr1⟩
        have hPG1 := HPW.out.upd hu1 (fun hm => hb (by rw [HFP.out]; simp [hm]))
        have d1 := hPG1.c1
        have d2 := hPG1.c2
        have HE1 := Lib.hid hE'
        have HED : Hid (IsEd w1.drew ge E' fe') := hE'
        have HL1 := Lib.hid (HLW.out.upd hu1 HD.out.symm)
        have HU1 := Lib.hid hu1
        have HF1 := Lib.hid hfr1
        have C3 : Hid (Calls Tryd.prog 33 #[.pointer (some ⟨ge, 0, none⟩)] w1.drew fun e w' => e = .returned (.string (bs E'.text)) ∧ w' = w1.drew) := undo_text_eq ge E' fe' w1.drew hE'
        have C4 := Lib.hid (C2.out w1.drew HL1.out)
        have HPG1 := Lib.hid hPG1
        have D1 : w1.drew.cell? ⟨b, o + 1, none⟩ = some (.pointer (some ⟨ge, 0, none⟩)) := d1
        have D2 : w1.drew.cell? ⟨b, o + 2, none⟩ = some (.pointer (some ⟨gl, 0, none⟩)) := d2
        clear hPG1 hE' hu1 hfr1 C1 C2
        go_wp2_with fail
        go_region_held3 (fun W : World => W.cell? ⟨b, o + 1, none⟩ = some (.pointer (some ⟨ge, 0, none⟩)) ∧ W.cell? ⟨b, o + 2, none⟩ = some (.pointer (some ⟨gl, 0, none⟩))) (first | exact ⟨D1, D2⟩ | exact ⟨d3.c1, d3.c2⟩) (first | (go_at_call 33; go_must (go_fit (C3.out); rintro e w2 ⟨rfl, rfl⟩)) | (go_at_call 63; go_must (go_fit (C4.out); rintro e w3 ⟨rfl, fl', hL', hu3, hfr3⟩; have d3 := HPG1.out.upd (Upd.trans (T := fl) (S := fl) ((Upd.of (Below.refl _ _).drew) : Upd fl w1 w1.drew) hu3 (fun x hx => .inl hx)) (fun hm => hb (by rw [HFP.out]; simp [hm])))))
      all_goals
        go_wp2
        go_ret
        obtain ⟨p1, p2, p3⟩ := IsPg.ed HLW.out HFP.out HD.out HE1.out HU1.out HF1.out
        have hd' : Dis fe' fl := HD.out.fresh HF1.out HLW.out.lt
        obtain ⟨q1, q2, q3⟩ := IsPg.leaf (fp := fe' ++ fl) (w := w1.drew) HED.out rfl hd' hL' hu3 hfr3
        refine ⟨rfl, fe' ++ fl', q1, ?_, ?_⟩
        · exact (HUW.out.trans p2 (fun x hx => .inl hx)).trans ((Upd.of (Below.refl _ _).drew : Upd (fe' ++ fl) w1 w1.drew).trans q2 (fun x hx => .inl hx)) (fun x hx => by have := p3 x hx; rw [HSW.out] at this; exact this)
        · have k : Fresh w1 (fe' ++ fl') (fe' ++ fl) := q3
          have k2 : Fresh w (fe' ++ fl) fp := fun x hx => by have := p3 x hx; rw [HSW.out] at this; exact this
          exact k2.trans k (by have := p2.size; rw [HSW.out] at this; exact this)
    · rw [if_neg hq]
      have C2 := Lib.hid (fun W (hW : IsLeaf W gl L fl) => leaf_set gl L fl E'.text W hW HK.out.leaf hTX)
      have hne : ((lfSet L E'.text).1 == 0) = false := by simpa using hq
      generalize (lfSet L E'.text).2 = L' at *
      generalize (lfSet L E'.text).1 = q at *
      have C5 := Lib.hid (fun fe W (hW : IsEd W ge E' fe) => undo_redo ge E' fe W hW hSZ)
      generalize hRO : redoEd E' = RO at *
      obtain ⟨ro, E2⟩ := RO
      simp only at *
      clear hRO
      clear h1 h2 h4 hp hK hfp hq
      go_enter Tryd.func41, Tryd.ntmps41
      go_wp2_with fail
      go_region
      all_goals
        have HEW : Hid (IsEd w.drew ge E fe) := HE.out
        have HLW : Hid (IsLeaf w.drew gl L fl) := HL.out
        have HPW : Hid (PgAt w.drew b o name ge gl) := ⟨HPG.out.c0, HPG.out.c1, HPG.out.c2, HPG.out.fr, HPG.out.lt⟩
        have HUW : Hid (Upd fp w w.drew) := Upd.of (Below.refl _ _).drew
        have HSW : Hid (w.drew.heap.size = w.heap.size) := rfl
        generalize w.drew = W at *
        clear c1
        go_wp2_with fail
        refine (C1.out W HEW.out).mono ?_
        rintro e w1 ⟨rfl, fe', hE', hu1, hfr1⟩
        have hPG1 := HPW.out.upd hu1 (fun hm => hb (by rw [HFP.out]; simp [hm]))
        have d1 := hPG1.c1
        have d2 := hPG1.c2
        have HE1 := Lib.hid hE'
        have HED : Hid (IsEd w1.drew ge E' fe') := hE'
        have HL1 := Lib.hid (HLW.out.upd hu1 HD.out.symm)
        have HU1 := Lib.hid hu1
        have HF1 := Lib.hid hfr1
        have C3 : Hid (Calls Tryd.prog 33 #[.pointer (some ⟨ge, 0, none⟩)] w1.drew fun e w' => e = .returned (.string (bs E'.text)) ∧ w' = w1.drew) := undo_text_eq ge E' fe' w1.drew hE'
        have C4 := Lib.hid (C2.out w1.drew HL1.out)
        have HPG1 := Lib.hid hPG1
        have D1 : w1.drew.cell? ⟨b, o + 1, none⟩ = some (.pointer (some ⟨ge, 0, none⟩)) := d1
        have D2 : w1.drew.cell? ⟨b, o + 2, none⟩ = some (.pointer (some ⟨gl, 0, none⟩)) := d2
        clear hPG1 hE' hu1 hfr1 C1 C2
        go_wp2_with fail
        go_region_held3 (fun W : World => W.cell? ⟨b, o + 1, none⟩ = some (.pointer (some ⟨ge, 0, none⟩)) ∧ W.cell? ⟨b, o + 2, none⟩ = some (.pointer (some ⟨gl, 0, none⟩))) (first | exact ⟨D1, D2⟩ | exact ⟨d3.c1, d3.c2⟩) (first | (go_at_call 33; go_must (go_fit (C3.out); rintro e w2 ⟨rfl, rfl⟩)) | (go_at_call 63; go_must (go_fit (C4.out); rintro e w3 ⟨rfl, fl', hL', hu3, hfr3⟩; have d3 := HPG1.out.upd (Upd.trans (T := fl) (S := fl) ((Upd.of (Below.refl _ _).drew) : Upd fl w1 w1.drew) hu3 (fun x hx => .inl hx)) (fun hm => hb (by rw [HFP.out]; simp [hm])))))
      all_goals
        have HL3 := Lib.hid hL'
        have HU3 := Lib.hid hu3
        have HF3 := Lib.hid hfr3
        have hd' : Hid (Dis fe' fl) := HD.out.fresh HF1.out HLW.out.lt
        have HE3 := Lib.hid (HED.out.upd hu3 hd'.out)
        clear hL' hu3 hfr3 d3
        go_wp2_with fail
        refine (C5.out fe' w3 HE3.out).mono ?_
        rintro e w4 ⟨rfl, fe2, hE4, hu4, hfr4⟩
        go_wp2
        go_ret
        obtain ⟨p1, p2, p3⟩ := IsPg.ed HLW.out HFP.out HD.out HE1.out HU1.out HF1.out
        obtain ⟨q1, q2, q3⟩ := IsPg.leaf (fp := fe' ++ fl) (w := w1.drew) HED.out rfl hd'.out HL3.out HU3.out HF3.out
        have hd2 : Dis fe' fl' := (hd'.out.symm.fresh HF3.out HED.out.lt).symm
        obtain ⟨r1, r2, r3⟩ := IsPg.ed (fp := fe' ++ fl') HL3.out rfl hd2 hE4 hu4 hfr4
        have p3' : Fresh w (fe' ++ fl) fp := fun x hx => by have := p3 x hx; rw [HSW.out] at this; exact this
        have q3' : Fresh w1 (fe' ++ fl') (fe' ++ fl) := q3
        have hz := p2.size
        rw [HSW.out] at hz
        have hz2 : w1.heap.size ≤ w3.heap.size := HU3.out.size
        have k3 := p3'.trans q3' hz
        refine ⟨rfl, fe2 ++ fl', r1, ?_, k3.trans r3 (by omega)⟩
        have u1 := (HUW.out.trans p2 (fun x hx => .inl hx)).trans ((Upd.of (Below.refl _ _).drew : Upd (fe' ++ fl) w1 w1.drew).trans q2 (fun x hx => .inl hx)) (fun x hx => p3' x hx)
        exact u1.trans r2 (fun x hx => k3 x hx)
  · have hF : pgStep E L true = ((undoEd E).1, (undoEd E).2, L) := if_neg hr
    rw [hF]
    have hne : ((undoEd E).1 == 0) = false := by simpa using hr
    generalize undoEd E = R at *
    obtain ⟨r, E'⟩ := R
    simp only at *
    clear hF h1 h2 h4 hp hK hfp hr
    go_enter Tryd.func41, Tryd.ntmps41
    go_wp2_with fail
    go_region
    all_goals
      have HEW : Hid (IsEd w.drew ge E fe) := HE.out
      have HLW : Hid (IsLeaf w.drew gl L fl) := HL.out
      have HUW : Hid (Upd fp w w.drew) := Upd.of (Below.refl _ _).drew
      have HSW : Hid (w.drew.heap.size = w.heap.size) := rfl
      generalize w.drew = W at *
      clear c1
      go_wp2_with fail
      refine (C1.out W HEW.out).mono ?_
      rintro e w1 ⟨rfl, fe', hE', hu1, hfr1⟩
      go_wp2
      go_ret
      obtain ⟨p1, p2, p3⟩ := IsPg.ed HLW.out HFP.out HD.out hE' hu1 hfr1
      exact ⟨rfl, _, p1, HUW.out.trans p2 (fun x hx => .inl hx), fun x hx => by have := p3 x hx; rw [HSW.out] at this; exact this⟩

set_option maxRecDepth 100000 in
set_option maxHeartbeats 1600000 in
theorem page_redo (b o : Nat) (name : List UInt8) (ge gl : Nat) (E : EdS) (L : LfS) (fp : List Nat) (w : World) (hp : PgAt w b o name ge gl) (hb : b ∉ fp) (h : IsPg w ge gl E L fp) (hK : PgOk E L) :
    Calls Tryd.prog 41 #[.pointer (some ⟨b, o, none⟩), .bool false] w (PgPost ge gl (pgStep E L false).2.1 (pgStep E L false).2.2 fp w (.int .i64 (pgStep E L false).1)) := by
  have HP := Lib.hid h
  obtain ⟨fe, fl, h1, h2, hfp, h4⟩ := h
  have HE := Lib.hid h1
  have HL := Lib.hid h2
  have HD := Lib.hid h4
  have HPG := Lib.hid hp
  have HK := Lib.hid hK
  have HFP := Lib.hid hfp
  have c1 := hp.c1
  have hgl := hp.lt
  have hTX := (undoEd_text hK.text hK.each).2
  have hSZ : (redoEd E).2.back.length + (redoEd E).2.onward.length ≤ 30 := by rw [(undoEd_len E).2]; exact hK.steps
  have C1 := Lib.hid (fun W (hW : IsEd W ge E fe) => undo_redo ge E fe W hW hK.steps)
  by_cases hr : (redoEd E).1 = 0
  · rw [hr] at C1
    have hF0 : pgStep E L false = if (lfSet L (redoEd E).2.text).1 = 0 then (0, (redoEd E).2, (lfSet L (redoEd E).2.text).2) else ((lfSet L (redoEd E).2.text).1, (undoEd (redoEd E).2).2, (lfSet L (redoEd E).2.text).2) := if_pos hr
    rw [hF0]
    clear hF0
    generalize redoEd E = R at *
    obtain ⟨r, E'⟩ := R
    simp only at *
    subst hr
    by_cases hq : (lfSet L E'.text).1 = 0
    · rw [if_pos hq]
      have C2 := Lib.hid (fun W (hW : IsLeaf W gl L fl) => leaf_set gl L fl E'.text W hW HK.out.leaf hTX)
      rw [hq] at C2
      generalize (lfSet L E'.text).2 = L' at *
      simp only
      clear h1 h2 h4 hp hK hfp hq
      go_enter Tryd.func41, Tryd.ntmps41
      go_wp2_with fail
      go_region
      all_goals
        have HEW : Hid (IsEd w.drew ge E fe) := HE.out
        have HLW : Hid (IsLeaf w.drew gl L fl) := HL.out
        have HPW : Hid (PgAt w.drew b o name ge gl) := ⟨HPG.out.c0, HPG.out.c1, HPG.out.c2, HPG.out.fr, HPG.out.lt⟩
        have HUW : Hid (Upd fp w w.drew) := Upd.of (Below.refl _ _).drew
        have HSW : Hid (w.drew.heap.size = w.heap.size) := rfl
        generalize w.drew = W at *
        clear c1
        go_wp2_with fail
        refine (C1.out W HEW.out).mono ?_
        rintro e w1 ⟨rfl, fe', hE', hu1, hfr1⟩
        have hPG1 := HPW.out.upd hu1 (fun hm => hb (by rw [HFP.out]; simp [hm]))
        have d1 := hPG1.c1
        have d2 := hPG1.c2
        have HE1 := Lib.hid hE'
        have HED : Hid (IsEd w1.drew ge E' fe') := hE'
        have HL1 := Lib.hid (HLW.out.upd hu1 HD.out.symm)
        have HU1 := Lib.hid hu1
        have HF1 := Lib.hid hfr1
        have C3 : Hid (Calls Tryd.prog 33 #[.pointer (some ⟨ge, 0, none⟩)] w1.drew fun e w' => e = .returned (.string (bs E'.text)) ∧ w' = w1.drew) := undo_text_eq ge E' fe' w1.drew hE'
        have C4 := Lib.hid (C2.out w1.drew HL1.out)
        have HPG1 := Lib.hid hPG1
        have D1 : w1.drew.cell? ⟨b, o + 1, none⟩ = some (.pointer (some ⟨ge, 0, none⟩)) := d1
        have D2 : w1.drew.cell? ⟨b, o + 2, none⟩ = some (.pointer (some ⟨gl, 0, none⟩)) := d2
        clear hPG1 hE' hu1 hfr1 C1 C2
        go_wp2_with fail
        go_region_held3 (fun W : World => W.cell? ⟨b, o + 1, none⟩ = some (.pointer (some ⟨ge, 0, none⟩)) ∧ W.cell? ⟨b, o + 2, none⟩ = some (.pointer (some ⟨gl, 0, none⟩))) (first | exact ⟨D1, D2⟩ | exact ⟨d3.c1, d3.c2⟩) (first | (go_at_call 33; go_must (go_fit (C3.out); rintro e w2 ⟨rfl, rfl⟩)) | (go_at_call 63; go_must (go_fit (C4.out); rintro e w3 ⟨rfl, fl', hL', hu3, hfr3⟩; have d3 := HPG1.out.upd (Upd.trans (T := fl) (S := fl) ((Upd.of (Below.refl _ _).drew) : Upd fl w1 w1.drew) hu3 (fun x hx => .inl hx)) (fun hm => hb (by rw [HFP.out]; simp [hm])))))
      all_goals
        go_wp2
        go_ret
        obtain ⟨p1, p2, p3⟩ := IsPg.ed HLW.out HFP.out HD.out HE1.out HU1.out HF1.out
        have hd' : Dis fe' fl := HD.out.fresh HF1.out HLW.out.lt
        obtain ⟨q1, q2, q3⟩ := IsPg.leaf (fp := fe' ++ fl) (w := w1.drew) HED.out rfl hd' hL' hu3 hfr3
        refine ⟨rfl, fe' ++ fl', q1, ?_, ?_⟩
        · exact (HUW.out.trans p2 (fun x hx => .inl hx)).trans ((Upd.of (Below.refl _ _).drew : Upd (fe' ++ fl) w1 w1.drew).trans q2 (fun x hx => .inl hx)) (fun x hx => by have := p3 x hx; rw [HSW.out] at this; exact this)
        · have k : Fresh w1 (fe' ++ fl') (fe' ++ fl) := q3
          have k2 : Fresh w (fe' ++ fl) fp := fun x hx => by have := p3 x hx; rw [HSW.out] at this; exact this
          exact k2.trans k (by have := p2.size; rw [HSW.out] at this; exact this)
    · rw [if_neg hq]
      have C2 := Lib.hid (fun W (hW : IsLeaf W gl L fl) => leaf_set gl L fl E'.text W hW HK.out.leaf hTX)
      have hne : ((lfSet L E'.text).1 == 0) = false := by simpa using hq
      generalize (lfSet L E'.text).2 = L' at *
      generalize (lfSet L E'.text).1 = q at *
      have C5 := Lib.hid (fun fe W (hW : IsEd W ge E' fe) => undo_undo ge E' fe W hW hSZ)
      generalize hRO : undoEd E' = RO at *
      obtain ⟨ro, E2⟩ := RO
      simp only at *
      clear hRO
      clear h1 h2 h4 hp hK hfp hq
      go_enter Tryd.func41, Tryd.ntmps41
      go_wp2_with fail
      go_region
      all_goals
        have HEW : Hid (IsEd w.drew ge E fe) := HE.out
        have HLW : Hid (IsLeaf w.drew gl L fl) := HL.out
        have HPW : Hid (PgAt w.drew b o name ge gl) := ⟨HPG.out.c0, HPG.out.c1, HPG.out.c2, HPG.out.fr, HPG.out.lt⟩
        have HUW : Hid (Upd fp w w.drew) := Upd.of (Below.refl _ _).drew
        have HSW : Hid (w.drew.heap.size = w.heap.size) := rfl
        generalize w.drew = W at *
        clear c1
        go_wp2_with fail
        refine (C1.out W HEW.out).mono ?_
        rintro e w1 ⟨rfl, fe', hE', hu1, hfr1⟩
        have hPG1 := HPW.out.upd hu1 (fun hm => hb (by rw [HFP.out]; simp [hm]))
        have d1 := hPG1.c1
        have d2 := hPG1.c2
        have HE1 := Lib.hid hE'
        have HED : Hid (IsEd w1.drew ge E' fe') := hE'
        have HL1 := Lib.hid (HLW.out.upd hu1 HD.out.symm)
        have HU1 := Lib.hid hu1
        have HF1 := Lib.hid hfr1
        have C3 : Hid (Calls Tryd.prog 33 #[.pointer (some ⟨ge, 0, none⟩)] w1.drew fun e w' => e = .returned (.string (bs E'.text)) ∧ w' = w1.drew) := undo_text_eq ge E' fe' w1.drew hE'
        have C4 := Lib.hid (C2.out w1.drew HL1.out)
        have HPG1 := Lib.hid hPG1
        have D1 : w1.drew.cell? ⟨b, o + 1, none⟩ = some (.pointer (some ⟨ge, 0, none⟩)) := d1
        have D2 : w1.drew.cell? ⟨b, o + 2, none⟩ = some (.pointer (some ⟨gl, 0, none⟩)) := d2
        clear hPG1 hE' hu1 hfr1 C1 C2
        go_wp2_with fail
        go_region_held3 (fun W : World => W.cell? ⟨b, o + 1, none⟩ = some (.pointer (some ⟨ge, 0, none⟩)) ∧ W.cell? ⟨b, o + 2, none⟩ = some (.pointer (some ⟨gl, 0, none⟩))) (first | exact ⟨D1, D2⟩ | exact ⟨d3.c1, d3.c2⟩) (first | (go_at_call 33; go_must (go_fit (C3.out); rintro e w2 ⟨rfl, rfl⟩)) | (go_at_call 63; go_must (go_fit (C4.out); rintro e w3 ⟨rfl, fl', hL', hu3, hfr3⟩; have d3 := HPG1.out.upd (Upd.trans (T := fl) (S := fl) ((Upd.of (Below.refl _ _).drew) : Upd fl w1 w1.drew) hu3 (fun x hx => .inl hx)) (fun hm => hb (by rw [HFP.out]; simp [hm])))))
      all_goals
        have HL3 := Lib.hid hL'
        have HU3 := Lib.hid hu3
        have HF3 := Lib.hid hfr3
        have hd' : Hid (Dis fe' fl) := HD.out.fresh HF1.out HLW.out.lt
        have HE3 := Lib.hid (HED.out.upd hu3 hd'.out)
        clear hL' hu3 hfr3 d3
        go_wp2_with fail
        refine (C5.out fe' w3 HE3.out).mono ?_
        rintro e w4 ⟨rfl, fe2, hE4, hu4, hfr4⟩
        go_wp2
        go_ret
        obtain ⟨p1, p2, p3⟩ := IsPg.ed HLW.out HFP.out HD.out HE1.out HU1.out HF1.out
        obtain ⟨q1, q2, q3⟩ := IsPg.leaf (fp := fe' ++ fl) (w := w1.drew) HED.out rfl hd'.out HL3.out HU3.out HF3.out
        have hd2 : Dis fe' fl' := (hd'.out.symm.fresh HF3.out HED.out.lt).symm
        obtain ⟨r1, r2, r3⟩ := IsPg.ed (fp := fe' ++ fl') HL3.out rfl hd2 hE4 hu4 hfr4
        have p3' : Fresh w (fe' ++ fl) fp := fun x hx => by have := p3 x hx; rw [HSW.out] at this; exact this
        have q3' : Fresh w1 (fe' ++ fl') (fe' ++ fl) := q3
        have hz := p2.size
        rw [HSW.out] at hz
        have hz2 : w1.heap.size ≤ w3.heap.size := HU3.out.size
        have k3 := p3'.trans q3' hz
        refine ⟨rfl, fe2 ++ fl', r1, ?_, k3.trans r3 (by omega)⟩
        have u1 := (HUW.out.trans p2 (fun x hx => .inl hx)).trans ((Upd.of (Below.refl _ _).drew : Upd (fe' ++ fl) w1 w1.drew).trans q2 (fun x hx => .inl hx)) (fun x hx => p3' x hx)
        exact u1.trans r2 (fun x hx => k3 x hx)
  · have hF : pgStep E L false = ((redoEd E).1, (redoEd E).2, L) := if_neg hr
    rw [hF]
    have hne : ((redoEd E).1 == 0) = false := by simpa using hr
    generalize redoEd E = R at *
    obtain ⟨r, E'⟩ := R
    simp only at *
    clear hF h1 h2 h4 hp hK hfp hr
    go_enter Tryd.func41, Tryd.ntmps41
    go_wp2_with fail
    go_region
    all_goals
      have HEW : Hid (IsEd w.drew ge E fe) := HE.out
      have HLW : Hid (IsLeaf w.drew gl L fl) := HL.out
      have HUW : Hid (Upd fp w w.drew) := Upd.of (Below.refl _ _).drew
      have HSW : Hid (w.drew.heap.size = w.heap.size) := rfl
      generalize w.drew = W at *
      clear c1
      go_wp2_with fail
      refine (C1.out W HEW.out).mono ?_
      rintro e w1 ⟨rfl, fe', hE', hu1, hfr1⟩
      go_wp2
      go_ret
      obtain ⟨p1, p2, p3⟩ := IsPg.ed HLW.out HFP.out HD.out hE' hu1 hfr1
      exact ⟨rfl, _, p1, HUW.out.trans p2 (fun x hx => .inl hx), fun x hx => by have := p3 x hx; rw [HSW.out] at this; exact this⟩

end Go.Proofs.YtclebkgfogienaaDoor
