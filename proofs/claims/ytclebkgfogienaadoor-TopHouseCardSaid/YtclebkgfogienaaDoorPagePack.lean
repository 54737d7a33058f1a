/- A page is packed. -/
import Derived.Test.YtclebkgfogienaaDoorPage
namespace Go.Proofs.YtclebkgfogienaaDoor
set_option linter.unusedSimpArgs false
set_option linter.unusedVariables false
open Go.RowKit

/-- what a call that may turn a page leaves, where the page's editor may be a new one -/
def PkPost (b o : Nat) (gl : Nat) (E : EdS) (L : LfS) (fp : List Nat) (w : World) (v : Value) (e : Ending) (w' : World) : Prop :=
  e = .returned v ∧ ∃ ge' fp', IsPg w' ge' gl E L fp' ∧ Upd (b :: fp) w w' ∧ Fresh w fp' fp ∧ ∀ cur T fr, w.heap[b]? = some (.cells cur T fr) → w'.heap[b]? = some (.cells (cur.setIfInBounds (o + 1) (.pointer (some ⟨ge', 0, none⟩))) T fr)
theorem set_same {cur : Array Value} {i : Nat} {v : Value} (h : cur[i]? = some v) : cur.setIfInBounds i v = cur := by
  apply Array.ext_getElem?
  intro j
  by_cases hj : i = j
  · subst hj
    have hi : i < cur.size := by
      rcases Nat.lt_or_ge i cur.size with h' | h'
      · exact h'
      · rw [Array.getElem?_eq_none h'] at h; cases h
    rw [Array.getElem?_setIfInBounds_self_of_lt hi, h]
  · rw [Array.getElem?_setIfInBounds_ne hj]
theorem PgPost.pk {b o : Nat} {name : List UInt8} {ge gl : Nat} {E : EdS} {L : LfS} {fp : List Nat} {w : World} {v : Value} {e : Ending} {w' : World} (hp : PgAt w b o name ge gl) (hb : b ∉ fp) (h : PgPost ge gl E L fp w v e w') : PkPost b o gl E L fp w v e w' := by
  obtain ⟨he, fp', h1, h2, h3⟩ := h
  refine ⟨he, ge, fp', h1, h2.mono (fun x hx => by simp [hx]), h3, fun cur T fr hc => ?_⟩
  have hk := hp.c1
  rw [blk_cell hc] at hk
  rw [set_same hk, h2.block b hp.lt hb, hc]

set_option maxRecDepth 100000 in
set_option maxHeartbeats 1600000 in
theorem page_pack (b o : Nat) (name : List UInt8) (ge gl : Nat) (E : EdS) (L : LfS) (fp : List Nat) (stop : Int) (w : World) (hp : PgAt w b o name ge gl) (hb : b ∉ fp) (h : IsPg w ge gl E L fp) (hK : PgOk E L) :
    Calls Tryd.prog 43 #[.pointer (some ⟨b, o, none⟩), .int .i64 stop] w (PkPost b o gl (pgPack E L stop).2.1 (pgPack E L stop).2.2 fp w (.int .i64 (pgPack E L stop).1)) := by
  obtain ⟨fe, fl, h1, h2, hfp, h4⟩ := h
  have HE := Lib.hid h1
  have HL := Lib.hid h2
  have HD := Lib.hid h4
  have HPG := Lib.hid hp
  have HFP := Lib.hid hfp
  have c1 := hp.c1
  have c2 := hp.c2
  have hbl := hp.lt
  have C1 := Lib.hid (leaf_pack gl L fl stop w h2 hK.leaf)
  have HTX := Lib.hid (lfPack_ok hK.leaf stop).text
  have HBP := Lib.hid hb
  by_cases hr : (lfPack L stop).1 = 0
  · by_cases hs : stop = 0
    · have hF : pgPack E L stop = (0, E, (lfPack L stop).2) := by unfold pgPack; simp only; rw [if_pos hr, if_pos hs]
      rw [hF]
      rw [hr] at C1
      generalize (lfPack L stop).2 = L' at *
      subst hs
      simp only
      clear hF h1 h2 h4 hp hK hfp hr
      go_enter Tryd.func43, Tryd.ntmps43
      go_wp2_with fail
      refine C1.out.mono ?_
      rintro e w1 ⟨rfl, fl', hL', hu, hfr⟩
      go_wp2
      go_ret
      exact PgPost.pk HPG.out HBP.out ⟨rfl, _, IsPg.leaf HE.out HFP.out HD.out hL' hu hfr⟩
    · have hF : pgPack E L stop = (0, ⟨(lfPack L stop).2.text, [], []⟩, (lfPack L stop).2) := by unfold pgPack; simp only; rw [if_pos hr, if_neg hs]
      rw [hF]
      rw [hr] at C1
      have hne : (stop == 0) = false := by simpa using hs
      generalize (lfPack L stop).2 = L' at *
      simp only
      clear hF h1 h2 h4 hp hK hfp hr hs
      go_enter Tryd.func43, Tryd.ntmps43
      go_wp2_with fail
      refine C1.out.mono ?_
      rintro e w1 ⟨rfl, fl', hL', hu, hfr⟩
      have hbf : b ∉ fl := fun hm => HBP.out (by rw [HFP.out]; simp [hm])
      have hPG1 := HPG.out.upd hu hbf
      have d1 := hPG1.c1
      have d2 := hPG1.c2
      have df := hPG1.fr (o + 1)
      have HPG1 := Lib.hid hPG1
      have HL1 := Lib.hid hL'
      have HU1 := Lib.hid hu
      have HF1 := Lib.hid hfr
      have hbl1 := hPG1.lt
      clear hPG1 hL' hu hfr c1 c2
      go_wp2_with fail
      refine (leaf_text_eq gl L' fl' w1 HL1.out).mono ?_
      rintro e w2 ⟨rfl, rfl⟩
      go_wp2_with fail
      refine (undo_new L'.text w2 HTX.out).mono ?_
      rintro e w3 ⟨g, rfl, hE3, hg, hb3⟩
      have q1 : w3.cell? ⟨b, o + 1, none⟩ = some (.pointer (some ⟨ge, 0, none⟩)) := (hb3.cell (p := ⟨b, o + 1, none⟩) hbl1).trans d1
      have q2 := (HPG1.out.upd (Upd.of (S := []) hb3) (by simp)).fr (o + 1)
      have HE3 := Lib.hid hE3
      have HB3 := Lib.hid hb3
      have HG := Lib.hid hg
      clear hE3 hb3 hg
      go_wp2
      go_ret
      obtain ⟨p1, p2, p3⟩ := IsPg.leaf HE.out HFP.out HD.out HL1.out HU1.out HF1.out
      have hset := Upd.setCell w3 b (o + 1) (.pointer (some ⟨g, 0, none⟩))
      have hgb : g ≠ b := by have := HG.out; omega
      refine ⟨rfl, g, [g] ++ fl', ⟨[g], fl', HE3.out.upd hset (by simpa using hgb), (HL1.out.below HB3.out).upd hset ?_, rfl, ?_⟩, ?_, ?_, ?_⟩
      · intro x hx hm
        simp at hm
        subst hm
        rcases HF1.out x hx with h | h
        · exact HBP.out (by rw [HFP.out]; simp [h])
        · omega
      · intro x hx hm
        simp at hx; subst hx
        have := HL1.out.lt x hm
        have := HG.out
        omega
      · exact ((p2.mono (T := b :: fp) (fun x hx => by simp [hx])).then HB3.out).trans hset (fun x hx => .inl (by simp at hx; simp [hx]))
      · intro x hx
        rcases List.mem_append.1 hx with h | h
        · simp at h; subst h; have := p2.size; have := HG.out; exact .inr (by omega)
        · exact p3 x (by simp [h])
      · intro cur T fr hc
        have e1 : w3.heap[b]? = some (.cells cur T fr) := by rw [HB3.out.block b hbl1, HU1.out.block b hbl (fun hm => HBP.out (by rw [HFP.out]; simp [hm])), hc]
        exact blk_set e1 _ _
  · have hF : pgPack E L stop = ((lfPack L stop).1, E, (lfPack L stop).2) := by unfold pgPack; simp only; rw [if_neg hr]
    rw [hF]
    have hne : ((lfPack L stop).1 == 0) = false := by simpa using hr
    generalize (lfPack L stop).2 = L' at *
    generalize (lfPack L stop).1 = r at *
    simp only
    clear hF h1 h2 h4 hp hK hfp hr
    go_enter Tryd.func43, Tryd.ntmps43
    go_wp2_with fail
    refine C1.out.mono ?_
    rintro e w1 ⟨rfl, fl', hL', hu, hfr⟩
    go_wp2
    go_ret
    exact PgPost.pk HPG.out HBP.out ⟨rfl, _, IsPg.leaf HE.out HFP.out HD.out hL' hu hfr⟩
end Go.Proofs.YtclebkgfogienaaDoor
