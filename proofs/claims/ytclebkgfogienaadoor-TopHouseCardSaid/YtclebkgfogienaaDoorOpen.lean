/- What an argument of the type []api.Deed is, cell by cell. -/
import Derived.Test.YtclebkgfogienaaDoorHouses
import Derived.Deep.Slices
import Derived.Deep.Fields
import Derived.ChangeSame
import Derived.ChangeArms
namespace Go.Proofs.YtclebkgfogienaaDoor
set_option linter.unusedSimpArgs false
set_option linter.unusedVariables false
open Go.ChangeShapes Go.WideShapes Go.Deep Go.RowKit

section
variable {H : Type} {enc : TypeId × Value → H} {P : Program} {w : World} {base : Nat} {spare : Nat → Bool} {held : Bool}
theorem open_slice_fields {t e : TypeId} {fs : Array Field} {fuel : Nat} {cs : List Value} {x : DataW H × List MemPlace} (ht : P.underlying t = some (.slice e)) (he : P.underlying e = some (.struct fs))
    (hone : oneCellFields P fs = true) (hC : P.cellsOf e = fs.size) (h : DataW.trod enc P w base spare held fuel t cs = some x) :
    (cs = [.slice none 0 0] ∧ x = (.nil, [])) ∨
    ∃ (a : Addr) (len cap m : Nat) (D : Nat → DataW H) (Pl : Nat → List MemPlace), cs = [.slice (some a) len cap] ∧ base ≤ a.block ∧ len ≤ cap ∧ cap ≤ maxLen ∧ m = (if spare a.block then cap else len) ∧
      x = (.slice ((List.range len).map D) ((List.range (m - len)).map fun j => D (len + j)), MemPlace.row a (m * fs.size) ++ (List.range m).flatMap Pl) ∧
      ∀ i, i < m → ∃ (ys : List (DataW H × List MemPlace)) (n : Nat), D i = .agg (ys.map (·.1)) ∧ Pl i = ys.flatMap (·.2) ∧ ys.length = fs.size ∧
        ∀ (j : Nat) (f : Field), fs[j]? = some f → ∃ (v : Value) (y : DataW H × List MemPlace), w.cell? (a.add (i * fs.size + j)) = some v ∧ ys[j]? = some y ∧ DataW.trod enc P w base spare held n f.type [v] = some y := by
  rcases open_slice ht h with h0 | ⟨a, len, cap, m, n, D, Pl, hcs, hb, hl, hm, hmm, hx, hi⟩
  · exact .inl h0
  · refine .inr ⟨a, len, cap, m, D, Pl, hcs, hb, hl, hm, hmm, by rw [hC] at hx; exact hx, fun i him => ?_⟩
    obtain ⟨cs', hc, ht'⟩ := hi i him
    rw [hC] at hc
    obtain ⟨ys, n', hn', hy, hlen, hyl, hf⟩ := DataW.trod_struct he ht'
    obtain ⟨_, hcl, hat⟩ := World.cells?_some hc
    simp only [Prod.mk.injEq] at hy
    refine ⟨ys, n', hy.1, hy.2, hyl, fun j f hj => ?_⟩
    obtain ⟨ho, hk⟩ := hone_of hone j f hj
    have hjl : j < fs.size := (Array.getElem?_eq_some_iff.1 hj).1
    have hcell := hat j hjl
    have hv : cs'[j]? = some (cs'[j]'(by omega)) := List.getElem?_eq_getElem (by omega)
    have h1 := hf j f hj
    rw [ho, hk] at h1
    have hone' : (cs'.drop j).take 1 = [cs'[j]'(by omega)] := by
      rw [List.drop_eq_getElem_cons (by omega)]
      rfl
    rw [hone'] at h1
    have hys : ys[j]? = some (ys[j]'(by omega)) := List.getElem?_eq_getElem (by omega)
    refine ⟨_, _, ?_, hys, h1.trans hys⟩
    rw [← Go.Deep.add_add, hcell, hv]
end

theorem pick_list {α : Type} {p : Nat → α → Prop} : ∀ (n : Nat), (∀ i, i < n → ∃ x, p i x) → ∃ l : List α, l.length = n ∧ ∀ i (h : i < l.length), p i l[i]
  | 0, _ => ⟨[], rfl, fun i h => by simp at h⟩
  | n + 1, h => by
    obtain ⟨l, hl, hp⟩ := pick_list n (fun i hi => h i (by omega))
    obtain ⟨x, hx⟩ := h n (by omega)
    refine ⟨l ++ [x], by simp [hl], fun i hi => ?_⟩
    by_cases hin : i < l.length
    · rw [List.getElem_append_left hin]
      exact hp i hin
    · have : i = l.length := by simp at hi; omega
      subst this
      simp only [List.getElem_concat_length]
      rw [hl]
      exact hx

section
variable {H : Type} {enc : TypeId × Value → H} {w : World}
theorem editsAt_open {fuel : Nat} {v : Value} {x : DataW H × List MemPlace} (h : DataW.trod enc Tryd.prog w 0 (fun _ => true) true fuel 23 [v] = some x) :
    ∃ l, EditsAt w v l ∧ (l ≠ [] → ∀ A n c, v = .slice A n c → ∀ y ∈ blk A, y < w.heap.size) := by
  rcases open_slice_fields Tryd.underlying23 Tryd.underlying89 (by kernel_rfl) (by kernel_rfl) h with ⟨hcs, _⟩ | ⟨a, len, cap, m, D, Pl, hcs, _, hl, hm, hmm, _, hi⟩
  · obtain rfl : v = .slice none 0 0 := by simpa using hcs
    exact ⟨[], editsAt_none w, fun h => absurd rfl h⟩
  · obtain rfl : v = .slice (some a) len cap := by simpa using hcs
    simp only [if_true] at hmm
    subst hmm
    have hcell : ∀ i, i < len → ∃ e : Ed, w.cell? (a.add (i * 3)) = some (.int .i64 e.pos) ∧ w.cell? (a.add (i * 3 + 1)) = some (.int .i64 e.del) ∧ w.cell? (a.add (i * 3 + 2)) = some (.string (bs e.ins)) := by
      intro i hil
      obtain ⟨ys, n, _, _, _, hf⟩ := hi i (by omega)
      obtain ⟨v0, y0, c0, _, t0⟩ := hf 0 _ rfl
      obtain ⟨v1, y1, c1, _, t1⟩ := hf 1 _ rfl
      obtain ⟨v2, y2, c2, _, t2⟩ := hf 2 _ rfl
      obtain ⟨n0, e0, _, _⟩ := DataW.trod_int Tryd.underlying3 t0
      obtain ⟨n1, e1, _, _⟩ := DataW.trod_int Tryd.underlying3 t1
      obtain ⟨s2, e2, _, _⟩ := DataW.trod_string Tryd.underlying9 t2
      simp at e0 e1 e2
      subst e0 e1 e2
      exact ⟨⟨n0, n1, sl s2⟩, c0, c1, by rw [bs_sl]; exact c2⟩
    obtain ⟨l, hll, hp⟩ := pick_list len hcell
    subst hll
    by_cases h0 : l.length = 0
    · have hl0 : l = [] := List.eq_nil_of_length_eq_zero h0
      subst hl0
      exact ⟨[], ⟨some a, m, rfl, by simp, fun h => absurd rfl h⟩, fun h => absurd rfl h⟩
    · obtain ⟨b, off, spot⟩ := a
      have hc := (hp 0 (by omega)).1
      have hspot : spot = none := by simpa [Addr.add] using World.cell?_spot hc
      subst hspot
      have hb : b < w.heap.size := by
        have := World.block_lt_of_cell? w _ hc
        simpa [Addr.add] using this
      refine ⟨l, ⟨some ⟨b, off, none⟩, m, rfl, hl, fun _ => ⟨b, off, rfl, hb, fun i hil => ?_⟩⟩, fun _ A n c hA y hy => by cases hA; simp [blk] at hy; omega⟩
      obtain ⟨p0, p1, p2⟩ := hp i hil
      simp only [addr_add] at p0 p1 p2
      exact ⟨p0, by rw [Nat.add_assoc]; exact p1, by rw [Nat.add_assoc]; exact p2⟩
theorem deedsAt_open {fuel : Nat} {v : Value} {x : DataW H × List MemPlace} (h : DataW.trod enc Tryd.prog w 0 (fun _ => true) true fuel 22 [v] = some x) :
    ∃ D, DeedsAt w.heap.size w v D := by
  rcases open_slice_fields Tryd.underlying22 Tryd.underlying25 (by kernel_rfl) (by kernel_rfl) h with ⟨hcs, _⟩ | ⟨a, len, cap, m, D, Pl, hcs, _, hl, hm, hmm, _, hi⟩
  · obtain rfl : v = .slice none 0 0 := by simpa using hcs
    exact ⟨[], none, 0, rfl, by simp, by simp, fun h => absurd rfl h⟩
  · obtain rfl : v = .slice (some a) len cap := by simpa using hcs
    simp only [if_true] at hmm
    have hm' : cap ≤ 9223372036854775807 := hm
    subst hmm
    have hcell : ∀ i, i < len → ∃ d : Dd, ∃ ev : Value, w.cell? (a.add (i * 5)) = some (.int .i64 d.kind) ∧ w.cell? (a.add (i * 5 + 1)) = some (.int .i64 d.n) ∧ w.cell? (a.add (i * 5 + 2)) = some (.string (bs d.name)) ∧ w.cell? (a.add (i * 5 + 3)) = some (.string (bs d.text)) ∧ w.cell? (a.add (i * 5 + 4)) = some ev ∧
        EditsAt w ev d.edits ∧ (d.edits ≠ [] → ∀ A n c, ev = .slice A n c → ∀ y ∈ blk A, y < w.heap.size) := by
      intro i hil
      obtain ⟨ys, n, _, _, _, hf⟩ := hi i (by omega)
      obtain ⟨v0, y0, c0, _, t0⟩ := hf 0 _ rfl
      obtain ⟨v1, y1, c1, _, t1⟩ := hf 1 _ rfl
      obtain ⟨v2, y2, c2, _, t2⟩ := hf 2 _ rfl
      obtain ⟨v3, y3, c3, _, t3⟩ := hf 3 _ rfl
      obtain ⟨v4, y4, c4, _, t4⟩ := hf 4 _ rfl
      obtain ⟨n0, e0, _, _⟩ := DataW.trod_int Tryd.underlying3 t0
      obtain ⟨n1, e1, _, _⟩ := DataW.trod_int Tryd.underlying3 t1
      obtain ⟨s2, e2, _, _⟩ := DataW.trod_string Tryd.underlying9 t2
      obtain ⟨s3, e3, _, _⟩ := DataW.trod_string Tryd.underlying9 t3
      obtain ⟨l, hl1, hl2⟩ := editsAt_open t4
      simp at e0 e1 e2 e3
      subst e0 e1 e2 e3
      exact ⟨⟨n0, n1, sl s2, sl s3, l⟩, v4, c0, c1, by rw [bs_sl]; exact c2, by rw [bs_sl]; exact c3, c4, hl1, hl2⟩
    obtain ⟨l, hll, hp⟩ := pick_list len hcell
    subst hll
    by_cases h0 : l.length = 0
    · have hl0 : l = [] := List.eq_nil_of_length_eq_zero h0
      subst hl0
      exact ⟨[], some a, m, rfl, by simp, by simp, fun h => absurd rfl h⟩
    · obtain ⟨b, off, spot⟩ := a
      obtain ⟨_, hc, _⟩ := hp 0 (by omega)
      have hspot : spot = none := by simpa [Addr.add] using World.cell?_spot hc
      subst hspot
      have hb : b < w.heap.size := by
        have := World.block_lt_of_cell? w _ hc
        simpa [Addr.add] using this
      refine ⟨l, some ⟨b, off, none⟩, m, rfl, hl, Nat.le_trans hl hm', fun _ => ⟨b, off, rfl, hb, fun i hil => ?_⟩⟩
      obtain ⟨ev, p0, p1, p2, p3, p4, p5, p6⟩ := hp i hil
      simp only [addr_add] at p0 p1 p2 p3 p4
      exact ⟨ev, p0, by rw [Nat.add_assoc]; exact p1, by rw [Nat.add_assoc]; exact p2, by rw [Nat.add_assoc]; exact p3, by rw [Nat.add_assoc]; exact p4, p5, p6⟩
end
end Go.Proofs.YtclebkgfogienaaDoor
