/- slices.DeleteFunc and slices.Clone at deeds. -/
import Derived.Test.YtclebkgfogienaaDoorApartD
namespace Go.Proofs.YtclebkgfogienaaDoor
set_option linter.unusedSimpArgs false
set_option linter.unusedVariables false
open Go.RowKit

def keepL (nm : List UInt8) (L : List (Dd × Value)) : List (Dd × Value) := L.filter fun x => !(delD nm x.1)
theorem filter_none (nm : List UInt8) (L : List (Dd × Value)) (h : L.findIdx? (fun x => delD nm x.1) = none) : keepL nm L = L := by
  unfold keepL
  rw [List.filter_eq_self]
  intro x hx
  have := List.findIdx?_eq_none_iff.1 h x hx
  simp [this]
theorem filter_some (nm : List UInt8) (L : List (Dd × Value)) (k : Nat) (h : L.findIdx? (fun x => delD nm x.1) = some k) : k < L.length ∧ keepL nm (L.take (k + 1)) = L.take k := by
  obtain ⟨hk, h1, h2⟩ := List.findIdx?_eq_some_iff_getElem.1 h
  refine ⟨hk, ?_⟩
  unfold keepL
  rw [List.take_succ_eq_append_getElem hk, List.filter_append]
  have e1 : (L.take k).filter (fun x => !(delD nm x.1)) = L.take k := by
    rw [List.filter_eq_self]
    intro x hx
    obtain ⟨j, hj, rfl⟩ := List.getElem_of_mem hx
    have hj' : j < k := by simp at hj; omega
    rw [List.getElem_take]
    have := h2 j hj'
    simpa using this
  have e2 : [L[k]].filter (fun x => !(delD nm x.1)) = [] := by simp [h1]
  rw [e1, e2, List.append_nil]

set_option maxRecDepth 100000 in
set_option maxHeartbeats 1600000 in
theorem apart_delete (b off c : Nat) (L : List (Dd × Value)) (nm : List UInt8) (gn : Nat) (w : World) (hO : OwnC 25 5 w (some ⟨b, off, none⟩) L.length c (dCells L)) (hL : L.length ≤ 9223372036854775807) (hd : w.cell? ⟨gn, 0, none⟩ = some (.string (bs nm))) (hgn : gn < w.heap.size) (hgb : gn ≠ b) (hS : ∀ x ∈ L, ∃ A n c, x.2 = Value.slice A n c) :
    Calls Tryd.prog 23 #[.slice (some ⟨b, off, none⟩) L.length c, .func (Fn.func 25) #[] #[.pointer (some ⟨gn, 0, none⟩)]] w fun e w' =>
      e = .returned (.slice (some ⟨b, off, none⟩) (keepL nm L).length c) ∧ OwnC 25 5 w' (some ⟨b, off, none⟩) (keepL nm L).length c (dCells (keepL nm L)) ∧ Upd [b] w w' := by
  have HO := Lib.hid hO
  have HSL := Lib.hid hS
  clear hS
  have HD := Lib.hid hd
  have HI := Lib.hid (apart_index (some ⟨b, off, none⟩) c L nm gn w hO hL hd hgn)
  have hcm : L.length ≤ c ∧ c ≤ 9223372036854775807 := by
    rcases hO.2 with ⟨h, _⟩ | ⟨_, _, _, _, _, h1, hcm, _⟩
    · cases h
    · exact ⟨h1, hcm⟩
  obtain ⟨hnc, hcm⟩ := hcm
  clear hO hd
  cases hf : L.findIdx? (fun x => delD nm x.1) with
  | none =>
    have e1 : delI nm L = -1 := by unfold delI; rw [hf]
    rw [e1] at HI
    rw [filter_none nm L hf]
    clear hf e1
    go_enter Tryd.func23, Tryd.ntmps23
    go_wp2_with fail
    refine HI.out.mono ?_
    rintro e w1 ⟨rfl, hb⟩
    have HO1 := Lib.hid (HO.out.below hb)
    have HU1 := Lib.hid (Upd.of (S := [b]) hb)
    clear hb
    go_wp2
    go_ret
    exact ⟨rfl, HO1.out, HU1.out⟩
  | some i0 =>
    have e1 : delI nm L = i0 := by unfold delI; rw [hf]
    rw [e1] at HI
    obtain ⟨hi0, hk0⟩ := filter_some nm L i0 hf
    have HK0 := Lib.hid hk0
    have q1 : ((i0 : Int) == -1) = false := by simp
    clear hf e1 hk0
    go_enter Tryd.func23, Tryd.ntmps23
    go_wp2_with fail
    refine HI.out.mono ?_
    rintro e w1 ⟨rfl, hb⟩
    have HO1 := Lib.hid (HO.out.below hb)
    have HU1 := Lib.hid (Upd.of (S := [b]) hb)
    clear hb
    go_wp2
    go_loopw [5, 6] (fun iv jv wr => ∃ (i j : Nat) (M : List (Dd × Value)), iv = .int .i64 i ∧ jv = .int .i64 j ∧ i < j ∧ j ≤ L.length ∧ Hid (M.length = L.length) ∧ Hid (M.take i = keepL nm (L.take j)) ∧ Hid (M.drop j = L.drop j) ∧ Hid (OwnC 25 5 wr (some ⟨b, off, none⟩) L.length c (dCells M)) ∧ Hid (Upd [b] w wr)) (fun _ jv _ => L.length - (intOf jv).toNat)
    case atStart => exact ⟨i0, i0 + 1, L, rfl, by go_num, by omega, by omega, rfl, HK0.out.symm, rfl, HO1.out, HU1.out⟩
    case round =>
      obtain ⟨i, j, M, rfl, rfl, hij, hj, HL, HT, HDr, HOr, HUr⟩ := hrel
      by_cases hlt : j < L.length
      · have hjM : j < M.length := by rw [HL.out]; exact hlt
        have hMj : M[j] = L[j] := by
          have h1 : (M.drop j)[0]? = (L.drop j)[0]? := by rw [HDr.out]
          simpa [hjM, hlt] using h1
        have p0 := HOr.out.cell (j * 5 + 0) (by omega)
        have p1 := HOr.out.cell (j * 5 + 1) (by omega)
        have p2 := HOr.out.cell (j * 5 + 2) (by omega)
        have p3 := HOr.out.cell (j * 5 + 3) (by omega)
        have p4 := HOr.out.cell (j * 5 + 4) (by omega)
        rw [dCells_at M j hjM _ (by omega)] at p0 p1 p2 p3 p4
        rw [← Nat.add_assoc] at p0 p1 p2 p3 p4
        simp only [dCell, List.getElem?_cons_zero, List.getElem?_cons_succ, Nat.add_zero] at p0 p1 p2 p3 p4
        have hne : gn ∉ [b] := by simpa using hgb
        have hcn : wr.cell? ⟨gn, 0, none⟩ = some (.string (bs nm)) := by
          have := HUr.out.block gn hgn hne
          have h := HD.out
          unfold World.cell? at h ⊢
          simp only [this]
          exact h
        have hgr : gn < wr.heap.size := Nat.lt_of_lt_of_le hgn HUr.out.size
        have HKT : Hid (keepL nm (L.take (j + 1)) = keepL nm (L.take j) ++ (if delD nm M[j].1 = true then [] else [M[j]])) := by
          unfold Hid keepL
          rw [List.take_succ_eq_append_getElem hlt, List.filter_append, hMj]
          by_cases h : delD nm L[j].1 = true
          · simp [h]
          · simp [h]
        have HDT : Hid (∀ x, (M.set i x).drop (j + 1) = L.drop (j + 1)) := fun x => by
          rw [List.drop_set_of_lt (by omega), ← List.drop_drop, HDr.out, List.drop_drop]
        have HDT0 : Hid (M.drop (j + 1) = L.drop (j + 1)) := by
          unfold Hid
          rw [← List.drop_drop, HDr.out, List.drop_drop]
        obtain ⟨Ae, ne, ce, hev⟩ : ∃ A n c, M[j].2 = Value.slice A n c := by rw [hMj]; exact HSL.out _ (List.getElem_mem hlt)
        clear hMj
        generalize M[j] = r at *
        obtain ⟨⟨kd, n, dn, tx, eds⟩, ev⟩ := r
        simp only at p0 p1 p2 p3 p4 HKT hev
        subst hev
        have hba : Below wr.heap.size wr (wr.alloc (.cells #[.int .i64 kd, .int .i64 n, .string (bs dn), .string (bs tx), .slice Ae ne ce] 25)) := (Below.refl _ _).alloc (Nat.le_refl _) _
        have C := Lib.hid (apart_del ⟨kd, n, dn, tx, eds⟩ (.slice Ae ne ce) gn nm (wr.alloc (.cells #[.int .i64 kd, .int .i64 n, .string (bs dn), .string (bs tx), .slice Ae ne ce] 25)) ((World.cell?_alloc_lt wr _ _ hgr).trans hcn) (by simp; omega))
        simp only [ddV] at C
        by_cases hdel : delD nm ⟨kd, n, dn, tx, eds⟩ = true
        · rw [hdel] at C
          rw [if_pos hdel, List.append_nil] at HKT
          clear hdel
          go_wp2_with fail
          refine C.out.mono ?_
          rintro e w5 ⟨rfl, hb⟩
          have hb' := hba.trans (hb.mono (by simp))
          have HO5 := Lib.hid (HOr.out.below hb')
          have HU5 := Lib.hid (HUr.out.then hb')
          clear hb hb' hba hcn C p0 p1 p2 p3 p4
          go_wp2
          go_roundw
          case rel => exact ⟨i, j + 1, M, rfl, by go_num, by omega, by omega, HL.out, by rw [HKT.out]; exact HT.out, HDT0.out, HO5.out, HU5.out⟩
          case measure => simp [intOf]; omega
        · have hdel : delD nm ⟨kd, n, dn, tx, eds⟩ = false := by simpa using hdel
          rw [hdel] at C HKT
          simp only [Bool.false_eq_true, if_false] at HKT
          go_wp2_with fail
          refine C.out.mono ?_
          rintro e w5 ⟨rfl, hb⟩
          have hb' := hba.trans (hb.mono (by simp))
          have HO5 := Lib.hid (HOr.out.below hb')
          have HU5 := Lib.hid (HUr.out.then hb')
          have hbx : w5.heap[wr.heap.size]? = some (.cells #[.int .i64 kd, .int .i64 n, .string (bs dn), .string (bs tx), .slice Ae ne ce] 25 (0, 0)) := (hb.block _ (by simp)).trans (heap_new _ _)
          have b0 : w5.cell? ⟨wr.heap.size, 0, none⟩ = some (.int .i64 kd) := (blk_cell hbx 0).trans rfl
          have b1 : w5.cell? ⟨wr.heap.size, 1, none⟩ = some (.int .i64 n) := (blk_cell hbx 1).trans rfl
          have b2 : w5.cell? ⟨wr.heap.size, 2, none⟩ = some (.string (bs dn)) := (blk_cell hbx 2).trans rfl
          have b3 : w5.cell? ⟨wr.heap.size, 3, none⟩ = some (.string (bs tx)) := (blk_cell hbx 3).trans rfl
          have b4 : w5.cell? ⟨wr.heap.size, 4, none⟩ = some (.slice Ae ne ce) := (blk_cell hbx 4).trans rfl
          clear hb hb' hba hcn C p0 p1 p2 p3 p4 hbx
          obtain ⟨cur, hg, hsz⟩ : ∃ cur, w5.heap[b]? = some (.cells cur 25 (0, 0)) ∧ off + c * 5 ≤ cur.size := by
            rcases HO5.out.2 with ⟨h, _⟩ | ⟨b', off', cur, he, hg, _, _, hs, _⟩
            · cases h
            · cases he; exact ⟨cur, hg, hs⟩
          have hfr : ∀ k, w5.frozen? ⟨b, k, none⟩ = false := fun k => blk_frozen hg k
          have hcl : ∀ k, k < off + c * 5 → ∃ v, w5.cell? ⟨b, k, none⟩ = some v := fun k hk => ⟨_, by rw [blk_cell hg, Array.getElem?_eq_getElem (by omega)]⟩
          obtain ⟨v0, t0⟩ := hcl (off + i * 5) (by omega)
          obtain ⟨v1, t1⟩ := hcl (off + i * 5 + 1) (by omega)
          obtain ⟨v2, t2⟩ := hcl (off + i * 5 + 2) (by omega)
          obtain ⟨v3, t3⟩ := hcl (off + i * 5 + 3) (by omega)
          obtain ⟨v4, t4⟩ := hcl (off + i * 5 + 4) (by omega)
          have hil : i < L.length := by omega
          clear hcl hg hsz
          have hset := deed_set HL.out HO5.out (⟨kd, n, dn, tx, eds⟩, .slice Ae ne ce) hil
          have hu6 := HU5.out.trans (setCells_upd b (dCell (⟨kd, n, dn, tx, eds⟩, .slice Ae ne ce)) (off + i * 5) w5) (fun x hx => .inl hx)
          have HO6 := Lib.hid hset
          have HU6 := Lib.hid hu6
          have HT6 : Hid ((M.set i (⟨kd, n, dn, tx, eds⟩, .slice Ae ne ce)).take (i + 1) = keepL nm (L.take (j + 1))) := by
            unfold Hid
            have hiM : i < (M.set i (⟨kd, n, dn, tx, eds⟩, .slice Ae ne ce)).length := by rw [List.length_set, HL.out]; exact hil
            rw [HKT.out, List.take_succ_eq_append_getElem hiM, List.take_set_of_le (by omega), HT.out]
            simp
          clear hset hu6
          go_wp2
          go_roundw
          case rel => exact ⟨i + 1, j + 1, M.set i (⟨kd, n, dn, tx, eds⟩, .slice Ae ne ce), by go_num, by go_num, by omega, by omega, by unfold Hid; rw [List.length_set]; exact HL.out, HT6.out, HDT.out _, HO6.out, HU6.out⟩
          case measure => simp [intOf]; omega
      · have hjE : j = L.length := by omega
        subst hjE
        have hT := HT.out
        rw [List.take_of_length_le (Nat.le_refl _)] at hT
        have hlen : (keepL nm L).length = i := by rw [← hT, List.length_take, HL.out]; omega
        obtain ⟨cur, hg, hsz⟩ : ∃ cur, wr.heap[b]? = some (.cells cur 25 (0, 0)) ∧ off + c * 5 ≤ cur.size := by
          rcases HOr.out.2 with ⟨h, _⟩ | ⟨b', off', cur, he, hg, _, _, hs, _⟩
          · cases h
          · cases he; exact ⟨cur, hg, hs⟩
        have hclr : ∀ ty, (Builtin.clear_ #[22] ty #[.slice (some ⟨b, off + i * 5, none⟩) (L.length - i) (c - i)]).run Tryd.prog wr = .ok (.tuple #[]) (wr.setCells b (off + i * 5) (zDeeds (L.length - i))) := fun ty =>
          run_clear_deeds wr ty b (off + i * 5) (L.length - i) (c - i) (by omega) (fun k hk => by rw [blk_cell hg, Array.getElem?_eq_getElem (by omega)]; rfl) (fun k hk => blk_frozen hg _)
        have HO3 : Hid (OwnC 25 5 (wr.setCells b (off + i * 5) (zDeeds (L.length - i))) (some ⟨b, off, none⟩) (keepL nm L).length c (dCells (keepL nm L))) := by
          obtain ⟨cur', k1, k2, k3⟩ := setCells_heap b (zDeeds (L.length - i)) (off + i * 5) wr cur 25 (0, 0) hg (by rw [zDeeds_length]; omega)
          refine ⟨dCells_length _, .inr ⟨b, off, cur', rfl, k1, by omega, hcm, by omega, fun q hq => ?_⟩⟩
          rw [k3, if_neg (by omega)]
          have h4 := (HOr.out.take i (by omega)).2
          rcases h4 with ⟨h, _⟩ | ⟨b', off', cur2, he, hg2, _, _, _, h4⟩
          · cases h
          · cases he
            rw [hg] at hg2
            injection hg2 with hg2
            injection hg2 with hg2
            subst hg2
            rw [h4 q (by omega), dCells_take, hT]
        have HU3 := Lib.hid (HUr.out.trans (setCells_upd b (zDeeds (L.length - i)) (off + i * 5) wr) (fun x hx => .inl hx))
        have HLN := Lib.hid hlen
        generalize wr.setCells b (off + i * 5) (zDeeds (L.length - i)) = W3 at *
        have hcm2 : ¬ c = i := by omega
        have hic : i ≤ c := by omega
        have hil : i ≤ L.length := by omega
        clear hT hlen hg hsz
        go_wp2
        go_ret
        refine ⟨?_, HO3.out, HU3.out⟩
        show Ending.returned (.slice (some ⟨b, off, none⟩) i c) = _
        rw [HLN.out]

theorem info_deed : (Tryd.prog.info? 25).map (fun i => (i.zero, i.size, i.bytes)) = some (some (.agg #[.int .i64 0, .int .i64 0, .string ⟨#[]⟩, .string ⟨#[]⟩, .slice none 0 0]), 5, 72) := by kernel_rfl
/-- deeds of a slice that came in, with the values of their edits -/
structure DeedsL (B : Nat) (w : World) (b off : Nat) (L : List (Dd × Value)) : Prop where
  at_ : ∀ i (h : i < L.length), DeedAt B w b (off + i * 5) L[i].1 L[i].2
  sl : ∀ x ∈ L, ∃ A n c, x.2 = Value.slice A n c
theorem deeds_list {B : Nat} {w : World} {A : Option Addr} {c : Nat} {D : List Dd} (h : DeedsAt B w (.slice A D.length c) D) (hne : D ≠ []) : ∃ b off L, A = some ⟨b, off, none⟩ ∧ b < B ∧ L.map Prod.fst = D ∧ DeedsL B w b off L := by
  obtain ⟨A', c', he, _, _, h2⟩ := h
  cases he
  obtain ⟨b, off, rfl, hb, h3⟩ := h2 hne
  obtain ⟨E, hE, hp⟩ := pick_list (p := fun i ev => ∃ h : i < D.length, DeedAt B w b (off + i * 5) D[i] ev) D.length (fun i hi => by obtain ⟨ev, h4⟩ := h3 i hi; exact ⟨ev, hi, h4⟩)
  refine ⟨b, off, D.zip E, rfl, hb, ?_, ⟨fun i hi => ?_, fun x hx => ?_⟩⟩
  · rw [List.map_fst_zip (by omega)]
  · simp at hi
    obtain ⟨_, h4⟩ := hp i (by omega)
    simpa using h4
  · obtain ⟨i, hi, rfl⟩ := List.getElem_of_mem hx
    simp at hi
    obtain ⟨_, h4⟩ := hp i (by omega)
    obtain ⟨A, c, h5, _⟩ := h4.ed
    exact ⟨A, _, c, by simpa using h5⟩
theorem dCells_one {L : List (Dd × Value)} (h : ∀ x ∈ L, ∃ A n c, x.2 = Value.slice A n c) : ∀ u ∈ dCells L, u.oneCell' = true := by
  intro u hu
  obtain ⟨x, hx, hu⟩ := List.mem_flatMap.1 hu
  obtain ⟨A, n, c, he⟩ := h x hx
  simp [dCell, he] at hu
  rcases hu with rfl | rfl | rfl | rfl | rfl <;> rfl
theorem dCells_mem {B : Nat} {w : World} {b off : Nat} {L : List (Dd × Value)} (h : DeedsL B w b off L) : ∀ j u, (dCells L)[j]? = some u → w.cell? ((⟨b, off, none⟩ : Addr).add j) = some u := by
  intro j u hu
  have hj : j < L.length * 5 := by
    have := (List.getElem?_eq_some_iff.1 hu).1
    rwa [dCells_length] at this
  obtain ⟨i, r, rfl, hr⟩ : ∃ i r, j = i * 5 + r ∧ r < 5 := ⟨j / 5, j % 5, by omega, Nat.mod_lt _ (by decide)⟩
  have hi : i < L.length := by omega
  rw [dCells_at L i hi r hr] at hu
  have h4 := h.at_ i hi
  rw [addr_add, ← Nat.add_assoc]
  have hr' : r = 0 ∨ r = 1 ∨ r = 2 ∨ r = 3 ∨ r = 4 := by omega
  rcases hr' with rfl | rfl | rfl | rfl | rfl
  · rw [Nat.add_zero, h4.c0]; exact hu
  · rw [h4.c1]; exact hu
  · rw [h4.c2]; exact hu
  · rw [h4.c3]; exact hu
  · rw [h4.c4]; exact hu

end Go.Proofs.YtclebkgfogienaaDoor
