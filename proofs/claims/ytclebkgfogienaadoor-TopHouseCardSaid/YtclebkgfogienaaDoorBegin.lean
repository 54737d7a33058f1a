/- A text begins. -/
import Derived.Test.YtclebkgfogienaaDoorIndex
namespace Go.Proofs.YtclebkgfogienaaDoor
set_option linter.unusedSimpArgs false
set_option linter.unusedVariables false
open Go.RowKit

structure Dd where
  kind : Int
  n : Int
  name : List UInt8
  text : List UInt8
  edits : List Ed
def ddV (d : Dd) (ev : Value) : Value := .agg #[.int .i64 d.kind, .int .i64 d.n, .string (bs d.name), .string (bs d.text), ev]
structure HouseOk (H : List PageS) : Prop where
  len : H.length ≤ 6
  pg : ∀ p ∈ H, PgOk p.E p.L
def newPage (d : Dd) : PageS := ⟨d.name, ⟨d.text, [], []⟩, ⟨d.text, [.b d.text], 1⟩⟩
def beginF (H : List PageS) (d : Dd) : Int × List PageS :=
  if H.length = 6 then (11, H) else if 200 < d.text.length then (2, H) else (0, H ++ [newPage d])
theorem info_page : (Tryd.prog.info? 64).map (fun i => (i.zero, i.size, i.bytes)) = some (some (.agg #[.string ⟨#[]⟩, .pointer none, .pointer none]), 3, 32) := by kernel_rfl

set_option maxRecDepth 100000 in
theorem house_begin_there (gh : Nat) (k : Nat) (d : Dd) (ev : Value) (w : World) :
    Calls Tryd.prog 38 #[.pointer (some ⟨gh, 0, none⟩), .int .i64 k, ddV d ev] w fun e w' => e = .returned (.int .i64 10) ∧ Below w.heap.size w w' := by
  obtain ⟨kd, n, nm, tx, eds⟩ := d
  simp only [ddV]
  have q : (0 : Int) ≤ (k : Int) := by omega
  go_enter Tryd.func38, Tryd.ntmps38
  go_wp2
  go_ret
  exact ⟨rfl, (Below.refl _ _).alloc (Nat.le_refl _) _⟩

set_option maxRecDepth 100000 in
set_option maxHeartbeats 400000 in
theorem house_begin_no (gh : Nat) (H : List PageS) (F : List Nat) (d : Dd) (ev : Value) (w : World) (h : IsHouse w gh H F) (hH : H.length = 6 ∨ 200 < d.text.length) (hl : H.length ≤ 6) :
    Calls Tryd.prog 38 #[.pointer (some ⟨gh, 0, none⟩), .int .i64 (-1), ddV d ev] w fun e w' => e = .returned (.int .i64 (beginF H d).1) ∧ Below w.heap.size w w' := by
  obtain ⟨R, A, c, hM, rfl, rfl⟩ := h
  obtain ⟨kd, n, nm, tx, eds⟩ := d
  simp only [ddV] at *
  simp only [List.length_map] at hH hl
  have c0 : w.cell? ⟨gh, 0, none⟩ = some (.slice A R.length c) := (blk_cell hM.cell 0).trans rfl
  have hgl := blk_lt hM.cell
  have c0' : ∀ o, (w.alloc o).cell? ⟨gh, 0, none⟩ = some (.slice A R.length c) := fun o => (World.cell?_alloc_lt w o _ hgl).trans c0
  clear hM
  by_cases h6 : R.length = 6
  · have hE : (beginF (R.map PgM.s) ⟨kd, n, nm, tx, eds⟩).1 = 11 := by unfold beginF; rw [if_pos (by simpa using h6)]
    rw [hE]
    have q : ((R.length : Int) == 6) = true := by simp; omega
    clear hE
    go_enter Tryd.func38, Tryd.ntmps38
    go_wp2
    go_ret
    exact ⟨rfl, (Below.refl _ _).alloc (Nat.le_refl _) _⟩
  · have ht : 200 < tx.length := by rcases hH with h | h; exact absurd h h6; exact h
    have hE : (beginF (R.map PgM.s) ⟨kd, n, nm, tx, eds⟩).1 = 2 := by unfold beginF; rw [if_neg (by simpa using h6), if_pos ht]
    rw [hE]
    have q : ((R.length : Int) == 6) = false := by simp; omega
    clear hE
    go_enter Tryd.func38, Tryd.ntmps38
    go_wp2_with fail
    refine (undo_new_long tx _ (by omega)).mono ?_
    rintro e w1 ⟨rfl, hb⟩
    go_wp2
    go_ret
    exact ⟨rfl, ((Below.refl _ _).alloc (Nat.le_refl _) _).trans (hb.mono (by simp))⟩

theorem pgCells_snoc (R : List PgM) (p : PgM) : pgCells (R ++ [p]) = pgCells R ++ [.string (bs p.s.name), .pointer (some ⟨p.ge, 0, none⟩), .pointer (some ⟨p.gl, 0, none⟩)] := by simp [pgCells]
/-- a house that has one more page -/
theorem house_grow {w w2 w3 : World} {gh : Nat} {R : List PgM} {A A' : Option Addr} {c c' : Nat} {p : PgM} (hM : IsHouseM w gh R A c) (hB : Below w.heap.size w w2) (hu : Upd (blk A) w2 w3)
    (hO : OwnC 64 3 w3 A' (R.length + 1) c' (pgCells R ++ [.string (bs p.s.name), .pointer (some ⟨p.ge, 0, none⟩), .pointer (some ⟨p.gl, 0, none⟩)])) (hA : ∀ b ∈ blk A', b ∈ blk A ∨ w2.heap.size ≤ b)
    (hp : IsPg w2 p.ge p.gl p.s.E p.s.L p.fp) (hpf : ∀ b ∈ p.fp, w.heap.size ≤ b) :
    ∃ F', IsHouse (w3.setCell ⟨gh, 0, none⟩ (.slice A' (R.length + 1) c')) gh (R.map PgM.s ++ [p.s]) F' ∧ Upd (hfp gh R A) w (w3.setCell ⟨gh, 0, none⟩ (.slice A' (R.length + 1) c')) ∧ Fresh w F' (hfp gh R A) := by
  have hgl := blk_lt hM.cell
  have hset := Upd.setCell w3 gh 0 (.slice A' (R.length + 1) c')
  have hsz := hB.size
  have e3 : w3.heap[gh]? = some (.cells #[.slice A R.length c] 66 (0, 0)) := by rw [hu.block gh (by omega) hM.d1, hB.block gh hgl, hM.cell]
  have hgA : gh ∉ blk A' := fun hm => by
    rcases hA gh hm with h | h
    · exact hM.d1 h
    · omega
  have hgp : gh ∉ p.fp := fun hm => by have := hpf gh hm; omega
  have hAp : Dis (blk A) p.fp := fun b hb hm => by have := hM.own.lt b hb; have := hpf b hm; omega
  refine ⟨hfp gh (R ++ [p]) A', ⟨R ++ [p], A', c', ⟨?_, ?_, ?_, hgA, ?_, ?_⟩, by simp, rfl⟩, ?_, ?_⟩
  · rw [blk_set e3 0 _]; simp
  · rw [pgCells_snoc]
    have := hO.upd hset (fun b hb hm => by simp at hm; subst hm; exact hgA hb)
    simpa using this
  · intro r hr
    rcases List.mem_append.1 hr with hr | hr
    · exact (((hM.pg r hr).below hB).upd hu (fun b hb hm => (hM.d2 r hr).2 b hm hb)).upd hset (fun b hb hm => by simp at hm; subst hm; exact (hM.d2 r hr).1 hb)
    · simp at hr; subst hr
      exact (hp.upd hu (fun b hb hm => hAp b hm hb)).upd hset (fun b hb hm => by simp at hm; subst hm; exact hgp hb)
  · intro r hr
    rcases List.mem_append.1 hr with hr | hr
    · refine ⟨(hM.d2 r hr).1, fun b hb hm => ?_⟩
      rcases hA b hb with h | h
      · exact (hM.d2 r hr).2 b h hm
      · have := (hM.pg r hr).lt b hm; omega
    · simp at hr; subst hr
      refine ⟨hgp, fun b hb hm => ?_⟩
      rcases hA b hb with h | h
      · exact hAp b h hm
      · have := hp.lt b hm; omega
  · rw [List.map_append, List.pairwise_append]
    refine ⟨hM.d3, by simp, fun a ha b hb => ?_⟩
    obtain ⟨r, hr, rfl⟩ := List.mem_map.1 ha
    simp at hb; subst hb
    intro x hx hm
    have := (hM.pg r hr).lt x hx
    have := hpf x hm
    omega
  · exact ((Upd.of hB).trans (hu.mono (T := hfp gh R A) (fun x hx => mem_hfp.2 (.inr (.inl hx)))) (fun x hx => .inl hx)).trans hset (fun x hx => .inl (by simp at hx; exact mem_hfp.2 (.inl hx)))
  · intro b hb
    rcases mem_hfp.1 hb with rfl | hb | ⟨r, hr, hbr⟩
    · exact .inl (mem_hfp.2 (.inl rfl))
    · rcases hA b hb with h | h
      · exact .inl (mem_hfp.2 (.inr (.inl h)))
      · exact .inr (by omega)
    · rcases List.mem_append.1 hr with hr | hr
      · exact .inl (mem_hfp.2 (.inr (.inr ⟨r, hr, hbr⟩)))
      · simp at hr; subst hr
        exact .inr (hpf b hbr)

set_option maxRecDepth 100000 in
set_option maxHeartbeats 1600000 in
theorem house_begin_ok (gh : Nat) (H : List PageS) (F : List Nat) (d : Dd) (ev : Value) (w : World) (h : IsHouse w gh H F) (h6 : H.length < 6) (ht : d.text.length ≤ 200) :
    Calls Tryd.prog 38 #[.pointer (some ⟨gh, 0, none⟩), .int .i64 (-1), ddV d ev] w (HsPost gh (H ++ [newPage d]) F w (.int .i64 0)) := by
  obtain ⟨R, A, c, hM, rfl, rfl⟩ := h
  obtain ⟨kd, n, nm, tx, eds⟩ := d
  simp only [ddV] at *
  simp only [List.length_map] at h6
  obtain ⟨i0, hi, hz0, hz1, hz2⟩ := info_parts info_page
  have HI := Lib.hid hi
  have HZ0 := Lib.hid hz0
  have HZ1 := Lib.hid hz1
  have HZ2 := Lib.hid hz2
  have HM := Lib.hid hM
  have c0 : w.cell? ⟨gh, 0, none⟩ = some (.slice A R.length c) := (blk_cell hM.cell 0).trans rfl
  have hgl := blk_lt hM.cell
  have c0' : ∀ o, (w.alloc o).cell? ⟨gh, 0, none⟩ = some (.slice A R.length c) := fun o => (World.cell?_alloc_lt w o _ hgl).trans c0
  have q : ((R.length : Int) == 6) = false := by simp; omega
  clear hM hi hz0 hz1 hz2
  go_enter Tryd.func38, Tryd.ntmps38
  go_wp2_with fail
  refine (undo_new tx _ ht).mono ?_
  rintro e w1 ⟨ge, rfl, hE, hge, hb1⟩
  have HE := Lib.hid hE
  have hnew := heap_new w (.cells #[.int .i64 kd, .int .i64 n, .string (bs nm), .string (bs tx), ev] 25)
  have hnew1 := (hb1.block w.heap.size (by simp)).trans hnew
  have k2 : w1.cell? ⟨w.heap.size, 2, none⟩ = some (.string (bs nm)) := (blk_cell hnew1 2).trans rfl
  have k3 : w1.cell? ⟨w.heap.size, 3, none⟩ = some (.string (bs tx)) := (blk_cell hnew1 3).trans rfl
  have HB1 : Hid (Below w.heap.size w w1) := ((Below.refl _ _).alloc (Nat.le_refl _) _).trans (hb1.mono (by simp))
  have HGE : Hid (w.heap.size + 1 ≤ ge) := by simp at hge; exact hge
  have HZ : Hid (w.heap.size + 1 ≤ w1.heap.size) := by have := hb1.size; simp at this; exact this
  have HN1 := Lib.hid hnew1
  clear hE hge hb1 hnew hnew1 c0 c0'
  go_wp2_with fail
  refine (leaf_new tx w1 ht).mono ?_
  rintro e w2 ⟨gl, fl, rfl, hL, hfl, hb2⟩
  have HL := Lib.hid hL
  have HFL := Lib.hid hfl
  have HB2 := Lib.hid (HB1.out.trans (hb2.mono HB1.out.size))
  have HE2 := Lib.hid (HE.out.below hb2)
  have hnew2 := (hb2.block w.heap.size (by have := HZ.out; omega)).trans HN1.out
  have HN2 := Lib.hid hnew2
  have HLe : Hid (ge < w1.heap.size) := HE.out.lt ge (by simp)
  have HS2 := Lib.hid hb2.size
  have HM2 := Lib.hid (HM.out.upd (Upd.of (S := []) HB2.out) (by simp))
  have k2 : w2.cell? ⟨w.heap.size, 2, none⟩ = some (.string (bs nm)) := (blk_cell hnew2 2).trans rfl
  have d0 : w2.cell? ⟨gh, 0, none⟩ = some (.slice A R.length c) := (blk_cell HM2.out.cell 0).trans rfl
  have f0 : ∀ i, w2.frozen? ⟨gh, i, none⟩ = false := fun i => blk_frozen HM2.out.cell i
  have hgl2 := blk_lt HM2.out.cell
  have hgd2 := blk_lt hnew2
  have qa1 : ∀ o, (w2.alloc o).cell? ⟨gh, 0, none⟩ = some (.slice A R.length c) := fun o => (World.cell?_alloc_lt w2 o _ hgl2).trans d0
  have qa2 : ∀ o, (w2.alloc o).cell? ⟨w.heap.size, 2, none⟩ = some (.string (bs nm)) := fun o => (World.cell?_alloc_lt w2 o _ hgd2).trans k2
  clear hL hfl hb2 hnew2
  go_wp2_with fail
  go_region_law (refine step_append_C rfl _ _ 61 64 3 32 rfl i0 _ Tryd.underlying61 HI.out HZ0.out HZ1.out HZ2.out rfl A R.length c (pgCells R) rfl (HM2.out.own.below ((Below.refl _ _).drew.alloc (Nat.le_refl _) (.cells #[.string (bs nm), .pointer (some ⟨ge, 0, none⟩), .pointer (some ⟨gl, 0, none⟩)] 64))) ⟨w2.heap.size, 0, none⟩ 1 1 [.string (bs nm), .pointer (some ⟨ge, 0, none⟩), .pointer (some ⟨gl, 0, none⟩)] rfl rfl (cell_three_new w2.drew _ _ _ _) (by intro u hu; simp at hu; rcases hu with rfl | rfl | rfl <;> rfl) (by omega) (by unfold maxLen; omega) (by omega) ?_; intro A' c' w3 hO3 hu3 hbk3; have G3 := Lib.hid (at_alloc hu3 HM2.out.cell HM2.out.d1); have q1 : w3.cell? ⟨gh, 0, none⟩ = some (.slice A R.length c) := (blk_cell G3.out 0).trans rfl; have qf : w3.frozen? ⟨gh, 0, none⟩ = false := blk_frozen G3.out 0)
  all_goals
    have HO3 := Lib.hid hO3
    have HU3 := Lib.hid hu3
    have HK3 := Lib.hid hbk3
    clear hO3 hu3 hbk3 qa1 qa2 d0 f0
    go_wp2
    go_ret
    have h1 : Upd (blk A) w2 w3 := (Upd.of (Below.alloc (Below.refl _ _).drew (Nat.le_refl _) _)).trans HU3.out (fun x hx => .inl hx)
    have h2 : ∀ b ∈ blk A', b ∈ blk A ∨ w2.heap.size ≤ b := fun b hb => by
      rcases HK3.out b hb with h | h
      · exact .inl h
      · simp at h; exact .inr (by omega)
    have hIP : IsPg w2 ge gl ⟨tx, [], []⟩ ⟨tx, [.b tx], 1⟩ ([ge] ++ fl) := ⟨[ge], fl, HE2.out, HL.out, rfl, fun b hb hm => by
      simp at hb; subst hb
      have := HFL.out b hm
      have := HLe.out
      omega⟩
    have hpf : ∀ b ∈ [ge] ++ fl, w.heap.size ≤ b := by
      intro b hb
      rcases List.mem_append.1 hb with h | h
      · simp at h; subst h; have := HGE.out; omega
      · have := HFL.out b h; have := HZ.out; omega
    exact ⟨rfl, house_grow (p := ⟨⟨nm, ⟨tx, [], []⟩, ⟨tx, [.b tx], 1⟩⟩, ge, gl, [ge] ++ fl⟩) HM.out HB2.out h1 HO3.out h2 hIP hpf⟩
end Go.Proofs.YtclebkgfogienaaDoor
