/- turn.Put: what it answers. -/
import Derived.Test.YtclebkgfogienaaDoorTurnP
import Derived.Test.YtclebkgfogienaaDoorOwn
import Derived.Test.YtclebkgfogienaaDoorShelfSort
import Derived.Test.YtclebkgfogienaaDoorShelf
namespace Go.Proofs.YtclebkgfogienaaDoor
set_option linter.unusedSimpArgs false
set_option linter.unusedVariables false
open Go.RowKit Go.Sort

set_option maxRecDepth 100000 in
set_option maxHeartbeats 400000 in
theorem turn_less (s : List UInt8) (i k g1 g2 : Nat) (W : World) (h1 : W.cell? ⟨g1, 0, none⟩ = some (.string (bs s))) (h2 : W.cell? ⟨g2, 0, none⟩ = some (.string (bs (s ++ s)))) (hi : i ≤ s.length) (hk : k ≤ s.length) (hs : s.length ≤ 200) :
    Calls Tryd.prog 74 #[.int .i64 i, .int .i64 k, .pointer (some ⟨g2, 0, none⟩), .pointer (some ⟨g1, 0, none⟩)] W fun e w' => e = .returned (.int .i64 (rotC s i k)) ∧ ∃ q, w' = W.drewN q := by
  have p1 : (0 : Int) ≤ (i : Int) := by omega
  have p2 : (i : Int) + s.length ≤ (s ++ s).length := by simp; omega
  have p3 : (0 : Int) ≤ (k : Int) := by omega
  have p4 : (k : Int) + s.length ≤ (s ++ s).length := by simp; omega
  obtain ⟨c, hc⟩ : ∃ c, Lib.compareBytes (rotL s i) (rotL s k) = c := ⟨_, rfl⟩
  have HC : Hid (∀ w, Calls Tryd.prog 75 #[.string (bs (List.take s.length (List.drop i (s ++ s)))), .string (bs (List.take s.length (List.drop k (s ++ s))))] w fun e w' => e = .returned (.int .i64 c) ∧ w' = w) := by
    intro w
    refine (Tryd.strings_Compare _ _ w).mono ?_
    rintro e w' ⟨rfl, rfl⟩
    rw [← hc]
    exact ⟨by simp [bs, rotL], rfl⟩
  have HR : Hid (rotC s i k = if c ≠ 0 then c else (i : Int) - k) := by unfold Hid rotC; rw [hc]
  clear hc
  generalize rotC s i k = r at *
  by_cases h0 : c = 0
  · subst h0
    go_enter Tryd.func74, Tryd.ntmps74
    go_wp2
    go_quiet (((go_at_call 75; exact Calls.quiet_of_same (HC.out _))))
    go_wp2
    go_ret
    exact ⟨ret_int (by rw [HR.out]; simp), _, rfl⟩
  · have q1 : (c != 0) = true := by simpa using h0
    have HZ := Lib.hid h0
    clear h0
    go_enter Tryd.func74, Tryd.ntmps74
    go_wp2
    go_quiet (((go_at_call 75; exact Calls.quiet_of_same (HC.out _))))
    go_wp2
    go_ret
    exact ⟨ret_int (by rw [HR.out, if_pos HZ.out]), _, rfl⟩

section
variable {α : Type} [Inhabited α]
theorem sw_heap {enc : α → Value} {w : World} {b off m : Nat} {os : Array Obj} {cur : Array Value} {T : TypeId} {fr : Nat × Nat} (d : Array α) (hb : w.heap[b]? = some (.cells cur T fr)) :
    (sortWorld enc w b off m d os).heap[b]? = some (.cells (putCells enc off d cur) T fr) := by
  have hg : b < w.heap.size := (Array.getElem?_eq_some_iff.1 hb).1
  unfold sortWorld
  rw [heap_grow_old _ _ (by simpa using hg)]
  simp [putRow, mapBlock, Sort.ahead, Array.getElem?_modify, hb, onCells]
theorem sw_upd {enc : α → Value} (w : World) (b off m : Nat) (os : Array Obj) (d : Array α) : Upd [b] w (sortWorld enc w b off m d os) := by
  refine ⟨rfl, rfl, rfl, by simp [sortWorld], fun k hk hne => ?_⟩
  unfold sortWorld
  rw [heap_grow_old _ _ (by simpa using hk)]
  have : b ≠ k := fun e => hne (by simp [e])
  simp [putRow, mapBlock, Sort.ahead, Array.getElem?_modify, this]
theorem sw_own {enc : α → Value} {w : World} {b off n c m : Nat} {os : Array Obj} {T : TypeId} {xs : List Value} (d : Array α) (h : OwnC T 1 w (some ⟨b, off, none⟩) n c xs) (hn : d.size = n) :
    OwnC T 1 (sortWorld enc w b off m d os) (some ⟨b, off, none⟩) n c (d.toList.map enc) := by
  refine ⟨by simp [hn], ?_⟩
  rcases h.2 with ⟨h, _⟩ | ⟨b', off', cur, he, hg, hnc, hcm, hs, ht⟩
  · cases h
  · cases he
    refine .inr ⟨b, off, _, rfl, sw_heap d hg, hnc, hcm, by simp [putCells]; omega, fun i hi => ?_⟩
    have hi' : i < d.size := by omega
    have hc : off + i < cur.size := by omega
    simp [putCells, hi', hc]
end

theorem rot_swo (s : List UInt8) : SWO (ltOf fun (x y : Fin (s.length + 1)) => rotC s x.val y.val) := by
  have e : ∀ (x y : Fin (s.length + 1)), ltOf (fun (x y : Fin (s.length + 1)) => rotC s x.val y.val) x y = true ↔ RotLess s x.val y.val := fun x y => by
    unfold ltOf; rw [decide_eq_true_iff]; exact rotC_lt s _ _
  have e2 : ∀ (x y : Fin (s.length + 1)), ltOf (fun (x y : Fin (s.length + 1)) => rotC s x.val y.val) x y = false ↔ ¬ RotLess s x.val y.val := fun x y => by
    rw [← e]; simp
  refine ⟨fun x => (e2 x x).2 RotLess.irrefl, fun x y z h g => (e x z).2 (((e x y).1 h).trans ((e y z).1 g)), fun x y z h g => (e2 x z).2 fun hxz => ?_⟩
  have h' := (e2 x y).1 h
  have g' := (e2 y z).1 g
  by_cases hyx : RotLess s y.val x.val
  · exact g' (hyx.trans hxz)
  · have := RotLess.total h' hyx
    rw [this] at hxz
    exact g' hxz
def natCells (l : List Nat) : List Value := l.map fun i => .int .i64 (i : Nat)
def placesA (n : Nat) : Array (Fin (n + 1)) := ((List.range n).map (Fin.ofNat (n + 1))).toArray
theorem placesA_val (n : Nat) : (placesA n).toList.map (fun x => x.val) = List.range n := by
  unfold placesA
  rw [List.map_map]
  apply List.ext_getElem (by simp)
  intro i h1 h2
  simp at h1
  simp [Fin.ofNat]
  omega

set_option maxRecDepth 100000 in
theorem turn_sort (s : List UInt8) (b c g1 g2 : Nat) (W : World) (hs : s.length ≤ 200) (hO : OwnC 3 1 W (some ⟨b, 0, none⟩) s.length c (natCells (List.range s.length))) (hb : b < W.heap.size) (h1 : W.cell? ⟨g1, 0, none⟩ = some (.string (bs s))) (h2 : W.cell? ⟨g2, 0, none⟩ = some (.string (bs (s ++ s)))) (hg1 : g1 < W.heap.size) (hg2 : g2 < W.heap.size) (n1 : g1 ≠ b) (n2 : g2 ≠ b) :
    Calls Tryd.prog 73 #[.slice (some ⟨b, 0, none⟩) s.length c, .func (.func 74) #[] #[.pointer (some ⟨g2, 0, none⟩), .pointer (some ⟨g1, 0, none⟩)]] W fun e w' => e = .returned (.tuple #[]) ∧
      OwnC 3 1 w' (some ⟨b, 0, none⟩) s.length c (natCells (ordF s)) ∧ Upd [b] W w' := by
  have hsz : (placesA s.length).size = s.length := by simp [placesA]
  have hcells : ((placesA s.length).toList.map fun x => Value.int .i64 (x.val : Nat)) = natCells (List.range s.length) := by
    unfold natCells
    rw [← placesA_val s.length, List.map_map]; rfl
  have eg : ∀ args w, (callFunc 74 args).run Tryd.prog w = .ok (.enter 74 args) w := enters_of Tryd.func74 (by kernel_rfl) rfl
  have hH : Holds (fun (x : Fin (s.length + 1)) => Value.int .i64 (x.val : Nat)) W b 0 (placesA s.length) := by
    intro j hj
    have hj' : j < s.length := by omega
    refine ⟨?_, ?_⟩
    · rw [hO.cell j (by omega), ← hcells]
      simp [hj]
    · rcases hO.2 with ⟨h, _⟩ | ⟨b', off', cur, he, hg, _⟩
      · cases h
      · cases he; exact blk_frozen hg _
  have hcmp : CmpLays1 Tryd.prog 74 #[.pointer (some ⟨g2, 0, none⟩), .pointer (some ⟨g1, 0, none⟩)] (fun (x : Fin (s.length + 1)) => Value.int .i64 (x.val : Nat)) (fun x y => rotC s x.val y.val) b 0 (placesA s.length).size W := by
    intro m os dk hdk x y
    have hu := sw_upd (enc := fun (x : Fin (s.length + 1)) => Value.int .i64 (x.val : Nat)) W b 0 m os dk
    have c1 : ∀ g, g < W.heap.size → g ≠ b → ∀ i, (sortWorld (fun (x : Fin (s.length + 1)) => Value.int .i64 (x.val : Nat)) W b 0 m dk os).cell? ⟨g, i, none⟩ = W.cell? ⟨g, i, none⟩ := fun g hg hne i => by
      unfold World.cell?
      simp only [hu.block g hg (by simpa using hne)]
    refine (turn_less s x.val y.val g1 g2 _ ((c1 g1 hg1 n1 0).trans h1) ((c1 g2 hg2 n2 0).trans h2) (by omega) (by omega) hs).mono ?_
    rintro e w' ⟨rfl, q, rfl⟩
    exact ⟨rfl, q, #[], by rw [grow_empty]⟩
  have := Tryd.slices_SortFunc (fun (x : Fin (s.length + 1)) => Value.int .i64 (x.val : Nat)) (fun _ => rfl) (fun x y => rotC s x.val y.val) (rot_swo s) 74 #[.pointer (some ⟨g2, 0, none⟩), .pointer (some ⟨g1, 0, none⟩)] b 0 c (placesA s.length) W eg hcmp hH hb (by omega)
  rw [hsz] at this
  refine this.mono ?_
  rintro e w' ⟨rfl, d', m, os, hp, hsd, rfl⟩
  obtain ⟨hsz', _, hperm⟩ := hp
  rw [hsz] at hsz'
  have hex : ∀ (β : Type) (x : Array β) (k : Nat), x.size = k → x.extract 0 k = x := fun β x k h => by subst h; exact Array.extract_size
  have e1 : d'.extract 0 s.length = d' := hex _ _ _ hsz'
  have e2 : (placesA s.length).extract 0 s.length = placesA s.length := hex _ _ _ hsz
  rw [e1, e2] at hperm
  have hP : (d'.toList.map fun x => x.val) = ordF s := by
    apply ordF_unique
    · have := hperm.map (fun x => x.val)
      rwa [placesA_val] at this
    · rw [List.pairwise_map, List.pairwise_iff_getElem]
      intro i j hi hj hij
      simp at hi hj
      have h3 := hsd i j (by omega) hij (by omega)
      rw [getElem!_pos d' j hj, getElem!_pos d' i hi] at h3
      unfold ltOf at h3
      rw [decide_eq_false_iff_not, rotC_lt] at h3
      simpa using h3
  refine ⟨rfl, ?_, sw_upd _ _ _ _ _ _⟩
  have h3 := sw_own (enc := fun (x : Fin (s.length + 1)) => Value.int .i64 (x.val : Nat)) (m := m) (os := os) d' hO hsz'
  have e3 : natCells (ordF s) = d'.toList.map fun x => Value.int .i64 (x.val : Nat) := by
    unfold natCells
    rw [← hP, List.map_map]; rfl
  rw [e3]
  exact h3
end Go.Proofs.YtclebkgfogienaaDoor
