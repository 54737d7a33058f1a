/- Deeds in a row of the call's own: copied, searched, and some of them deleted. -/
import Derived.Test.YtclebkgfogienaaDoorRowRefuses
import Derived.Test.YtclebkgfogienaaDoorApartP
namespace Go.Proofs.YtclebkgfogienaaDoor
set_option linter.unusedSimpArgs false
set_option linter.unusedVariables false
open Go.RowKit

def dCell (x : Dd × Value) : List Value := [.int .i64 x.1.kind, .int .i64 x.1.n, .string (bs x.1.name), .string (bs x.1.text), x.2]
def dCells (L : List (Dd × Value)) : List Value := L.flatMap dCell
theorem dCells_length (L : List (Dd × Value)) : (dCells L).length = L.length * 5 := by
  induction L with
  | nil => rfl
  | cons r L ih => simp [dCells, dCell] at ih ⊢; omega
theorem dCells_cons (x : Dd × Value) (L : List (Dd × Value)) (j : Nat) : (dCells (x :: L))[j + 5]? = (dCells L)[j]? := rfl
theorem dCells_append (L M : List (Dd × Value)) : dCells (L ++ M) = dCells L ++ dCells M := by simp [dCells]
theorem dCells_at : ∀ (L : List (Dd × Value)) (i : Nat) (h : i < L.length) (j : Nat), j < 5 → (dCells L)[i * 5 + j]? = (dCell L[i])[j]?
  | x :: L, 0, _, j, hj => by
    simp only [Nat.zero_mul, Nat.zero_add, List.getElem_cons_zero, dCells, List.flatMap_cons]
    rw [List.getElem?_append_left (by simp [dCell]; omega)]
  | x :: L, i + 1, h, j, hj => by
    have ih := dCells_at L i (by simpa using h) j hj
    rw [show (i + 1) * 5 + j = (i * 5 + j) + 5 by omega, dCells_cons, ih]
    rfl
theorem dCells_take : ∀ (L : List (Dd × Value)) (i : Nat), (dCells L).take (i * 5) = dCells (L.take i)
  | _, 0 => by simp [dCells]
  | [], i + 1 => by simp [dCells]
  | x :: L, i + 1 => by
    have ih := dCells_take L i
    have e : dCells (x :: L) = dCell x ++ dCells L := rfl
    have e2 : dCells ((x :: L).take (i + 1)) = dCell x ++ dCells (L.take i) := rfl
    rw [e, e2, ← ih, show (i + 1) * 5 = (dCell x).length + i * 5 by simp [dCell]; omega, List.take_length_add_append]
theorem dCells_set : ∀ (L : List (Dd × Value)) (i : Nat) (x : Dd × Value) (h : i < L.length) (k : Nat), (dCells (L.set i x))[k]? = if i * 5 ≤ k ∧ k < i * 5 + 5 then (dCell x)[k - i * 5]? else (dCells L)[k]?
  | y :: L, 0, x, _, k => by
    have e : dCells ((y :: L).set 0 x) = dCell x ++ dCells L := rfl
    have e2 : dCells (y :: L) = dCell y ++ dCells L := rfl
    rw [e, e2]
    by_cases hk : k < 5
    · rw [if_pos (by omega), List.getElem?_append_left (by simp [dCell]; omega)]
      simp
    · rw [if_neg (by omega), List.getElem?_append_right (by simp [dCell]; omega), List.getElem?_append_right (by simp [dCell]; omega)]
      simp [dCell]
  | y :: L, i + 1, x, h, k => by
    have ih := fun k => dCells_set L i x (by simpa using h) k
    rw [List.set_cons_succ]
    by_cases hk : k < 5
    · rw [if_neg (by omega)]
      have e : ∀ M, dCells (y :: M) = dCell y ++ dCells M := fun M => rfl
      rw [e, e, List.getElem?_append_left (by simp [dCell]; omega), List.getElem?_append_left (by simp [dCell]; omega)]
    · obtain ⟨k', rfl⟩ : ∃ k', k = k' + 5 := ⟨k - 5, by omega⟩
      rw [dCells_cons, dCells_cons, ih]
      by_cases hc : i * 5 ≤ k' ∧ k' < i * 5 + 5
      · rw [if_pos hc, if_pos (by omega)]
        congr 1; omega
      · rw [if_neg hc, if_neg (by omega)]
theorem deed_set {w : World} {b off c i n : Nat} {L : List (Dd × Value)} (hL : L.length = n) (h : OwnC 25 5 w (some ⟨b, off, none⟩) n c (dCells L)) (x : Dd × Value) (hi : i < n) :
    OwnC 25 5 (w.setCells b (off + i * 5) (dCell x)) (some ⟨b, off, none⟩) n c (dCells (L.set i x)) := by
  subst hL
  have hlen : (dCells (L.set i x)).length = L.length * 5 := by rw [dCells_length]; simp
  rcases h.2 with ⟨h, _⟩ | ⟨b', off', cur, he, hg, hnc, hcm, hs, ht⟩
  · cases h
  · cases he
    obtain ⟨cur', k1, k2, k3⟩ := setCells_heap b (dCell x) (off + i * 5) w cur 25 (0, 0) hg (by simp [dCell]; omega)
    refine ⟨hlen, .inr ⟨b, off, cur', rfl, k1, hnc, hcm, by rw [k2]; exact hs, fun j hj => ?_⟩⟩
    rw [k3, dCells_set L i x hi j]
    have hl5 : (dCell x).length = 5 := rfl
    by_cases hc : i * 5 ≤ j ∧ j < i * 5 + 5
    · rw [if_pos hc, if_pos (by omega), show off + j - (off + i * 5) = j - i * 5 by omega]
    · rw [if_neg hc, if_neg (by omega), ht j hj]

def delD (nm : List UInt8) (d : Dd) : Bool := decide (d.kind = 1) && !(decide (d.name = nm))
set_option maxRecDepth 100000 in
theorem apart_del (d : Dd) (ev : Value) (gn : Nat) (nm : List UInt8) (w : World) (hn : w.cell? ⟨gn, 0, none⟩ = some (.string (bs nm))) (hgn : gn < w.heap.size) :
    Calls Tryd.prog 25 #[ddV d ev, .pointer (some ⟨gn, 0, none⟩)] w fun e w' => e = .returned (.bool (delD nm d)) ∧ Below w.heap.size w w' := by
  have hn' : ∀ o, (w.alloc o).cell? ⟨gn, 0, none⟩ = some (.string (bs nm)) := fun o => (World.cell?_alloc_lt w o _ hgn).trans hn
  obtain ⟨kd, n, dn, tx, eds⟩ := d
  simp only [ddV]
  by_cases hk : kd = 1
  · subst hk
    have HR : Hid (delD nm ⟨1, n, dn, tx, eds⟩ = !(decide (dn = nm))) := rfl
    generalize delD nm ⟨1, n, dn, tx, eds⟩ = r at *
    go_enter Tryd.func25, Tryd.ntmps25
    go_wp2
    go_ret
    refine ⟨?_, (Below.refl _ _).alloc (Nat.le_refl _) _⟩
    rw [HR.out]
    by_cases h : dn = nm
    · subst h; simp
    · have h2 : bs dn ≠ bs nm := fun he => h (bs_inj he)
      simp [h, h2]
  · have q1 : (kd == 1) = false := by simpa using hk
    have HR : Hid (delD nm ⟨kd, n, dn, tx, eds⟩ = false) := by unfold Hid delD; simp [hk]
    generalize delD nm ⟨kd, n, dn, tx, eds⟩ = r at *
    clear hk
    go_enter Tryd.func25, Tryd.ntmps25
    go_wp2
    go_ret
    rw [HR.out]
    exact ⟨rfl, (Below.refl _ _).alloc (Nat.le_refl _) _⟩

def delI (nm : List UInt8) (L : List (Dd × Value)) : Int := match L.findIdx? (fun x => delD nm x.1) with | some k => k | none => -1
set_option maxRecDepth 100000 in
set_option maxHeartbeats 800000 in
theorem apart_index (A : Option Addr) (c : Nat) (L : List (Dd × Value)) (nm : List UInt8) (gn : Nat) (w : World) (hO : OwnC 25 5 w A L.length c (dCells L)) (hL : L.length ≤ 9223372036854775807) (hd : w.cell? ⟨gn, 0, none⟩ = some (.string (bs nm))) (hgn : gn < w.heap.size) :
    Calls Tryd.prog 53 #[.slice A L.length c, .func (Fn.func 25) #[] #[.pointer (some ⟨gn, 0, none⟩)]] w fun e w' => e = .returned (.int .i64 (delI nm L)) ∧ Below w.heap.size w w' := by
  have HO := Lib.hid hO
  have HD := Lib.hid hd
  clear hO hd
  go_enter Tryd.func53, Tryd.ntmps53
  go_wp2
  go_loopw [8] (fun i wr => ∃ k : Nat, k ≤ L.length ∧ i = .int .i64 k ∧ Hid (∀ j (h : j < L.length), j < k → delD nm L[j].1 = false) ∧ Below w.heap.size w wr) (fun i _ => L.length - (intOf i).toNat)
  case atStart => exact ⟨0, by omega, rfl, fun j h hj => absurd hj (by omega), Below.refl _ _⟩
  case round =>
    obtain ⟨k, hk, rfl, HN, hb⟩ := hrel
    by_cases hlt : k < L.length
    · obtain ⟨b, off, rfl, hnc, hbl⟩ := HO.out.addr (by omega)
      have hOr := HO.out.below hb
      have p0 := hOr.cell (k * 5 + 0) (by omega)
      have p1 := hOr.cell (k * 5 + 1) (by omega)
      have p2 := hOr.cell (k * 5 + 2) (by omega)
      have p3 := hOr.cell (k * 5 + 3) (by omega)
      have p4 := hOr.cell (k * 5 + 4) (by omega)
      rw [dCells_at L k hlt _ (by omega)] at p0 p1 p2 p3 p4
      rw [← Nat.add_assoc] at p0 p1 p2 p3 p4
      simp only [dCell, List.getElem?_cons_zero, List.getElem?_cons_succ, Nat.add_zero] at p0 p1 p2 p3 p4
      have C := Lib.hid (apart_del L[k].1 L[k].2 gn nm wr ((hb.cell (p := ⟨gn, 0, none⟩) hgn).trans HD.out) (Nat.lt_of_lt_of_le hgn hb.size))
      have HKN : Hid (delD nm L[k].1 = false → ∀ j (h : j < L.length), j < k + 1 → delD nm L[j].1 = false) := by
        intro h j hj hjk
        by_cases hjk' : j = k
        · subst hjk'; exact h
        · exact HN.out j hj (by omega)
      have HI : Hid (delD nm L[k].1 = true → delI nm L = k) := by
        intro h
        have : L.findIdx? (fun x => delD nm x.1) = some k := by
          rw [List.findIdx?_eq_some_iff_getElem]
          refine ⟨hlt, h, fun j hj => ?_⟩
          simpa using HN.out j (by omega) hj
        unfold delI
        rw [this]
      clear hOr
      generalize L[k] = r at *
      obtain ⟨⟨kd, n, dn, tx, eds⟩, ev⟩ := r
      simp only [ddV] at C p0 p1 p2 p3 p4
      by_cases hn : delD nm ⟨kd, n, dn, tx, eds⟩ = true
      · have HIE := Lib.hid (HI.out hn)
        rw [hn] at C
        clear hn
        go_wp2_with fail
        refine C.out.mono ?_
        rintro e w1 ⟨rfl, hb1⟩
        go_wp2
        go_ret
        rw [HIE.out]
        exact ⟨rfl, hb.trans (hb1.mono hb.size)⟩
      · have hn : delD nm ⟨kd, n, dn, tx, eds⟩ = false := by simpa using hn
        have HKE := Lib.hid (HKN.out hn)
        rw [hn] at C
        clear hn
        go_wp2_with fail
        refine C.out.mono ?_
        rintro e w1 ⟨rfl, hb1⟩
        go_wp2
        go_roundw
        case rel => exact ⟨k + 1, by omega, by go_num, HKE.out, hb.trans (hb1.mono hb.size)⟩
        case measure => simp [intOf]; omega
    · have HE : Hid (delI nm L = -1) := by
        have : L.findIdx? (fun x => delD nm x.1) = none := by
          rw [List.findIdx?_eq_none_iff]
          intro p hp
          obtain ⟨j, hj, rfl⟩ := List.getElem_of_mem hp
          simpa using HN.out j hj (by omega)
        unfold Hid delI
        rw [this]
      go_wp2
      go_ret
      rw [HE.out]
      exact ⟨rfl, hb⟩

def zDeeds (n : Nat) : List Value := (Builtin.zeroCells #[.int .i64 0, .int .i64 0, .string ⟨#[]⟩, .string ⟨#[]⟩, .slice none 0 0] n).toList
theorem zDeeds_length (n : Nat) : (zDeeds n).length = n * 5 := by simp [zDeeds, Builtin.zeroCells]
theorem zDeeds_one (n : Nat) : ∀ v ∈ zDeeds n, v.oneCell' = true := by
  intro v hv
  simp [zDeeds, Builtin.zeroCells] at hv
  obtain ⟨i, _, rfl⟩ := hv
  have : i % 5 < 5 := Nat.mod_lt _ (by decide)
  have h : i % 5 = 0 ∨ i % 5 = 1 ∨ i % 5 = 2 ∨ i % 5 = 3 ∨ i % 5 = 4 := by omega
  rcases h with h | h | h | h | h <;> rw [h] <;> rfl
theorem run_clear_deeds (w : World) (ty : TypeId) (b o n c : Nat) (hn : 0 < n) (hc : ∀ j, j < n * 5 → (w.cell? ⟨b, o + j, none⟩).isSome = true) (hf : ∀ j, j < n * 5 → w.frozen? ⟨b, o + j, none⟩ = false) :
    (Builtin.clear_ #[22] ty #[.slice (some ⟨b, o, none⟩) n c]).run Tryd.prog w = .ok (.tuple #[]) (w.setCells b o (zDeeds n)) := by
  have hv : ∀ w, (zeroValue 25).run Tryd.prog w = .ok (.agg #[.int .i64 0, .int .i64 0, .string ⟨#[]⟩, .string ⟨#[]⟩, .slice none 0 0]) w := fun w => by kernel_rfl
  have hst := run_storeCells_cells (P := Tryd.prog) b o (zDeeds n) 0 w (by rw [zDeeds_length]; simpa using hc) (by rw [zDeeds_length]; simpa using hf) (zDeeds_one n)
  simp only [Nat.add_zero] at hst
  have hzc : (Builtin.zeroCells (Value.agg #[.int .i64 0, .int .i64 0, .string ⟨#[]⟩, .string ⟨#[]⟩, .slice none 0 0]).cells n).toList = zDeeds n := rfl
  obtain ⟨m, rfl⟩ : ∃ m, n = m + 1 := ⟨n - 1, by omega⟩
  simp [Builtin.clear_, run_underlying Tryd.underlying22, hv, hzc, hst]
end Go.Proofs.YtclebkgfogienaaDoor
