/- slices.Delete of one page. -/
import Derived.Test.YtclebkgfogienaaDoorBegin
import Derived.Lib.SliceRun
namespace Go.Proofs.YtclebkgfogienaaDoor
set_option linter.unusedSimpArgs false
set_option linter.unusedVariables false
open Go.RowKit

/-- append where there is room -/
theorem run_append_R (t ty T k : Nat) (i : TypeInfo) (ht : Tryd.prog.underlying t = some (.slice T)) (hi : Tryd.prog.info? T = some i) (hk : i.size = k)
    (w : World) (b off n c : Nat) (xs : List Value) (hO : OwnC T k w (some ⟨b, off, none⟩) n c xs) (ad : Addr) (m c2 : Nat) (news : List Value) (hl : news.length = m * k) (hnews : ∀ j u, news[j]? = some u → w.cell? (ad.add j) = some u) (h1 : ∀ u ∈ news, u.oneCell' = true) (hroom : n + m ≤ c) :
    (Builtin.append_ #[t, t] ty #[.slice (some ⟨b, off, none⟩) n c, .slice (some ad) m c2]).run Tryd.prog w = .ok (.slice (some ⟨b, off, none⟩) (n + m) c) (w.setCells b (off + n * k) news) ∧
      OwnC T k (w.setCells b (off + n * k) news) (some ⟨b, off, none⟩) (n + m) c (xs ++ news) := by
  subst hk
  have hlen : (xs ++ news).length = (n + m) * i.size := by rw [List.length_append, hO.1, hl, Nat.add_mul]
  rcases hO.2 with ⟨h, _⟩ | ⟨b', off', cur, he, hg, hnc, hcm, hs, ht'⟩
  · cases h
  · cases he
    have hmul : (n + m) * i.size ≤ c * i.size := Nat.mul_le_mul_right _ hroom
    rw [Nat.add_mul] at hmul
    have hr := run_append_room_cells (P := Tryd.prog) w t ty T i ht hi b off n c ad m c2 news hl hnews h1 hroom
      (fun j hj => by rw [blk_cell hg, Array.getElem?_eq_getElem (by omega)]; rfl) (fun j hj => blk_frozen hg _)
    obtain ⟨cur', k1, k2, k3⟩ := setCells_heap b news (off + n * i.size) w cur T (0, 0) hg (by omega)
    refine ⟨hr, hlen, .inr ⟨b, off, cur', rfl, k1, hroom, hcm, by omega, fun j hj => ?_⟩⟩
    rw [k3]
    by_cases hj' : j < n * i.size
    · rw [if_neg (by omega), ht' j hj', List.getElem?_append_left (by rw [hO.1]; exact hj')]
    · rw [Nat.add_mul] at hj
      rw [if_pos (by omega), List.getElem?_append_right (by rw [hO.1]; omega), hO.1, show off + j - (off + n * i.size) = j - n * i.size by omega]

theorem step_append_R {ops : Array Oper} {o : Oper} {a : Act} {K : Act → World → Prop} {Q : Exit → Act → World → Prop} {E : Prop} {w : World} (hgd : o.guard = none) (s x : Operand) (t T k : Nat)
    (ho : o.op = .call { callee := .builtin .append, args := #[s, x], argTypes := #[t, t] })
    (i : TypeInfo) (ht : Tryd.prog.underlying t = some (.slice T)) (hi : Tryd.prog.info? T = some i) (hk : i.size = k)
    (b off n c : Nat) (xs : List Value) (hs : a.eval s = .slice (some ⟨b, off, none⟩) n c) (hO : OwnC T k w (some ⟨b, off, none⟩) n c xs) (ad : Addr) (m c2 : Nat) (news : List Value) (hx : a.eval x = .slice (some ad) m c2) (hl : news.length = m * k) (hnews : ∀ j u, news[j]? = some u → w.cell? (ad.add j) = some u) (h1 : ∀ u ∈ news, u.oneCell' = true) (hroom : n + m ≤ c)
    (h : OwnC T k (w.setCells b (off + n * k) news) (some ⟨b, off, none⟩) (n + m) c (xs ++ news) → K (a.put o.dst (.slice (some ⟨b, off, none⟩) (n + m) c)) (w.setCells b (off + n * k) news)) :
    if Region.wanted o (yielded ops a.tmps) = true then Oper.wp Tryd.prog o a w K Q else E := by
  have hw : Region.wanted o (yielded ops a.tmps) = true := by simp [Region.wanted, hgd]
  rw [if_pos hw]
  obtain ⟨hr, h2⟩ := run_append_R t o.type T k i ht hi hk w b off n c xs hO ad m c2 news hl hnews h1 hroom
  unfold Oper.wp execOp
  simp only [ho, resolve, invoke, builtin, Sem.run_bind, Sem.run_pure, Result.andThen_ok, List.map_toArray, List.map_cons, List.map_nil, hs, hx, hr]
  exact h h2
theorem pgCells_append (R S : List PgM) : pgCells (R ++ S) = pgCells R ++ pgCells S := by simp [pgCells]
theorem pgCells_one (R : List PgM) : ∀ u ∈ pgCells R, u.oneCell' = true := by
  intro u hu
  obtain ⟨r, _, hr⟩ := List.mem_flatMap.1 hu
  simp at hr
  rcases hr with rfl | rfl | rfl <;> rfl
theorem run_clear_page (w : World) (ty : TypeId) (b o c : Nat) (hc : ∀ j, j < 3 → (w.cell? ⟨b, o + j, none⟩).isSome = true) (hf : ∀ j, j < 3 → w.frozen? ⟨b, o + j, none⟩ = false) :
    (Builtin.clear_ #[61] ty #[.slice (some ⟨b, o, none⟩) 1 c]).run Tryd.prog w = .ok (.tuple #[]) (w.setCells b o [.string ⟨#[]⟩, .pointer none, .pointer none]) := by
  have hv : ∀ w, (zeroValue 64).run Tryd.prog w = .ok (.agg #[.string ⟨#[]⟩, .pointer none, .pointer none]) w := fun w => by kernel_rfl
  have hst := run_storeCells_cells (P := Tryd.prog) b o [.string ⟨#[]⟩, .pointer none, .pointer none] 0 w (by simpa using hc) (by simpa using hf) (by intro v hv'; simp at hv'; rcases hv' with rfl | rfl <;> rfl)
  simp only [Nat.add_zero] at hst
  have hzc : (Builtin.zeroCells (Value.agg #[.string ⟨#[]⟩, .pointer none, .pointer none]).cells 1).toList = [.string ⟨#[]⟩, .pointer none, .pointer none] := by simp [Builtin.zeroCells, Value.cells]; rfl
  simp [Builtin.clear_, run_underlying Tryd.underlying61, hv, hzc, hst]

set_option maxRecDepth 100000 in
set_option maxHeartbeats 1600000 in
theorem house_delete (b off c : Nat) (R : List PgM) (k m : Nat) (w : World) (hm : R.length = m + 1) (hO : OwnC 64 3 w (some ⟨b, off, none⟩) (m + 1) c (pgCells R)) (hk : k < m + 1) (h6 : m + 1 ≤ 6) :
    Calls Tryd.prog 46 #[.slice (some ⟨b, off, none⟩) (m + 1) c, .int .i64 k, .int .i64 ((k : Int) + 1)] w fun e w' =>
      e = .returned (.slice (some ⟨b, off, none⟩) m c) ∧ OwnC 64 3 w' (some ⟨b, off, none⟩) m c (pgCells (R.eraseIdx k)) ∧ Upd [b] w w' := by
  have HO := Lib.hid hO
  obtain ⟨i0, hi, hz0, hz1, hz2⟩ := info_parts info_page
  have HI := Lib.hid hi
  have HZ1 := Lib.hid hz1
  obtain ⟨_, _, hnc, hbl⟩ : ∃ (_ : Nat) (_ : Nat), m + 1 ≤ c ∧ b < w.heap.size := by
    obtain ⟨b', o', he, h1, h2⟩ := hO.addr (by omega)
    cases he
    exact ⟨0, 0, h1, h2⟩
  have hcm : c ≤ maxLen := by
    rcases hO.2 with ⟨h, _⟩ | ⟨_, _, _, _, _, _, hcm, _⟩
    · cases h
    · exact hcm
  have hcm' : c ≤ 9223372036854775807 := hcm
  clear hO hi hz0 hz1 hz2 hcm
  have e1 : ((k : Int) == (k : Int) + 1) = false := by simp; omega
  have e2 : ((k : Int) + 1).toNat = k + 1 := by omega
  have e3 : (k : Int) + 1 ≤ ((m : Int) + 1) := by omega
  have e4 : (k : Int) ≤ (k : Int) + 1 := by omega
  have e5 : (0 : Int) ≤ (k : Int) + 1 := by omega
  have e6 : ((m : Int) + 1) ≤ (c : Int) := by omega
  go_enter Tryd.func46, Tryd.ntmps46
  have hA := HO.out.take k (by omega)
  have hx1 : (pgCells R).take (k * 3) = pgCells (R.take k) := by
    have e : pgCells R = pgCells (R.take k) ++ pgCells (R.drop k) := by rw [← pgCells_append, List.take_append_drop]
    rw [e, List.take_left' (by rw [pgCells_length, List.length_take, Nat.min_eq_left (by omega)])]
  have hN : ∀ j u, (pgCells (R.drop (k + 1)))[j]? = some u → w.cell? ((⟨b, off + (k + 1) * 3, none⟩ : Addr).add j) = some u := by
    intro j u hu
    have hj : j < (m - k) * 3 := by
      have := (List.getElem?_eq_some_iff.1 hu).1
      rw [pgCells_length, List.length_drop] at this
      omega
    have e : pgCells R = pgCells (R.take (k + 1)) ++ pgCells (R.drop (k + 1)) := by rw [← pgCells_append, List.take_append_drop]
    have hl : (pgCells (R.take (k + 1))).length = (k + 1) * 3 := by rw [pgCells_length, List.length_take, Nat.min_eq_left (by omega)]
    rw [addr_add, show off + (k + 1) * 3 + j = off + ((k + 1) * 3 + j) by omega, HO.out.cell _ (by omega), e, List.getElem?_append_right (by omega), hl, show (k + 1) * 3 + j - (k + 1) * 3 = j by omega]
    exact hu
  rw [hx1] at hA
  have HA := Lib.hid hA
  obtain ⟨ad, had, hN'⟩ : ∃ ad : Addr, (if c = k + 1 then some (⟨b, off, none⟩ : Addr) else some ⟨b, off + (k + 1) * 3, none⟩) = some ad ∧ ∀ j u, (pgCells (R.drop (k + 1)))[j]? = some u → w.cell? (ad.add j) = some u := by
    by_cases hck : c = k + 1
    · refine ⟨_, if_pos hck, fun j u hu => ?_⟩
      rw [List.drop_of_length_le (by omega)] at hu
      simp [pgCells] at hu
    · exact ⟨_, if_neg hck, hN⟩
  have HN := Lib.hid hN'
  have hkc : k ≤ c := by omega
  clear hA hx1 hN hN'
  go_wp2
  go_region_law (refine step_append_R rfl _ _ 61 64 3 rfl i0 Tryd.underlying61 HI.out HZ1.out b off k c (pgCells (R.take k)) rfl HA.out ad (m - k) (c - (k + 1)) (pgCells (R.drop (k + 1))) rfl (by rw [pgCells_length, List.length_drop]; omega) HN.out (pgCells_one _) (by omega) ?_; intro hO2)
  all_goals
    rw [show k + (m - k) = m by omega] at hO2 ⊢
    have hER : pgCells (R.take k) ++ pgCells (R.drop (k + 1)) = pgCells (R.eraseIdx k) := by rw [← pgCells_append, List.eraseIdx_eq_take_drop_succ]
    rw [hER] at hO2
    have HU2 : Hid (Upd [b] w (w.drew.setCells b (off + k * 3) (pgCells (R.drop (k + 1))))) := (Upd.of (Below.refl _ _).drew).trans (setCells_upd b _ _ _) (fun x hx => .inl hx)
    generalize w.drew.setCells b (off + k * 3) (pgCells (R.drop (k + 1))) = W2 at *
    have HO2 := Lib.hid hO2
    obtain ⟨cur, hg, hsz⟩ : ∃ cur, W2.heap[b]? = some (.cells cur 64 (0, 0)) ∧ off + c * 3 ≤ cur.size := by
      rcases hO2.2 with ⟨h, _⟩ | ⟨b', off', cur, he, hg, _, _, hs, _⟩
      · cases h
      · cases he
        exact ⟨cur, hg, hs⟩
    have hclr : ∀ ty, (Builtin.clear_ #[61] ty #[.slice (some ⟨b, off + m * 3, none⟩) 1 (c - m)]).run Tryd.prog W2 = .ok (.tuple #[]) (W2.setCells b (off + m * 3) [.string ⟨#[]⟩, .pointer none, .pointer none]) := fun ty =>
      run_clear_page W2 ty b (off + m * 3) (c - m) (fun j hj => by rw [blk_cell hg, Array.getElem?_eq_getElem (by omega)]; rfl) (fun j hj => blk_frozen hg _)
    obtain ⟨cur', k1, k2, k3⟩ := setCells_heap b [.string ⟨#[]⟩, .pointer none, .pointer none] (off + m * 3) W2 cur 64 (0, 0) hg (by simp; omega)
    have HO3 : Hid (OwnC 64 3 (W2.setCells b (off + m * 3) [.string ⟨#[]⟩, .pointer none, .pointer none]) (some ⟨b, off, none⟩) m c (pgCells (R.eraseIdx k))) := by
      refine ⟨HO2.out.1, .inr ⟨b, off, cur', rfl, k1, by omega, hcm', by omega, fun i hi => ?_⟩⟩
      rw [k3, if_neg (by omega)]
      rcases HO2.out.2 with ⟨h, _⟩ | ⟨b', off', cur2, he, hg2, _, _, _, h4⟩
      · cases h
      · cases he
        rw [hg] at hg2
        injection hg2 with hg2
        injection hg2 with hg2
        subst hg2
        exact h4 i hi
    have hcm2 : ¬ c = m := by omega
    have hmc : m + 1 ≤ c := by omega
    have hmc2 : m ≤ c := by omega
    have hU3 := Lib.hid (HU2.out.trans (setCells_upd b [.string ⟨#[]⟩, .pointer none, .pointer none] (off + m * 3) W2) (fun x hx => .inl hx))
    clear hO2 hER hg hsz k1 k2 k3
    go_wp2
    go_ret
    exact ⟨rfl, HO3.out, hU3.out⟩
end Go.Proofs.YtclebkgfogienaaDoor
