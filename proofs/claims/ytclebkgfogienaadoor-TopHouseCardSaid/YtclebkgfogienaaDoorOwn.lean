/- Slices that an object owns: where their cells lie, and what an append of one element does to them. -/
import Derived.Test.YtclebkgfogienaaDoorBase
import Derived.ArgAppend
import Derived.Deep.AppendLies
namespace Go.Proofs.YtclebkgfogienaaDoor
set_option linter.unusedSimpArgs false
set_option linter.unusedVariables false
open Go.RowKit

/-- the block that a slice lies in -/
def blk : Option Addr → List Nat
  | some a => [a.block]
  | none => []

/-- a slice of n elements of k cells each, that holds the cells xs; its room reaches no further than its block -/
def OwnC (T k : Nat) (w : World) (A : Option Addr) (n c : Nat) (xs : List Value) : Prop :=
  xs.length = n * k ∧ ((A = none ∧ n = 0 ∧ c = 0) ∨ ∃ b off cur, A = some ⟨b, off, none⟩ ∧ w.heap[b]? = some (.cells cur T (0, 0)) ∧ n ≤ c ∧ c ≤ maxLen ∧ off + c * k ≤ cur.size ∧
    ∀ i, i < n * k → cur[off + i]? = xs[i]?)

theorem OwnC.lt {T k : Nat} {w : World} {A : Option Addr} {n c : Nat} {xs : List Value} (h : OwnC T k w A n c xs) : ∀ b ∈ blk A, b < w.heap.size := by
  intro b hb
  rcases h.2 with ⟨rfl, _⟩ | ⟨b', off, cur, rfl, h1, _⟩
  · simp [blk] at hb
  · simp [blk] at hb; subst hb; exact blk_lt h1
theorem OwnC.upd {T k : Nat} {w w' : World} {A : Option Addr} {n c : Nat} {xs : List Value} {S : List Nat} (h : OwnC T k w A n c xs) (hu : Upd S w w') (hS : ∀ b ∈ blk A, b ∉ S) : OwnC T k w' A n c xs := by
  refine ⟨h.1, ?_⟩
  rcases h.2 with h2 | ⟨b', off, cur, rfl, h1, h2⟩
  · exact .inl h2
  · exact .inr ⟨b', off, cur, rfl, (hu.block b' (blk_lt h1) (hS b' (by simp [blk]))).trans h1, h2⟩
theorem OwnC.below {T k : Nat} {w w' : World} {A : Option Addr} {n c : Nat} {xs : List Value} (h : OwnC T k w A n c xs) (hu : Below w.heap.size w w') : OwnC T k w' A n c xs := h.upd (Upd.of (S := []) hu) (by simp)
theorem OwnC.cell {T k : Nat} {w : World} {b off n c : Nat} {xs : List Value} (h : OwnC T k w (some ⟨b, off, none⟩) n c xs) (i : Nat) (hi : i < n * k) : w.cell? ⟨b, off + i, none⟩ = xs[i]? := by
  rcases h.2 with ⟨h2, _⟩ | ⟨b', off', cur, e, h1, h3, _, _, h4⟩
  · cases h2
  · cases e
    rw [blk_cell h1, h4 i hi]
theorem OwnC.nil (T k : Nat) (w : World) : OwnC T k w none 0 0 [] := ⟨by simp, .inl ⟨rfl, rfl, rfl⟩⟩
theorem OwnC.addr {T k : Nat} {w : World} {A : Option Addr} {n c : Nat} {xs : List Value} (h : OwnC T k w A n c xs) (hn : 0 < n) : ∃ b off, A = some ⟨b, off, none⟩ ∧ n ≤ c ∧ b < w.heap.size := by
  rcases h.2 with ⟨_, h2, _⟩ | ⟨b', off', cur, e, h1, h3, _⟩
  · omega
  · exact ⟨b', off', e, h3, blk_lt h1⟩
/-- what a call owns by the kit's word is owned by this one -/
theorem OwnC.of_row {T k base : Nat} {w : World} {A : Option Addr} {n c : Nat} {xs : List Value} (h : w.ownsRow base T k (.slice A n c) n xs) : OwnC T k w A n c xs := by
  refine ⟨h.1, ?_⟩
  rcases h.2 with ⟨h1, h2⟩ | ⟨g, cap, cur, h1, _, hg, hn, hm, hs, ht⟩
  · cases h1; exact .inl ⟨rfl, h2, rfl⟩
  · cases h1
    refine .inr ⟨g, 0, cur, rfl, hg, hn, hm, by omega, fun i hi => ?_⟩
    rw [← ht, List.getElem?_take, if_pos hi]
    simp

/-- a shorter beginning of a slice -/
theorem OwnC.take {T k : Nat} {w : World} {A : Option Addr} {n c : Nat} {xs : List Value} (h : OwnC T k w A n c xs) (m : Nat) (hm : m ≤ n) : OwnC T k w A m c (xs.take (m * k)) := by
  have hle : m * k ≤ n * k := Nat.mul_le_mul_right k hm
  refine ⟨by rw [List.length_take, h.1]; omega, ?_⟩
  rcases h.2 with ⟨h1, h2, h3⟩ | ⟨b, off, cur, h1, hg, hn, hm', hs, ht⟩
  · exact .inl ⟨h1, by omega, h3⟩
  · exact .inr ⟨b, off, cur, h1, hg, by omega, hm', hs, fun i hi => by rw [ht i (by omega), List.getElem?_take, if_pos hi]⟩
/-- a slice without its first element, of one cell -/
theorem OwnC.tail {T : Nat} {w : World} {b off n c : Nat} {xs : List Value} (h : OwnC T 1 w (some ⟨b, off, none⟩) (n + 1) c xs) : OwnC T 1 w (some ⟨b, off + 1, none⟩) n (c - 1) xs.tail := by
  have hx := h.1
  refine ⟨by rw [List.length_tail, hx]; omega, ?_⟩
  rcases h.2 with ⟨h1, h2, h3⟩ | ⟨b', off', cur, h1, hg, hn, hm', hs, ht⟩
  · cases h1
  · cases h1
    refine .inr ⟨_, _, cur, rfl, hg, by omega, by omega, by omega, fun i hi => ?_⟩
    rw [List.getElem?_tail, ← ht (i + 1) (by omega)]
    congr 1
    omega

theorem addr_add (b off j : Nat) : (⟨b, off, none⟩ : Addr).add j = ⟨b, off + j, none⟩ := by unfold Addr.add; split <;> simp_all
theorem setCells_heap (b : Nat) : ∀ (news : List Value) (o : Nat) (w : World) (cur : Array Value) (T : TypeId) (fr : Nat × Nat), w.heap[b]? = some (.cells cur T fr) → o + news.length ≤ cur.size →
    ∃ cur', (w.setCells b o news).heap[b]? = some (.cells cur' T fr) ∧ cur'.size = cur.size ∧ ∀ i, cur'[i]? = if o ≤ i ∧ i < o + news.length then news[i - o]? else cur[i]?
  | [], o, w, cur, T, fr, h, _ => ⟨cur, h, rfl, fun i => by rw [if_neg (by simp only [List.length_nil]; omega)]⟩
  | v :: news, o, w, cur, T, fr, h, hs => by
    simp at hs
    obtain ⟨cur', h1, h2, h3⟩ := setCells_heap b news (o + 1) (w.setCell ⟨b, o, none⟩ v) _ T fr (blk_set h o v) (by simp; omega)
    refine ⟨cur', h1, by simpa using h2, fun i => ?_⟩
    rw [h3 i]
    by_cases h4 : o = i
    · subst h4
      rw [if_neg (by omega), if_pos (by simp), Array.getElem?_setIfInBounds_self_of_lt (by omega)]
      simp
    · by_cases h5 : o + 1 ≤ i ∧ i < o + 1 + news.length
      · rw [if_pos h5, if_pos (by simp; omega)]
        obtain ⟨j, rfl⟩ : ∃ j, i = o + 1 + j := ⟨i - (o + 1), by omega⟩
        rw [show o + 1 + j - (o + 1) = j by omega, show o + 1 + j - o = j + 1 by omega]
        rfl
      · rw [if_neg h5, if_neg (by simp; omega), Array.getElem?_setIfInBounds_ne h4]
theorem setCells_upd (b : Nat) : ∀ (news : List Value) (o : Nat) (w : World), Upd [b] w (w.setCells b o news)
  | [], _, w => Upd.refl _ w
  | v :: news, o, w => (Upd.setCell w b o v).trans (setCells_upd b news (o + 1) _) (by simp)

/-- append of m elements, whatever the room -/
theorem run_append_C (t ty T k bytes : Nat) (i : TypeInfo) (z : Value) (ht : Tryd.prog.underlying t = some (.slice T)) (hi : Tryd.prog.info? T = some i) (hz : i.zero = some z) (hk : i.size = k) (hb : i.bytes = bytes) (hzs : z.cells.size = k)
    (w : World) (A : Option Addr) (n c : Nat) (xs : List Value) (hO : OwnC T k w A n c xs) (ad : Addr) (m c2 : Nat) (news : List Value) (hl : news.length = m * k) (hnews : ∀ j u, news[j]? = some u → w.cell? (ad.add j) = some u) (h1 : ∀ u ∈ news, u.oneCell' = true)
    (hm : 0 < m) (h63 : n + m ≤ maxLen) (hbytes : (n + m) * bytes ≤ 140737488355328) :
    ∃ A' c' w', (Builtin.append_ #[t, t] ty #[.slice A n c, .slice (some ad) m c2]).run Tryd.prog w = .ok (.slice A' (n + m) c') w' ∧ OwnC T k w' A' (n + m) c' (xs ++ news) ∧ Upd (blk A) w w' ∧ (∀ b ∈ blk A', b ∈ blk A ∨ w.heap.size ≤ b) := by
  subst hk
  subst hb
  have hmax : n + m ≤ 9223372036854775807 := by unfold maxLen at h63; omega
  have hlen : (xs ++ news).length = (n + m) * i.size := by rw [List.length_append, hO.1, hl, Nat.add_mul]
  have grown : ∀ (old : Nat), old < n + m → OwnC T i.size (w.drew.alloc (.cells (xs.toArray ++ news.toArray ++ Builtin.zeroCells z.cells (grownCap w (n + m) old T - (n + m))) T)) (some ⟨w.heap.size, 0, none⟩) (n + m) (grownCap w (n + m) old T) (xs ++ news) ∧
      Upd (blk A) w (w.drew.alloc (.cells (xs.toArray ++ news.toArray ++ Builtin.zeroCells z.cells (grownCap w (n + m) old T - (n + m))) T)) := by
    intro old ho
    have hge := grownCap_ge w (n + m) old T
    refine ⟨⟨hlen, .inr ⟨_, _, _, rfl, heap_alloc_new w.drew _, hge, grownCap_le_maxLen w _ _ _ h63, ?_, ?_⟩⟩, ⟨rfl, rfl, rfl, by simp, fun j hj _ => Below.heap_alloc w.drew _ j hj⟩⟩
    · simp only [Array.size_append, List.size_toArray, size_zeroCells, hzs, hO.1, hl, ← Nat.add_mul]
      rw [Nat.zero_add]
      exact Nat.mul_le_mul_right _ (by omega)
    · intro j hj
      rw [← hlen] at hj
      rw [Nat.zero_add, Array.getElem?_append_left (by simpa using hj)]
      simp
  rcases hO.2 with ⟨rfl, rfl, rfl⟩ | ⟨b, off, cur, rfl, hg, hnc, hcm, hs, ht'⟩
  · have hx : xs = [] := List.eq_nil_of_length_eq_zero (by simpa using hO.1)
    subst hx
    have hr := run_append_nil (P := Tryd.prog) w t ty T i z ht hi hz ad m c2 news hl hnews (by omega) (by omega) (by simp only [Nat.zero_add] at hbytes; omega)
    obtain ⟨g1, g2⟩ := grown 0 (by omega)
    simp only [Nat.zero_add, List.nil_append, Array.empty_append] at g1 g2 ⊢
    exact ⟨_, _, _, hr, g1, g2, by simp [blk]⟩
  · by_cases hroom : n + m ≤ c
    · have hmul : (n + m) * i.size ≤ c * i.size := Nat.mul_le_mul_right _ hroom
      rw [Nat.add_mul] at hmul
      have hr := run_append_room_cells (P := Tryd.prog) w t ty T i ht hi b off n c ad m c2 news hl hnews h1 hroom
        (fun j hj => by rw [blk_cell hg, Array.getElem?_eq_getElem (by omega)]; rfl) (fun j hj => blk_frozen hg _)
      obtain ⟨cur', k1, k2, k3⟩ := setCells_heap b news (off + n * i.size) w cur T (0, 0) hg (by omega)
      refine ⟨_, _, _, hr, ⟨hlen, .inr ⟨_, _, cur', rfl, k1, hroom, hcm, by omega, fun j hj => ?_⟩⟩, setCells_upd _ _ _ _, fun x hx => .inl hx⟩
      rw [k3]
      by_cases hj' : j < n * i.size
      · rw [if_neg (by omega), ht' j hj', List.getElem?_append_left (by rw [hO.1]; exact hj')]
      · rw [Nat.add_mul] at hj
        rw [if_pos (by omega), List.getElem?_append_right (by rw [hO.1]; omega), hO.1, show off + j - (off + n * i.size) = j - n * i.size by omega]
    · have holds : ∀ j v, xs[j]? = some v → w.cell? ((⟨b, off, none⟩ : Addr).add j) = some v := by
        intro j v hv
        have hj : j < xs.length := by
          rcases Nat.lt_or_ge j xs.length with h | h
          · exact h
          · rw [List.getElem?_eq_none h] at hv; cases hv
        rw [addr_add, blk_cell hg, ht' j (by rw [← hO.1]; exact hj), hv]
      have hr := run_append_grow (P := Tryd.prog) w t ty T i z ht hi hz ⟨b, off, none⟩ n c xs hO.1 holds ad m c2 news hl hnews (by omega) (by omega) (growslice_fits (by omega) hbytes)
      obtain ⟨g1, g2⟩ := grown c (by omega)
      exact ⟨_, _, _, hr, g1, g2, by simp [blk]⟩

/-- the law at a plain operation, and at a step of a region that draws -/
theorem wp_append_C {o : Oper} {a : Act} {K : Act → World → Prop} {Q : Exit → Act → World → Prop} {w : World} (s x : Operand) (t T k bytes : Nat)
    (ho : o.op = .call { callee := .builtin .append, args := #[s, x], argTypes := #[t, t] })
    (i : TypeInfo) (z : Value) (ht : Tryd.prog.underlying t = some (.slice T)) (hi : Tryd.prog.info? T = some i) (hz : i.zero = some z) (hk : i.size = k) (hb : i.bytes = bytes) (hzs : z.cells.size = k)
    (A : Option Addr) (n c : Nat) (xs : List Value) (hs : a.eval s = .slice A n c) (hO : OwnC T k w A n c xs) (ad : Addr) (m c2 : Nat) (news : List Value) (hx : a.eval x = .slice (some ad) m c2) (hl : news.length = m * k) (hnews : ∀ j u, news[j]? = some u → w.cell? (ad.add j) = some u) (h1 : ∀ u ∈ news, u.oneCell' = true)
    (hm : 0 < m) (h63 : n + m ≤ maxLen) (hbytes : (n + m) * bytes ≤ 140737488355328)
    (h : ∀ A' c' w', OwnC T k w' A' (n + m) c' (xs ++ news) → Upd (blk A) w w' → (∀ b ∈ blk A', b ∈ blk A ∨ w.heap.size ≤ b) → K (a.put o.dst (.slice A' (n + m) c')) w') : o.wp Tryd.prog a w K Q := by
  obtain ⟨A', c', w', hr, h2, h3, h4⟩ := run_append_C t o.type T k bytes i z ht hi hz hk hb hzs w A n c xs hO ad m c2 news hl hnews h1 hm h63 hbytes
  unfold Oper.wp execOp
  simp only [ho, resolve, invoke, builtin, Sem.run_bind, Sem.run_pure, Result.andThen_ok, List.map_toArray, List.map_cons, List.map_nil, hs, hx, hr]
  exact h A' c' w' h2 h3 h4
theorem wpList_append_C {ops : Array Oper} {rest : List Oper} {o : Oper} {a : Act} {Q : Exit → Act → World → Prop} {w : World} (hgd : o.guard = none) (s x : Operand) (t T k bytes : Nat)
    (ho : o.op = .call { callee := .builtin .append, args := #[s, x], argTypes := #[t, t] })
    (i : TypeInfo) (z : Value) (ht : Tryd.prog.underlying t = some (.slice T)) (hi : Tryd.prog.info? T = some i) (hz : i.zero = some z) (hk : i.size = k) (hb : i.bytes = bytes) (hzs : z.cells.size = k)
    (A : Option Addr) (n c : Nat) (xs : List Value) (hs : a.eval s = .slice A n c) (hO : OwnC T k w A n c xs) (ad : Addr) (m c2 : Nat) (news : List Value) (hx : a.eval x = .slice (some ad) m c2) (hl : news.length = m * k) (hnews : ∀ j u, news[j]? = some u → w.cell? (ad.add j) = some u) (h1 : ∀ u ∈ news, u.oneCell' = true)
    (hm : 0 < m) (h63 : n + m ≤ maxLen) (hbytes : (n + m) * bytes ≤ 140737488355328)
    (h : ∀ A' c' w', OwnC T k w' A' (n + m) c' (xs ++ news) → Upd (blk A) w w' → (∀ b ∈ blk A', b ∈ blk A ∨ w.heap.size ≤ b) → wpList Tryd.prog ops Q rest (a.put o.dst (.slice A' (n + m) c')) w') : wpList Tryd.prog ops Q (o :: rest) a w :=
  wpList_plain hgd fun _ hK => wp_append_C s x t T k bytes ho i z ht hi hz hk hb hzs A n c xs hs hO ad m c2 news hx hl hnews h1 hm h63 hbytes fun A' c' w' h2 h3 h4 => hK _ _ (h A' c' w' h2 h3 h4)
theorem step_append_C {ops : Array Oper} {o : Oper} {a : Act} {K : Act → World → Prop} {Q : Exit → Act → World → Prop} {E : Prop} {w : World} (hgd : o.guard = none) (s x : Operand) (t T k bytes : Nat)
    (ho : o.op = .call { callee := .builtin .append, args := #[s, x], argTypes := #[t, t] })
    (i : TypeInfo) (z : Value) (ht : Tryd.prog.underlying t = some (.slice T)) (hi : Tryd.prog.info? T = some i) (hz : i.zero = some z) (hk : i.size = k) (hb : i.bytes = bytes) (hzs : z.cells.size = k)
    (A : Option Addr) (n c : Nat) (xs : List Value) (hs : a.eval s = .slice A n c) (hO : OwnC T k w A n c xs) (ad : Addr) (m c2 : Nat) (news : List Value) (hx : a.eval x = .slice (some ad) m c2) (hl : news.length = m * k) (hnews : ∀ j u, news[j]? = some u → w.cell? (ad.add j) = some u) (h1 : ∀ u ∈ news, u.oneCell' = true)
    (hm : 0 < m) (h63 : n + m ≤ maxLen) (hbytes : (n + m) * bytes ≤ 140737488355328)
    (h : ∀ A' c' w', OwnC T k w' A' (n + m) c' (xs ++ news) → Upd (blk A) w w' → (∀ b ∈ blk A', b ∈ blk A ∨ w.heap.size ≤ b) → K (a.put o.dst (.slice A' (n + m) c')) w') :
    if Region.wanted o (yielded ops a.tmps) = true then Oper.wp Tryd.prog o a w K Q else E := by
  have hw : Region.wanted o (yielded ops a.tmps) = true := by simp [Region.wanted, hgd]
  rw [if_pos hw]
  exact wp_append_C s x t T k bytes ho i z ht hi hz hk hb hzs A n c xs hs hO ad m c2 news hx hl hnews h1 hm h63 hbytes h
end Go.Proofs.YtclebkgfogienaaDoor
