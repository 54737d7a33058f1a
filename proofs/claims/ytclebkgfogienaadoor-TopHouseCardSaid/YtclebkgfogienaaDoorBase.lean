/- Words that the seat's own proofs share: strings as lists of bytes, edits that lie in memory, worlds that differ in a set of blocks alone. -/
import Derived.Test.YtclebkgfogienaaDoorProg
import Derived.WalkKit
import Derived.WalkSpells
import Derived.WalkLawsBesides
import Derived.Lib.Hide
import Derived.Deep.LoopGhost
import Derived.Deep.QuietTactic
import Derived.BigQuiet
import Derived.Lib.ConvBytes
import Derived.Laws.BytesArg
import Derived.Deep.RegionWith
import Derived.StillTailTactics
import Derived.Deep.RegionHeld3
import Derived.Deep.RegionLaw
import Derived.Deep.DeepMust
import Derived.Deep.DeepFit
import Derived.Deep.DeepCutAuto
import Derived.Deep.CutBlock
namespace Go.Proofs.YtclebkgfogienaaDoor
set_option linter.unusedSimpArgs false
set_option linter.unusedVariables false
open Go.RowKit

/-- a string's bytes as a list, and back -/
def bs (l : List UInt8) : ByteArray := ⟨l.toArray⟩
def sl (s : ByteArray) : List UInt8 := s.data.toList
theorem bs_sl (s : ByteArray) : bs (sl s) = s := by cases s; simp [bs, sl]
theorem sl_bs (l : List UInt8) : sl (bs l) = l := by simp [bs, sl]
@[simp] theorem bs_size (l : List UInt8) : (bs l).size = l.length := by show l.toArray.size = l.length; simp
theorem sl_length (s : ByteArray) : (sl s).length = s.size := by show s.data.toList.length = s.data.size; simp
theorem bs_inj {a b : List UInt8} (h : bs a = bs b) : a = b := by rw [← sl_bs a, ← sl_bs b, h]
theorem sl_inj {a b : ByteArray} (h : sl a = sl b) : a = b := by rw [← bs_sl a, ← bs_sl b, h]

@[simp] theorem bs_toList (l : List UInt8) : (bs l).toList = l := ByteArray.toList_mk l
@[simp] theorem bs_append (a b : List UInt8) : bs a ++ bs b = bs (a ++ b) := ByteArray.mk_append_mk a b
@[simp] theorem bs_extract (l : List UInt8) (a b : Nat) : (bs l).extract a b = bs ((l.drop a).take (b - a)) := ByteArray.extract_mk l a b
@[simp high] theorem bs_extract_end (l : List UInt8) (a : Nat) : (bs l).extract a l.length = bs (l.drop a) := by
  rw [bs_extract, List.take_of_length_le (by simp)]
@[simp high] theorem bs_extract_start (l : List UInt8) (a : Nat) : (bs l).extract 0 a = bs (l.take a) := by rw [bs_extract]; simp
@[simp] theorem bs_nil : bs [] = ByteArray.empty := rfl
theorem bs_lit (l : List UInt8) : ByteArray.mk l.toArray = bs l := rfl
theorem bs_emp : ByteArray.mk #[] = bs [] := rfl
theorem bs_get (l : List UInt8) (i : Nat) (h : i < (bs l).size) : (bs l)[i] = l[i]'(by simpa using h) := by
  show (bs l).data[i]'h = _
  simp [bs]

theorem ret_int {k : IntKind} {a b : Int} (h : a = b) : Ending.returned (.int k a) = .returned (.int k b) := by rw [h]
theorem ret_str {a b : ByteArray} (h : a = b) : Ending.returned (.string a) = .returned (.string b) := by rw [h]
theorem ret_se {a b : ByteArray} {x y : Int} (h : a = b) (g : x = y) : Ending.returned (.tuple #[.string a, .int .i64 x]) = .returned (.tuple #[.string b, .int .i64 y]) := by rw [h, g]

/-- a sum of two strings, as an equation for a walk -/
theorem add_bs (x y z : List UInt8) (b : ByteArray) (hb : b = bs y) (h : x.length + y.length ≤ 4611686018427387904) (hz : x ++ y = z) (w : World) :
    (Op.stringOp .add (bs x) b).run Tryd.prog w = .ok (.string (bs z)) w := by
  subst hb; subst hz
  rw [run_string_add_sum w (bs x) (bs y) (by simp; omega), bs_append]
theorem below_heap {w w1 : World} (ho : w1.os = w.os) (ht : w1.tape = w.tape) (hp : w1.output = w.output) (hs : w.heap.size ≤ w1.heap.size) (hb : ∀ k, k < w.heap.size → w1.heap[k]? = w.heap[k]?) : Below w.heap.size w w1 := ⟨ho, ht, hp, hs, hb⟩

/-- '[]byte(s)': a new row that holds the bytes -/
theorem conv_str_bytes (w : World) (s : List UInt8) : ∃ w1 c, (convert 9 95 (.string (bs s))).run Tryd.prog w = .ok (.slice (some ⟨w.heap.size, 0, none⟩) s.length c) w1 ∧
    Below w.heap.size w w1 ∧ w1.heap.size = w.heap.size + 1 ∧ ∀ j (h : j < s.length), w1.cell? ⟨w.heap.size, j, none⟩ = some (.int .u8 s[j].toNat) := by
  refine ⟨_, _, (Lib.run_convert_string_bytes w 9 95 5 (bs s) Tryd.underlying9 Tryd.underlying95 Tryd.underlying5).trans (by rw [bs_size]), ?_, Lib.bytesWorld_size w 5 (bs s), ?_⟩
  · exact ⟨rfl, rfl, rfl, by rw [Lib.bytesWorld_size]; omega, fun k hk => Lib.bytesWorld_at_old w _ _ k hk⟩
  · intro j hj
    rw [Lib.bytesWorld_cell w _ _ j (by simpa using hj)]
    simp [bs, List.getD, hj]

/-- 'string(b)', b a row of bytes -/
theorem conv_bytes_str (w : World) (b off len cap : Nat) (xs : List Int) (hl : xs.length = len) (hc : ∀ i, i < len → w.cell? ⟨b, off + i, none⟩ = some (.int .u8 (xs.getD i 0))) :
    (convert 95 9 (.slice (some ⟨b, off, none⟩) len cap)).run Tryd.prog w = .ok (.string (bs (xs.map fun n => UInt8.ofNat n.toNat))) w :=
  run_convert_bytes_arg w 95 5 Tryd.underlying95 Tryd.underlying5 b off len cap xs hl hc 9 Tryd.underlying9

theorem conv_lit2 (w : World) (x y : Int) : (convert 95 9 (.slice (some ⟨w.heap.size, 0, none⟩) 2 2)).run Tryd.prog (w.alloc (.cells #[.int .u8 x, .int .u8 y] 5)) =
    .ok (.string (bs [UInt8.ofNat x.toNat, UInt8.ofNat y.toNat])) (w.alloc (.cells #[.int .u8 x, .int .u8 y] 5)) := by
  refine conv_bytes_str _ _ _ _ _ [x, y] rfl (fun i hi => ?_)
  match i, hi with
  | 0, _ => simp
  | 1, _ => simp
theorem conv_lit4 (w : World) (x y z u : Int) : (convert 95 9 (.slice (some ⟨w.heap.size, 0, none⟩) 4 4)).run Tryd.prog (w.alloc (.cells #[.int .u8 x, .int .u8 y, .int .u8 z, .int .u8 u] 5)) =
    .ok (.string (bs [UInt8.ofNat x.toNat, UInt8.ofNat y.toNat, UInt8.ofNat z.toNat, UInt8.ofNat u.toNat])) (w.alloc (.cells #[.int .u8 x, .int .u8 y, .int .u8 z, .int .u8 u] 5)) := by
  refine conv_bytes_str _ _ _ _ _ [x, y, z, u] rfl (fun i hi => ?_)
  match i, hi with
  | 0, _ => simp
  | 1, _ => simp
  | 2, _ => simp
  | 3, _ => simp

/-- Of what was there nothing has turned, but for the blocks of S. -/
structure Upd (S : List Nat) (w w' : World) : Prop where
  os : w'.os = w.os
  tape : w'.tape = w.tape
  output : w'.output = w.output
  size : w.heap.size ≤ w'.heap.size
  block : ∀ k, k < w.heap.size → k ∉ S → w'.heap[k]? = w.heap[k]?
theorem Upd.of {S : List Nat} {w w' : World} (h : Below w.heap.size w w') : Upd S w w' := ⟨h.os, h.tape, h.output, h.size, fun k hk _ => h.block k hk⟩
theorem Upd.refl (S : List Nat) (w : World) : Upd S w w := .of (Below.refl _ _)
theorem Upd.to {w w' : World} (h : Upd [] w w') : Below w.heap.size w w' := ⟨h.os, h.tape, h.output, h.size, fun k hk => h.block k hk (by simp)⟩
theorem Upd.mono {S T : List Nat} {w w' : World} (h : Upd S w w') (hs : ∀ k, k ∈ S → k ∈ T) : Upd T w w' := ⟨h.os, h.tape, h.output, h.size, fun k hk hn => h.block k hk fun hm => hn (hs k hm)⟩
theorem Upd.trans {S T : List Nat} {a b c : World} (h : Upd S a b) (k : Upd T b c) (hT : ∀ x, x ∈ T → x ∈ S ∨ a.heap.size ≤ x) : Upd S a c :=
  ⟨k.os.trans h.os, k.tape.trans h.tape, k.output.trans h.output, Nat.le_trans h.size k.size, fun i hi hn =>
    (k.block i (Nat.lt_of_lt_of_le hi h.size) fun hm => by rcases hT i hm with h' | h'; exact hn h'; omega).trans (h.block i hi hn)⟩
theorem Upd.below {S : List Nat} {w w' : World} (h : Upd S w w') {B : Nat} (hS : ∀ k, k ∈ S → B ≤ k) (hB : B ≤ w.heap.size) : Below B w w' :=
  ⟨h.os, h.tape, h.output, h.size, fun k hk => h.block k (by omega) fun hm => by have := hS k hm; omega⟩
theorem Upd.then {S : List Nat} {a b c : World} (h : Upd S a b) (k : Below b.heap.size b c) : Upd S a c := h.trans (T := []) (.of k) (by simp)
theorem Upd.setCell (w : World) (g i : Nat) (v : Value) : Upd [g] w (w.setCell ⟨g, i, none⟩ v) :=
  ⟨rfl, rfl, rfl, by simp [World.setCell], fun k _ hn => Below.heap_setCell _ _ _ _ (by simpa using hn)⟩

/-- what a block of cells reads as, cell by cell -/
theorem blk_cell {w : World} {g : Nat} {cs : Array Value} {t : TypeId} {fr : Nat × Nat} (h : w.heap[g]? = some (.cells cs t fr)) (i : Nat) : w.cell? ⟨g, i, none⟩ = cs[i]? := by
  simp [World.cell?, h]
theorem blk_frozen {w : World} {g : Nat} {cs : Array Value} {t : TypeId} (h : w.heap[g]? = some (.cells cs t (0, 0))) (i : Nat) : w.frozen? ⟨g, i, none⟩ = false := by
  simp [World.frozen?, h]
theorem blk_set {w : World} {g : Nat} {cs : Array Value} {t : TypeId} {fr : Nat × Nat} (h : w.heap[g]? = some (.cells cs t fr)) (i : Nat) (v : Value) :
    (w.setCell ⟨g, i, none⟩ v).heap[g]? = some (.cells (cs.setIfInBounds i v) t fr) := by
  simp [World.setCell, Array.getElem?_modify, h]
theorem blk_lt {w : World} {g : Nat} {o : Obj} (h : w.heap[g]? = some o) : g < w.heap.size := (Array.getElem?_eq_some_iff.1 h).1
theorem heap_new (w : World) (o : Obj) : (w.alloc o).heap[w.heap.size]? = some o := heap_alloc_new w o

/-- the cells of a row of strings -/
def strCells (l : List (List UInt8)) : List Value := l.map fun r => .string (bs r)
theorem strCells_length (l : List (List UInt8)) : (strCells l).length = l.length := by simp [strCells]
theorem strCells_at (l : List (List UInt8)) (i : Nat) (h : i < l.length) : (strCells l)[i]? = some (.string (bs l[i])) := by simp [strCells, h]
theorem info_str : (Tryd.prog.info? 9).map (fun i => (i.zero, i.size, i.bytes)) = some (some (.string ⟨#[]⟩), 1, 16) := by kernel_rfl
theorem cell_one_new' (w : World) (x : Value) (t : TypeId) : ∀ j u, [x][j]? = some u → (w.alloc (.cells #[x] t)).cell? ((⟨w.heap.size, 0, none⟩ : Addr).add j) = some u := by
  intro j u hj
  match j, hj with
  | 0, hj => simp at hj; subst hj; simp [Addr.add]
  | (j + 1), hj => simp at hj

/-- one edit -/
structure Ed where
  pos : Int
  del : Int
  ins : List UInt8

/-- the edits of a slice, as they lie in memory -/
def EditsAt (w : World) (v : Value) (l : List Ed) : Prop :=
  ∃ A c, v = .slice A l.length c ∧ l.length ≤ c ∧ (l ≠ [] → ∃ b off, A = some ⟨b, off, none⟩ ∧ b < w.heap.size ∧
    ∀ i (h : i < l.length), w.cell? ⟨b, off + i * 3, none⟩ = some (.int .i64 l[i].pos) ∧ w.cell? ⟨b, off + i * 3 + 1, none⟩ = some (.int .i64 l[i].del) ∧ w.cell? ⟨b, off + i * 3 + 2, none⟩ = some (.string (bs l[i].ins)))

end Go.Proofs.YtclebkgfogienaaDoor
