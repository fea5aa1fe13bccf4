/- Words for slices of integers in memory: cells that read as numbers, and a row that the call itself made. -/
import Derived.Test.YtdkhgpcfbdekeaaRows
import Derived.Test.YtdkhgpcfbdekeaaSums
import Derived.WalkKit
import Derived.WalkSpells
import Derived.WalkLawsBesides
import Derived.Handy
import Derived.Lib.Hide
import Derived.RangeFuncBox
namespace Go.Proofs.Ytdkhgpcfbdekeaa
open Go.RowKit

/-- The cells from off on, in block b, hold the numbers zs. -/
def Row (w : World) (b off : Nat) (zs : List Int) : Prop :=
  b < w.heap.size ∧ ∀ j, j < zs.length → w.cell? ⟨b, off + j, none⟩ = some (.int .i64 (zs[j]?.getD 0))

theorem Row.below {w w' : World} {b off : Nat} {zs : List Int} (h : Row w b off zs) {B : Nat} (hb : Below B w w') (hB : b < B) : Row w' b off zs :=
  ⟨Nat.lt_of_lt_of_le h.1 hb.size, fun j hj => (hb.cell (p := ⟨b, off + j, none⟩) hB).trans (h.2 j hj)⟩
theorem Row.behind {w w' : World} {b off : Nat} {zs : List Int} (h : Row w b off zs) (hb : Below w.heap.size w w') : Row w' b off zs := h.below hb h.1
theorem Row.drewN {w : World} {b off : Nat} {zs : List Int} (h : Row w b off zs) (n : Nat) : Row (w.drewN n) b off zs := h
theorem Row.alloc {w : World} {b off : Nat} {zs : List Int} (h : Row w b off zs) (o : Obj) : Row (w.alloc o) b off zs :=
  h.below ((Below.refl w.heap.size w).alloc (Nat.le_refl _) o) h.1
theorem Row.setCell {w : World} {b off : Nat} {zs : List Int} (h : Row w b off zs) {p : Addr} (hp : b ≠ p.block) (u : Value) : Row (w.setCell p u) b off zs :=
  ⟨by simpa [World.setCell] using h.1, fun j hj => (World.cell?_of_block (Below.heap_setCell w p u b hp)).trans (h.2 j hj)⟩

theorem below_drewN {B : Nat} {a w : World} (h : Below B a w) (n : Nat) : Below B a (w.drewN n) := ⟨h.os, h.tape, h.output, h.size, h.block⟩

/-- A row of the call's own: block g, from B on, of c cells, the first ones zs. -/
def Owns (w : World) (B g c : Nat) (zs : List Int) : Prop :=
  w.ownsRow B 3 1 (.slice (some ⟨g, 0, none⟩) zs.length c) zs.length (zs.map (Value.int .i64))

theorem Owns.parts {w : World} {B g c : Nat} {zs : List Int} (h : Owns w B g c zs) : ∃ cur, B ≤ g ∧ w.heap[g]? = some (.cells cur 3 (0, 0)) ∧ zs.length ≤ c ∧ c ≤ maxLen ∧ cur.size = c ∧ cur.toList.take zs.length = zs.map (Value.int .i64) := by
  rcases h.2 with ⟨h', _⟩ | ⟨g', cap', cur, h', hb, hg, hnc, hcm, hcs, htake⟩
  · simp at h'
  · simp only [Value.slice.injEq, Option.some.injEq, Addr.mk.injEq, and_true, true_and] at h'
    obtain ⟨rfl, rfl⟩ := h'
    exact ⟨cur, hb, hg, hnc, hcm, by simpa using hcs, by simpa using htake⟩
theorem Owns.lt {w : World} {B g c : Nat} {zs : List Int} (h : Owns w B g c zs) : g < w.heap.size := by
  obtain ⟨cur, _, hg, _⟩ := h.parts
  exact lt_of_block hg
theorem Owns.ge {w : World} {B g c : Nat} {zs : List Int} (h : Owns w B g c zs) : B ≤ g := by
  obtain ⟨cur, hb, _⟩ := h.parts
  exact hb
theorem Owns.row {w : World} {B g c : Nat} {zs : List Int} (h : Owns w B g c zs) : Row w g 0 zs := by
  refine ⟨h.lt, fun j hj => ?_⟩
  rw [Nat.zero_add, World.ownsRow.cellAt h j (by simpa using hj)]
  simp [hj]
theorem Owns.free {w : World} {B g c : Nat} {zs : List Int} (h : Owns w B g c zs) (j : Nat) : w.frozen? ⟨g, j, none⟩ = false := World.ownsRow.frozenAt h j
theorem Owns.set_ {w : World} {B g c : Nat} {zs : List Int} (h : Owns w B g c zs) (j : Nat) (x : Int) : Owns (w.setCell ⟨g, j, none⟩ (.int .i64 x)) B g c (zs.set j x) := by
  have := (World.ownsRow.stored h j (.int .i64 x)).1
  unfold Owns
  rw [List.map_set, List.length_set]
  exact this
theorem Owns.of_block {w w' : World} {B g c : Nat} {zs : List Int} (h : Owns w B g c zs) (hk : w'.heap[g]? = w.heap[g]?) : Owns w' B g c zs := by
  refine ⟨h.1, .inr ?_⟩
  obtain ⟨cur, hb, hg, h1, h2, h3, h4⟩ := h.parts
  exact ⟨g, c, cur, rfl, hb, hk.trans hg, h1, h2, by simpa using h3, by simpa using h4⟩
theorem Owns.below {w w' : World} {B g c : Nat} {zs : List Int} (h : Owns w B g c zs) {B' : Nat} (hb : Below B' w w') (hB : g < B') : Owns w' B g c zs := h.of_block (hb.block g hB)
theorem Owns.behind {w w' : World} {B g c : Nat} {zs : List Int} (h : Owns w B g c zs) (hb : Below w.heap.size w w') : Owns w' B g c zs := h.below hb h.lt
theorem Owns.drewN {w : World} {B g c : Nat} {zs : List Int} (h : Owns w B g c zs) (n : Nat) : Owns (w.drewN n) B g c zs := h
theorem Owns.alloc {w : World} {B g c : Nat} {zs : List Int} (h : Owns w B g c zs) (o : Obj) : Owns (w.alloc o) B g c zs := h.behind ((Below.refl _ w).alloc (Nat.le_refl _) o)
theorem Owns.far {w : World} {B g c : Nat} {zs : List Int} (h : Owns w B g c zs) {p : Addr} (hp : g ≠ p.block) (u : Value) : Owns (w.setCell p u) B g c zs := h.of_block (Below.heap_setCell w p u g hp)
theorem Owns.base {w : World} {B B' g c : Nat} {zs : List Int} (h : Owns w B g c zs) (hB : B' ≤ g) : Owns w B' g c zs := by
  refine ⟨h.1, .inr ?_⟩
  obtain ⟨cur, hb, hg, h1, h2, h3, h4⟩ := h.parts
  exact ⟨g, c, cur, rfl, hB, hg, h1, h2, by simpa using h3, by simpa using h4⟩
theorem Owns.cast {w : World} {B g c : Nat} {zs ys : List Int} (h : Owns w B g c zs) (e : zs = ys) : Owns w B g c ys := e ▸ h

theorem info_int : (Try.prog.info? 3).map (fun i => (i.zero, i.size, i.bytes)) = some (some (.int .i64 0), 1, 8) := by kernel_rfl

/-- What make has laid: n zeros. -/
theorem Owns.made {w : World} {B g n : Nat} (h : w.ownsRow B 3 1 (.slice (some ⟨g, 0, none⟩) n n) n (madeCells (Value.int .i64 0).cells (n * 1)).toList) : Owns w B g n (List.replicate n 0) := by
  unfold Owns
  rw [List.length_replicate, List.map_replicate]
  have e : (madeCells (Value.int .i64 0).cells (n * 1)).toList = List.replicate n (.int .i64 0) := by
    rw [Nat.mul_one]; exact toList_madeCells_one _ _
  rwa [e] at h

theorem ret_bool {a b : Bool} (h : a = b) : Ending.returned (.bool a) = .returned (.bool b) := by rw [h]
theorem ret_int {k : IntKind} {a b : Int} (h : a = b) : Ending.returned (.int k a) = .returned (.int k b) := by rw [h]

/-- What a slice argument that came in reads as. -/
def Reads (w : World) (A : Option Addr) (zs : List Int) : Prop := zs = [] ∨ ∃ b off, A = some ⟨b, off, none⟩ ∧ Row w b off zs
theorem Reads.behind {w w' : World} {A : Option Addr} {zs : List Int} (h : Reads w A zs) (hb : Below w.heap.size w w') : Reads w' A zs := by
  rcases h with h | ⟨b, off, e, h⟩
  · exact .inl h
  · exact .inr ⟨b, off, e, h.behind hb⟩

theorem fill_step (zs : List Int) (k n : Nat) (hk : k < zs.length) (hn : k < n) :
    (zs.take k ++ List.replicate (n - k) 0).set k (zs[k]?.getD 0) = zs.take (k + 1) ++ List.replicate (n - (k + 1)) 0 := by
  have h1 : (zs.take k).length = k := by simp; omega
  rw [List.set_append_right _ _ (by omega), h1, Nat.sub_self]
  have h2 : n - k = (n - (k + 1)) + 1 := by omega
  rw [h2, List.replicate_succ, List.set_cons_zero, List.take_succ_eq_append_getElem hk, List.append_assoc]
  simp [hk]

theorem pow_walk (n : Nat) (h : n ≤ 20) : ∃ N : Nat, 2 ^ n = N ∧ 1 ≤ N ∧ N ≤ 1048576 ∧ wrap64 ((2 : Int) ^ n) = (N : Int) := by
  have h1 : 2 ^ n ≤ 2 ^ 20 := Nat.pow_le_pow_right (by omega) h
  have h2 : 0 < 2 ^ n := Nat.pow_pos (by omega)
  have h3 : ((2 ^ n : Nat) : Int) = (2 : Int) ^ n := Int.natCast_pow 2 n
  refine ⟨2 ^ n, rfl, h2, h1, ?_⟩
  rw [← h3]
  exact IntWalk.wrap64_in _ ⟨by omega, by omega⟩

theorem grown_trans {a b d : World} {row : Option Nat} (h : a.grownBy b row) (k : b.grownBy d row) : a.grownBy d row :=
  ⟨k.os.trans h.os, k.tape.trans h.tape, k.output.trans h.output, Nat.le_trans h.size k.size, fun i hi hne => (k.block i (Nat.lt_of_lt_of_le hi h.size) hne).trans (h.block i hi hne)⟩
theorem grown_set (w : World) (g j : Nat) (u : Value) : w.grownBy (w.setCell ⟨g, j, none⟩ u) (some g) :=
  ⟨rfl, rfl, rfl, by simp [World.setCell], fun i _ hne => Below.heap_setCell w _ u i (fun e => hne (by rw [e]))⟩
theorem Owns.grown {w w' : World} {B g g' c : Nat} {zs : List Int} (h : Owns w B g' c zs) (hg : w.grownBy w' (some g)) (hne : g' ≠ g) : Owns w' B g' c zs :=
  h.of_block (hg.block g' h.lt (by simpa using hne))
theorem Row.grown {w w' : World} {b off g : Nat} {zs : List Int} (h : Row w b off zs) (hg : w.grownBy w' (some g)) (hne : b ≠ g) : Row w' b off zs :=
  ⟨Nat.lt_of_lt_of_le h.1 hg.size, fun j hj => (World.cell?_of_block (hg.block b h.1 (by simpa using hne))).trans (h.2 j hj)⟩
theorem below_wrote {B : Nat} {a w w' : World} {g : Nat} (h : Below B a w) (hg : w.grownBy w' (some g)) (hB : B ≤ w.heap.size) (hr : B ≤ g) : Below B a w' := h.grown hg hB (fun k e => by cases e; exact hr)

/-- Behind an append of one number to a row of the call's own. -/
theorem owns_appended {a w w1 : World} {B B' g c : Nat} {L : List Int} {x : Int} {v' : Value} {o : Obj} (h : Owns w B g c L)
    (hown' : w1.ownsRow B 3 1 v' (L.length + 1) (L.map (Value.int .i64) ++ [.int .i64 x])) (hg : (w.alloc o).grownBy w1 (Value.slice (some ⟨g, 0, none⟩) L.length c).ownBlock) (hB : Below B' a w) (hBB : B' ≤ B) (hBw : B ≤ w.heap.size) :
    ∃ g' c', v' = .slice (some ⟨g', 0, none⟩) (L.length + 1) c' ∧ Owns w1 B g' c' (L ++ [x]) ∧ Below B' a w1 := by
  obtain ⟨g', cap', rfl⟩ := ownsRow_succ hown'
  refine ⟨g', cap', rfl, ?_, ?_⟩
  · unfold Owns
    rw [List.map_append, List.length_append]
    exact hown'
  · exact (hB.alloc (by omega) o).grown hg (by simp; omega) (fun k e => by
      have e' : g = k := by simpa [Value.ownBlock] using e
      subst e'; have := h.ge; omega)
theorem Owns.of_row {w : World} {B g c : Nat} {L : List Int} {x : Int} (h : w.ownsRow B 3 1 (.slice (some ⟨g, 0, none⟩) (L.length + 1) c) (L.length + 1) (L.map (Value.int .i64) ++ [.int .i64 x])) : Owns w B g c (L ++ [x]) := by
  unfold Owns
  rw [List.map_append, List.length_append]
  exact h
theorem Owns.ne_box {w : World} {B g c Bx : Nat} {zs : List Int} {t : TypeId} {u : Value} (h : Owns w B g c zs) (hb : Boxed w Bx t u) (ht : t ≠ 3) : Bx ≠ g := by
  rintro rfl
  obtain ⟨cur, _, hg, _⟩ := h.parts
  rw [show w.heap[Bx]? = _ from hb] at hg
  simp only [Option.some.injEq, Obj.cells.injEq] at hg
  exact ht hg.2.1

/-- n zeros, as make lays them. -/
def zeroCells (n : Nat) : Array Value := madeCells (Value.int .i64 0).cells (n * 1)
theorem owns_zeros (w : World) (B n : Nat) (hB : B ≤ w.heap.size) (hn : n ≤ maxLen) : Owns (w.alloc (.cells (zeroCells n) 3)) B w.heap.size n (List.replicate n 0) :=
  Owns.made (World.ownsRow_lit w _ n hB hn (size_madeCells _ _))
theorem run_zeros (n : Nat) (z : Int) (hz : z = (n : Int)) (hn : n * 8 ≤ 281474976710656) (w : World) :
    (Instr.makeSlice 22 (.int .i64 z) (.int .i64 z)).run Try.prog w = .ok (.slice (some ⟨w.heap.size, 0, none⟩) n n) (w.alloc (.cells (zeroCells n) 3)) := by
  obtain ⟨i0, hi, hz0, hz1, hz2⟩ := info_parts info_int
  subst hz
  have h := run_make (P := Try.prog) w 22 3 i0 (.int .i64 0) Try.underlying22 hi hz0 .i64 .i64 n n (by omega) (Int.le_refl _) (by rw [hz2]; omega) (by omega)
  simp only [Int.toNat_natCast, hz1] at h
  exact h

theorem max_if (a b : Int) : (if a < b then b else a) = max a b := by split <;> omega
theorem min_if (a b : Int) : (if b < a then b else a) = min a b := by split <;> omega

/-- An empty literal. -/
theorem owns_empty (w : World) (B : Nat) (hB : B ≤ w.heap.size) : Owns (w.alloc (.cells #[] 3)) B w.heap.size 0 [] :=
  World.ownsRow_lit w #[] 0 hB (Nat.zero_le _) rfl
theorem Reads.of_row {w : World} {b off : Nat} {zs : List Int} (h : Row w b off zs) : Reads w (some ⟨b, off, none⟩) zs := .inr ⟨b, off, rfl, h⟩

end Go.Proofs.Ytdkhgpcfbdekeaa
