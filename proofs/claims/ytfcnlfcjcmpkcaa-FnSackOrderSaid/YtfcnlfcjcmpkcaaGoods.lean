/- Goods: an item with its place, three cells. -/
import Derived.Test.YtfcnlfcjcmpkcaaSackBest
import Derived.Test.YtfcnlfcjcmpkcaaTab
namespace Go.Proofs.Ytfcnlfcjcmpkcaa
open Go.RowKit

set_option maxHeartbeats 1000000
/-- A list of n goods (three cells each) of the call's own. -/
def OwnG (w : World) (B g n : Nat) (zs : List Int) : Prop :=
  zs.length = 3 * n ∧ w.ownsRow B 49 3 (.slice (some ⟨g, 0, none⟩) n n) n (zs.map (Value.int .i64))

theorem OwnG.parts {w : World} {B g n : Nat} {zs : List Int} (h : OwnG w B g n zs) : ∃ cur, B ≤ g ∧ w.heap[g]? = some (.cells cur 49 (0, 0)) ∧ n ≤ maxLen ∧ cur.size = 3 * n ∧ cur.toList = zs.map (Value.int .i64) := by
  obtain ⟨hz, hh⟩ := h
  rcases hh.2 with ⟨h', _⟩ | ⟨g', cap', cur, h', hb, hg, hnc, hcm, hcs, htake⟩
  · simp at h'
  · simp only [Value.slice.injEq, Option.some.injEq, Addr.mk.injEq, and_true, true_and] at h'
    obtain ⟨rfl, rfl⟩ := h'
    refine ⟨cur, hb, hg, hcm, by omega, ?_⟩
    rw [← htake, List.take_of_length_le]
    simp; omega
theorem OwnG.lt {w : World} {B g n : Nat} {zs : List Int} (h : OwnG w B g n zs) : g < w.heap.size := by
  obtain ⟨cur, _, hg, _⟩ := h.parts
  exact lt_of_block hg
theorem OwnG.ge {w : World} {B g n : Nat} {zs : List Int} (h : OwnG w B g n zs) : B ≤ g := by
  obtain ⟨cur, hb, _⟩ := h.parts
  exact hb
theorem OwnG.row {w : World} {B g n : Nat} {zs : List Int} (h : OwnG w B g n zs) : Row w g 0 zs := by
  refine ⟨h.lt, fun j hj => ?_⟩
  rw [Nat.zero_add, World.ownsRow.cellAt h.2 j (by have := h.1; omega)]
  simp [hj]
theorem OwnG.free {w : World} {B g n : Nat} {zs : List Int} (h : OwnG w B g n zs) (j : Nat) : w.frozen? ⟨g, j, none⟩ = false := World.ownsRow.frozenAt h.2 j
theorem OwnG.set_ {w : World} {B g n : Nat} {zs : List Int} (h : OwnG w B g n zs) (j : Nat) (x : Int) : OwnG (w.setCell ⟨g, j, none⟩ (.int .i64 x)) B g n (zs.set j x) := by
  have := (World.ownsRow.stored h.2 j (.int .i64 x)).1
  refine ⟨by simpa using h.1, ?_⟩
  rw [List.map_set]
  exact this
theorem OwnG.of_block {w w' : World} {B g n : Nat} {zs : List Int} (h : OwnG w B g n zs) (hk : w'.heap[g]? = w.heap[g]?) : OwnG w' B g n zs := by
  refine ⟨h.1, h.2.1, .inr ?_⟩
  obtain ⟨cur, hb, hg, h1, h2, h3⟩ := h.parts
  exact ⟨g, n, cur, rfl, hb, hk.trans hg, Nat.le_refl _, h1, by omega, by rw [h3, List.take_of_length_le]; simp; have := h.1; omega⟩
theorem OwnG.below {w w' : World} {B g n : Nat} {zs : List Int} (h : OwnG w B g n zs) {B' : Nat} (hb : Below B' w w') (hB : g < B') : OwnG w' B g n zs := h.of_block (hb.block g hB)
theorem OwnG.behind {w w' : World} {B g n : Nat} {zs : List Int} (h : OwnG w B g n zs) (hb : Below w.heap.size w w') : OwnG w' B g n zs := h.below hb h.lt
theorem OwnG.drewN {w : World} {B g n : Nat} {zs : List Int} (h : OwnG w B g n zs) (k : Nat) : OwnG (w.drewN k) B g n zs := h
theorem OwnG.grown {w w' : World} {B g g' n : Nat} {zs : List Int} (h : OwnG w B g' n zs) (hg : w.grownBy w' (some g)) (hne : g' ≠ g) : OwnG w' B g' n zs :=
  h.of_block (hg.block g' h.lt (by simpa using hne))
theorem OwnG.cast {w : World} {B g n : Nat} {zs ys : List Int} (h : OwnG w B g n zs) (e : zs = ys) : OwnG w B g n ys := e ▸ h

/-- The cells of the goods of a list of items. -/
def goodCell (zs : List Int) (j : Nat) : Int := if j % 3 = 0 then wt zs (j / 3) else if j % 3 = 1 then wo zs (j / 3) else ((j / 3 : Nat) : Int)
def goods (zs : List Int) (n : Nat) : List Int := tab (3 * n) (goodCell zs)

/-- The three cells of the good i. -/
theorem OwnG.cells {w : World} {B g n : Nat} {f : Nat → Int} (h : OwnG w B g n (tab (3 * n) f)) (i : Nat) (hi : i < n) :
    w.cell? ⟨g, i * 3, none⟩ = some (.int .i64 (f (3 * i))) ∧ w.cell? ⟨g, i * 3 + 1, none⟩ = some (.int .i64 (f (3 * i + 1))) ∧ w.cell? ⟨g, i * 3 + 2, none⟩ = some (.int .i64 (f (3 * i + 2))) := by
  have hc := fun (j : Nat) (hj : j < 3 * n) => h.row.2 j (by rw [tab_length]; exact hj)
  have h0 := hc (3 * i) (by omega)
  have h1 := hc (3 * i + 1) (by omega)
  have h2 := hc (3 * i + 2) (by omega)
  rw [tab_get _ _ _ (by omega), Nat.zero_add] at h0 h1 h2
  rw [show 3 * i = i * 3 by omega] at h0 h1 h2
  rw [show 3 * i = i * 3 by omega]
  exact ⟨h0, h1, h2⟩
theorem goodCell_at (zs : List Int) (i : Nat) : goodCell zs (3 * i) = wt zs i ∧ goodCell zs (3 * i + 1) = wo zs i ∧ goodCell zs (3 * i + 2) = (i : Int) := by
  unfold goodCell
  refine ⟨?_, ?_, ?_⟩
  · rw [if_pos (by omega), show 3 * i / 3 = i by omega]
  · rw [if_neg (by omega), if_pos (by omega), show (3 * i + 1) / 3 = i by omega]
  · rw [if_neg (by omega), if_neg (by omega), show (3 * i + 2) / 3 = i by omega]
theorem OwnG.goods {w : World} {B g n : Nat} {zs : List Int} (h : OwnG w B g n (goods zs n)) (i : Nat) (hi : i < n) :
    w.cell? ⟨g, i * 3, none⟩ = some (.int .i64 (wt zs i)) ∧ w.cell? ⟨g, i * 3 + 1, none⟩ = some (.int .i64 (wo zs i)) ∧ w.cell? ⟨g, i * 3 + 2, none⟩ = some (.int .i64 (i : Int)) := by
  have hc := OwnG.cells h i hi
  obtain ⟨e0, e1, e2⟩ := goodCell_at zs i
  rwa [e0, e1, e2] at hc

theorem info_good : (Try.prog.info? 49).map (fun i => (i.zero, i.size, i.bytes)) = some (some (.agg #[.int .i64 0, .int .i64 0, .int .i64 0]), 3, 24) := by kernel_rfl

theorem OwnG.made {w : World} {B g n : Nat} (h : w.ownsRow B 49 3 (.slice (some ⟨g, 0, none⟩) n n) n (madeCells (Value.agg #[.int .i64 0, .int .i64 0, .int .i64 0]).cells (n * 3)).toList) : OwnG w B g n (tab (3 * n) (fun _ => 0)) := by
  refine ⟨by rw [tab_length], ?_⟩
  have e : (madeCells (Value.agg #[.int .i64 0, .int .i64 0, .int .i64 0]).cells (n * 3)).toList = (tab (3 * n) (fun _ => (0 : Int))).map (Value.int .i64) := by
    unfold madeCells tab
    apply List.ext_getElem
    · simp; omega
    · intro i h1 h2
      simp [Value.cells]
      have : i % 3 = 0 ∨ i % 3 = 1 ∨ i % 3 = 2 := by omega
      rcases this with e | e | e <;> rw [e] <;> rfl
  rwa [e] at h

theorem goodsOf_any (b off c n : Nat) (zs : List Int) (w : World) (hn : n ≤ 10) (hz : zs.length = 2 * n) (hr : Row w b off zs) :
    Calls Try.prog 46 #[.slice (some ⟨b, off, none⟩) n c] w fun e w' => ∃ G, e = .returned (.slice (some ⟨G, 0, none⟩) n n) ∧ OwnG w' w.heap.size G n (goods zs n) ∧ Below w.heap.size w w' := by
  obtain ⟨i0, hi, hz0, hz1, hz2⟩ := info_parts info_good
  go_enter Try.func46, Try.ntmps46
  go_wp2_with (at_make; refine wpList_make_full _ rfl _ _ 45 rfl w.heap.size 49 i0 (.agg #[.int .i64 0, .int .i64 0, .int .i64 0]) 3 Try.underlying45 hi hz0 hz1 .i64 .i64 _ _ n rfl rfl rfl rfl (by rw [hz2]; omega) (by unfold maxLen; omega) (Nat.le_refl _) ?_; intro w1 hown hgrow)
  have hO : OwnG w1 w.heap.size w.heap.size n (tab (3 * n) (fun x => if x < 3 * 0 then goodCell zs x else 0)) := (OwnG.made hown).cast (tab_congr fun i hi => by rw [if_neg (by omega)])
  have hB : Below w.heap.size w w1 := (Below.refl _ w).grown hgrow (Nat.le_refl _) (by simp)
  have HO := Lib.hid hO
  have HB := Lib.hid hB
  clear hown hgrow hO hB
  go_loopw [11] (fun i wr => ∃ k : Nat, k ≤ n ∧ i = .int .i64 k ∧ OwnG wr w.heap.size w.heap.size n (tab (3 * n) (fun x => if x < 3 * k then goodCell zs x else 0)) ∧ Below w.heap.size w wr) (fun i _ => n - (intOf i).toNat)
  case atStart => exact ⟨0, Nat.zero_le _, rfl, HO.out, HB.out⟩
  case round =>
    clear HO HB
    obtain ⟨k, hk, rfl, hO, hB⟩ := hrel
    by_cases hlt : k < n
    · have hcell := Row.wt (hr.behind hB) hz k hlt
      have hcell' := Row.wo (hr.behind hB) hz k hlt
      obtain ⟨x, hx⟩ : ∃ x, wt zs k = x := ⟨_, rfl⟩
      obtain ⟨y, hy⟩ : ∃ y, wo zs k = y := ⟨_, rfl⟩
      obtain ⟨d0, d1, d2⟩ := OwnG.cells hO k hlt
      have f0 := hO.free (k * 3)
      have f1 := hO.free (k * 3 + 1)
      have f2 := hO.free (k * 3 + 2)
      have hz := hB.size
      have hlt2 := hO.lt
      rw [hx] at hcell
      rw [hy] at hcell'
      have HX := Lib.hid hx
      have HY := Lib.hid hy
      have hst := ((hO.set_ (k * 3) x).set_ (k * 3 + 1) y).set_ (k * 3 + 2) (k : Int)
      have HST := Lib.hid (hst.behind (Below.alloc (Below.refl _ _) (Nat.le_refl _) (.cells #[.int .i64 x, .int .i64 y] 30)))
      have hb3 := ((hB.setCell (p := ⟨w.heap.size, k * 3, none⟩) (Nat.le_refl _) (.int .i64 x)).setCell (p := ⟨w.heap.size, k * 3 + 1, none⟩) (Nat.le_refl _) (.int .i64 y)).setCell (p := ⟨w.heap.size, k * 3 + 2, none⟩) (Nat.le_refl _) (.int .i64 (k : Int))
      have HBA := Lib.hid (hb3.alloc hb3.size (.cells #[.int .i64 x, .int .i64 y] 30))
      clear hb3
      clear hx hy hO hB hr hst
      go_wp2
      go_roundw
      case rel =>
        refine ⟨k + 1, by omega, by go_num, HST.out.cast ?_, HBA.out⟩
        rw [tab_set, tab_set, tab_set]
        refine tab_congr fun i hi => ?_
        obtain ⟨e0, e1, e2⟩ := goodCell_at zs k
        rw [HX.out] at e0
        rw [HY.out] at e1
        rw [show 3 * k = k * 3 by omega] at e0 e1 e2
        by_cases h2 : i = k * 3 + 2
        · rw [if_pos h2, if_pos (by omega), h2, e2]
        · rw [if_neg h2]
          by_cases h1 : i = k * 3 + 1
          · rw [if_pos h1, if_pos (by omega), h1, e1]
          · rw [if_neg h1]
            by_cases h0 : i = k * 3
            · rw [if_pos h0, if_pos (by omega), h0, e0]
            · rw [if_neg h0]
              by_cases hl : i < 3 * k
              · rw [if_pos hl, if_pos (by omega)]
              · rw [if_neg hl, if_neg (by omega)]
      case measure => simp [intOf]; omega
    · obtain rfl : k = n := by omega
      go_wp2
      go_ret
      exact ⟨_, rfl, hO.cast (tab_congr fun i hi => by rw [if_pos hi]), hB⟩


end Go.Proofs.Ytfcnlfcjcmpkcaa
