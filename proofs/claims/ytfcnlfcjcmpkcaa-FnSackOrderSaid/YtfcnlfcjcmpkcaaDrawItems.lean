/- The drawn list of items. -/
import Derived.Test.YtfcnlfcjcmpkcaaDraw
import Derived.Test.YtfcnlfcjcmpkcaaItems
import Derived.Maps.AppendAt
import Derived.Deep.AppendLies
namespace Go.Proofs.Ytfcnlfcjcmpkcaa
open Go.RowKit
set_option maxHeartbeats 1000000

/-- A list of n items of the call's own, with room for c. -/
def OwnC (w : World) (B g n c : Nat) (zs : List Int) : Prop :=
  zs.length = 2 * n ∧ w.ownsRow B 30 2 (.slice (some ⟨g, 0, none⟩) n c) n (zs.map (Value.int .i64))
theorem OwnC.parts {w : World} {B g n c : Nat} {zs : List Int} (h : OwnC w B g n c zs) : ∃ cur, B ≤ g ∧ w.heap[g]? = some (.cells cur 30 (0, 0)) ∧ n ≤ c ∧ c ≤ maxLen ∧ cur.size = c * 2 ∧ cur.toList.take (n * 2) = zs.map (Value.int .i64) := by
  obtain ⟨hz, hh⟩ := h
  rcases hh.2 with ⟨h', _⟩ | ⟨g', cap', cur, h', hb, hg, hnc, hcm, hcs, htake⟩
  · simp at h'
  · simp only [Value.slice.injEq, Option.some.injEq, Addr.mk.injEq, and_true, true_and] at h'
    obtain ⟨rfl, rfl⟩ := h'
    exact ⟨cur, hb, hg, hnc, hcm, hcs, htake⟩
theorem OwnC.lt {w : World} {B g n c : Nat} {zs : List Int} (h : OwnC w B g n c zs) : g < w.heap.size := by
  obtain ⟨cur, _, hg, _⟩ := h.parts
  exact lt_of_block hg
theorem OwnC.ge {w : World} {B g n c : Nat} {zs : List Int} (h : OwnC w B g n c zs) : B ≤ g := by
  obtain ⟨cur, hb, _⟩ := h.parts
  exact hb
theorem OwnC.row {w : World} {B g n c : Nat} {zs : List Int} (h : OwnC w B g n c zs) : Row w g 0 zs := by
  refine ⟨h.lt, fun j hj => ?_⟩
  rw [Nat.zero_add, World.ownsRow.cellAt h.2 j (by have := h.1; omega)]
  simp [hj]
theorem OwnC.of_block {w w' : World} {B g n c : Nat} {zs : List Int} (h : OwnC w B g n c zs) (hk : w'.heap[g]? = w.heap[g]?) : OwnC w' B g n c zs := by
  refine ⟨h.1, h.2.1, .inr ?_⟩
  obtain ⟨cur, hb, hg, h1, h2, h3, h4⟩ := h.parts
  exact ⟨g, c, cur, rfl, hb, hk.trans hg, h1, h2, h3, h4⟩
theorem OwnC.behind {w w' : World} {B g n c : Nat} {zs : List Int} (h : OwnC w B g n c zs) (hb : Below w.heap.size w w') : OwnC w' B g n c zs := h.of_block (hb.block g h.lt)
theorem OwnC.drewN {w : World} {B g n c : Nat} {zs : List Int} (h : OwnC w B g n c zs) (k : Nat) : OwnC (w.drewN k) B g n c zs := h
theorem OwnC.grown {w w' : World} {B g g' n c : Nat} {zs : List Int} (h : OwnC w B g' n c zs) (hg : w.grownBy w' (some g)) (hne : g' ≠ g) : OwnC w' B g' n c zs :=
  h.of_block (hg.block g' h.lt (by simpa using hne))
theorem OwnC.alloc {w : World} {B g n c : Nat} {zs : List Int} (h : OwnC w B g n c zs) (o : Obj) : OwnC (w.alloc o) B g n c zs := h.behind ((Below.refl _ w).alloc (Nat.le_refl _) o)
theorem ownC_empty (w : World) (B : Nat) (hB : B ≤ w.heap.size) : OwnC (w.alloc (.cells #[] 30)) B w.heap.size 0 0 [] :=
  ⟨rfl, World.ownsRow_lit w #[] 0 hB (Nat.zero_le _) rfl⟩
/-- Behind an append of one item. -/
theorem ownC_appended {a w w1 : World} {B B' g n c : Nat} {L : List Int} {x y : Int} {v' : Value} {o : Obj} (h : OwnC w B g n c L)
    (hown' : w1.ownsRow B 30 2 v' (n + 1) (L.map (Value.int .i64) ++ [.int .i64 x, .int .i64 y])) (hg : (w.alloc o).grownBy w1 (Value.slice (some ⟨g, 0, none⟩) n c).ownBlock) (hB : Below B' a w) (hBB : B' ≤ B) (hBw : B ≤ w.heap.size) :
    ∃ g' c', v' = .slice (some ⟨g', 0, none⟩) (n + 1) c' ∧ OwnC w1 B g' (n + 1) c' (L ++ [x, y]) ∧ Below B' a w1 := by
  obtain ⟨g', cap', rfl⟩ := ownsRow_succ hown'
  refine ⟨g', cap', rfl, ⟨by rw [List.length_append, h.1]; simp; omega, ?_⟩, ?_⟩
  · rw [List.map_append]; exact hown'
  · exact (hB.alloc (by omega) o).grown hg (by simp; omega) (fun k e => by
      have e' : g = k := by simpa [Value.ownBlock] using e
      subst e'; have := h.ge; omega)
theorem Below.grown_br {a w w' : World} {row : Option Nat} (h : a.grownBy w row) (hb : Below a.heap.size w w') : a.grownBy w' row := grown_low h hb
theorem mul_small {a b : Nat} (ha : a < 12) (hb : b < 3) : 0 ≤ (1 + (a : Int)) * (b : Int) ∧ (1 + (a : Int)) * (b : Int) ≤ 24 := by
  rcases (by omega : b = 0 ∨ b = 1 ∨ b = 2) with rfl | rfl | rfl <;> simp <;> omega

theorem l91Items_any (br : Nat) (A : Option Addr) (n c : Nat) (zs : List Int) (p : Nat) (w : World) (hp : p ≤ 10000) (h : Rd w br A n c zs p) (hbr : br < w.heap.size) :
    Calls Try.prog 44 #[.pointer (some ⟨br, 0, none⟩)] w fun e w' =>
      ∃ (g c' k : Nat) (L : List Int), e = .returned (.slice (some ⟨g, 0, none⟩) k c') ∧ OwnC w' w.heap.size g k c' L ∧ k ≤ 9 ∧ (∃ p', Rd w' br A n c zs p' ∧ p' ≤ p + 40) ∧ w.grownBy w' (some br) := by
  obtain ⟨i0, hi, hz0, hz1, hz2⟩ := info_parts info_item
  have hb0 : Below w.heap.size w (w.alloc (.cells #[] 30)) := by go_grown
  have hR := h.low hb0 hbr
  have hG : w.grownBy (w.alloc (.cells #[] 30)) (some br) := World.grownBy_alloc _ _ _
  have hO0 := ownC_empty w w.heap.size (Nat.le_refl _)
  have HH := Lib.hid h
  clear h hb0
  go_enter Try.func44, Try.ntmps44
  go_wp2_with (go_at_call 51; refine (pick_any _ _ _ _ _ _ 8 _ (by omega) (by omega) (by omega) hR).mono ?_; rintro e w1 ⟨v, rfl, hv, hR1, hG1⟩)
  have hO1 := hO0.grown hG1 (Nat.ne_of_gt hbr)
  have hG2 := grown_trans hG hG1
  have HS := Lib.hid (And.intro hO1 (And.intro hR1 hG2))
  clear hO0 hO1 hR hR1 hG hG1 hG2
  go_loopw [5, 3] (fun i s wr => ∃ (k p1 g c1 : Nat) (L : List Int), k ≤ v ∧ i = .int .i64 k ∧ s = .slice (some ⟨g, 0, none⟩) k c1 ∧ p1 ≤ p + 1 + 3 * k ∧ OwnC wr w.heap.size g k c1 L ∧ Rd wr br A n c zs p1 ∧ w.grownBy wr (some br)) (fun i _ _ => v - (intOf i).toNat)
  case atStart => exact ⟨0, p + 1, w.heap.size, 0, [], Nat.zero_le _, rfl, rfl, by omega, HS.out⟩
  case round =>
    clear HS
    obtain ⟨k, p1, g, c1, L, hk, rfl, rfl, hp1, hO, hR2, hG2⟩ := hrel
    have hgb : g ≠ br := by have := hO.ge; omega
    by_cases hlt : k < v
    · have HO := Lib.hid hO
      have HG2 := Lib.hid hG2
      clear hO hG2
      go_wp2_with (first
        | (go_at_call_of 51 (Value.int .i64 12); refine (pick_any _ _ _ _ _ _ 12 _ (by omega) (by omega) (by omega) hR2).mono ?_; rintro e w2 ⟨a, rfl, ha, hR3, hG3⟩)
        | (go_at_call_of 51 (Value.int .i64 3); refine (pick_any _ _ _ _ _ _ 3 _ (by omega) (by omega) (by omega) hR3).mono ?_; rintro e w3 ⟨b, rfl, hb, hR4, hG4⟩; obtain ⟨hm1, hm2⟩ := mul_small ha hb)
        | (go_at_call_of 51 (Value.int .i64 10); refine (pick_any _ _ _ _ _ _ 10 _ (by omega) (by omega) (by omega) hR4).mono ?_; rintro e w4 ⟨d, rfl, hd, hR5, hG5⟩; have hGT := grown_trans (grown_trans (grown_trans HG2.out hG3) hG4) hG5; have hO4 := ((HO.out.grown hG3 hgb).grown hG4 hgb).grown hG5 hgb; have hs4 := hGT.size; have hl4 := hO4.1)
        | (at_builtin; refine wpList_append_own _ rfl _ _ 23 rfl w.heap.size 30 i0 (.agg #[.int .i64 0, .int .i64 0]) 2 16 Try.underlying23 hi hz0 hz1 hz2 rfl (by decide) _ _ _ rfl (hO4.alloc _).2 ⟨w4.heap.size, 0, none⟩ 1 1 [.int .i64 (1 + (a : Int)), .int .i64 ((1 + (a : Int)) * (b : Int) + (d : Int))] rfl rfl (World.news_of_block (heap_last2 _ _)) (by simp [Value.oneCell']) (by unfold maxLen; omega) (by omega) (by simp; omega) ?_; intro v' w5 hown' hgrow _; obtain ⟨g2, c2, rfl, hO5, hB5⟩ := ownC_appended hO4 hown' hgrow (Below.refl w.heap.size w4) (Nat.le_refl _) hs4; have HF := Lib.hid (And.intro hO5 (And.intro (hR5.low hB5 hbr) (grown_low hGT hB5)))))
      go_roundw
      case rel => exact ⟨k + 1, p1 + 1 + 1 + 1, g2, c2, _, by omega, by go_num, rfl, by omega, HF.out⟩
      case measure => simp [intOf]; omega
    · obtain rfl : k = v := by omega
      go_wp2_with fail
      refine (pick_any _ _ _ _ _ _ 40 _ (by omega) (by omega) (by omega) hR2).mono ?_
      rintro e w3 ⟨b, rfl, hb, hR3, hG3⟩
      have hO3 := hO.grown hG3 hgb
      have hGT := grown_trans hG2 hG3
      have hs3 := hGT.size
      have hl3 := hO3.1
      by_cases hb0 : b = 0
      · have q1 : decide ((b : Int) = 0) = true := by simp [hb0]
        have q2 : ((b : Int) == 0) = true := by simp [hb0]
        clear hb0
        go_wp2_with (at_builtin; refine wpList_append_own _ rfl _ _ 23 rfl w.heap.size 30 i0 (.agg #[.int .i64 0, .int .i64 0]) 2 16 Try.underlying23 hi hz0 hz1 hz2 rfl (by decide) _ _ _ rfl (hO3.alloc _).2 ⟨w3.heap.size, 0, none⟩ 1 1 [.int .i64 0, .int .i64 1] rfl rfl (World.news_of_block (heap_last2 _ _)) (by simp [Value.oneCell']) (by unfold maxLen; omega) (by omega) (by simp; omega) ?_; intro v' w5 hown' hgrow _; obtain ⟨g2, c2, rfl, hO5, hB5⟩ := ownC_appended hO3 hown' hgrow (Below.refl w.heap.size w3) (Nat.le_refl _) hs3)
        go_ret
        exact ⟨g2, c2, k + 1, _, rfl, hO5, by omega, ⟨_, hR3.low hB5 hbr, by omega⟩, grown_low hGT hB5⟩
      · have q1 : decide ((b : Int) = 0) = false := by simp [hb0]
        have q2 : ((b : Int) == 0) = false := by simp [hb0]
        clear hb0
        go_wp2
        go_ret
        exact ⟨g, c1, k, _, rfl, hO3, by omega, ⟨_, hR3, by omega⟩, hGT⟩

end Go.Proofs.Ytfcnlfcjcmpkcaa
