/- The drawn list of numbers. -/
import Derived.Test.YtbechpbfefdmgaaDraw
import Derived.Maps.AppendAt
import Derived.Deep.AppendLies
import Derived.Deep.RegionWith
namespace Go.Proofs.Ytbechpbfefdmgaa
open Go.RowKit
set_option maxHeartbeats 1000000

/-- A drawn list: its numbers lie in -1 .. 61. -/
def drawn (L : List Int) : Prop := ∀ j : Nat, -1 ≤ L[j]?.getD 0 ∧ L[j]?.getD 0 ≤ 61
theorem drawn_nil : drawn [] := fun j => by simp
theorem drawn_snoc {L : List Int} {v : Int} (h : drawn L) (h1 : -1 ≤ v) (h2 : v ≤ 61) : drawn (L ++ [v]) := by
  intro j
  rcases Nat.lt_trichotomy j L.length with e | e | e
  · rw [List.getElem?_append_left e]; exact h j
  · subst e; simp; omega
  · rw [List.getElem?_eq_none (by simp; omega)]; simp

theorem Rd.lt {w : World} {br : Nat} {A : Option Addr} {n c : Nat} {zs : List Int} {p : Nat} (h : Rd w br A n c zs p) : br < w.heap.size := lt_of_block h.1
theorem three_cells {w : World} {B : Nat} {x y z : Int} {t : TypeId} {fr : Nat × Nat} (h : w.heap[B]? = some (.cells #[.int .i64 x, .int .i64 y, .int .i64 z] t fr)) (b : Nat) (hb : b < 3) : w.cell? ⟨B, b, none⟩ = some (.int .i64 ([x, y, z][b]?.getD 0)) := by
  rcases (by omega : b = 0 ∨ b = 1 ∨ b = 2) with rfl | rfl | rfl <;> simp [World.cell?, h]

/-- What the reader's list shows at each step. -/
def Drew (w wr : World) (br : Nat) (A : Option Addr) (n c : Nat) (zs : List Int) (p1 g c1 : Nat) (L : List Int) : Prop :=
  Owns wr w.heap.size g c1 L ∧ drawn L ∧ Rd wr br A n c zs p1 ∧ w.grownBy wr (some br)

theorem l91List_any (br : Nat) (A : Option Addr) (n c : Nat) (zs : List Int) (p most great : Nat) (w : World) (hm : most ≤ 10) (hg1 : 1 ≤ great) (hg2 : great ≤ 60) (hp : p ≤ 10000) (h : Rd w br A n c zs p) :
    Calls Try.prog 43 #[.pointer (some ⟨br, 0, none⟩), .int .i64 (most : Int), .int .i64 (great : Int)] w fun e w' =>
      ∃ (g c' p' : Nat) (L : List Int), e = .returned (.slice (some ⟨g, 0, none⟩) L.length c') ∧ L.length ≤ most + 1 ∧ p' ≤ p + 40 ∧ Drew w w' br A n c zs p' g c' L := by
  obtain ⟨i0, hi, hz0, hz1, hz2⟩ := info_parts info_int
  have hbr := h.lt
  have hO := owns_empty w w.heap.size (Nat.le_refl _)
  have hb0 : Below w.heap.size w (w.alloc (.cells #[] 3)) := by go_grown
  have hR := h.low hb0 hbr
  have hG : w.grownBy (w.alloc (.cells #[] 3)) (some br) := World.grownBy_alloc _ _ _
  clear h hb0
  go_enter Try.func43, Try.ntmps43
  go_wp2_with fail
  have hpk := pick_any br A n c zs p (most + 1) _ (by omega) (by omega) (by omega) hR
  rw [show ((most + 1 : Nat) : Int) = (most : Int) + 1 by omega] at hpk
  refine hpk.mono ?_
  clear hpk
  rintro e w1 ⟨v, rfl, hv, hR1, hG1⟩
  go_wp2_with fail
  refine (pick_any br A n c zs (p + 1) 4 _ (by omega) (by omega) (by omega) hR1).mono ?_
  rintro e w2 ⟨kd, rfl, hkd, hR2, hG2⟩
  have hO2 := (hO.grown hG1 (Nat.ne_of_gt hbr)).grown hG2 (Nat.ne_of_gt hbr)
  have hGT := grown_trans (grown_trans hG hG1) hG2
  have HS : Drew w w2 br A n c zs (p + 1 + 1) w.heap.size 0 [] := ⟨hO2, drawn_nil, hR2, hGT⟩
  clear hO hO2 hR hR1 hR2 hG hG1 hG2 hGT
  rcases (by omega : kd = 0 ∨ kd = 1 ∨ kd = 2 ∨ kd = 3) with rfl | rfl | rfl | rfl
  · go_wp2
    go_loopw [10, 7] (fun i s wr => ∃ (k p1 g c1 : Nat) (L : List Int), k ≤ v ∧ i = .int .i64 k ∧ s = .slice (some ⟨g, 0, none⟩) k c1 ∧ L.length = k ∧ p1 ≤ p + 2 + 2 * k ∧ Drew w wr br A n c zs p1 g c1 L) (fun i _ _ => v - (intOf i).toNat)
    case atStart => exact ⟨0, p + 1 + 1, w.heap.size, 0, [], Nat.zero_le _, rfl, rfl, rfl, by omega, HS⟩
    case round =>
      clear HS
      obtain ⟨k, p1, g, c1, L, hk, rfl, rfl, hLk, hp1, hO, hD, hR, hG⟩ := hrel
      have hgb : g ≠ br := by have := hO.ge; omega
      subst hLk
      have HD := Lib.hid hD
      clear hD
      by_cases hlt : L.length < v
      · go_wp2_with fail
        refine (pick_any br A n c zs p1 great _ (by omega) (by omega) (by omega) hR).mono ?_
        rintro e w3 ⟨a, rfl, ha, hR3, hG3⟩
        have hO3 := hO.grown hG3 hgb
        have hGT := grown_trans hG hG3
        have hs3 := hGT.size
        have HO3 := Lib.hid hO3
        have HGT := Lib.hid hGT
        have HR3 := Lib.hid hR3
        clear hO hR hG hR3 hG3 hO3 hGT
        go_wp2_with (at_builtin; refine wpList_append_own _ rfl _ _ 22 rfl w.heap.size 3 i0 (.int .i64 0) 1 8 Try.underlying22 hi hz0 hz1 hz2 rfl (by decide) _ _ _ rfl (HO3.out.alloc _) ⟨w3.heap.size, 0, none⟩ 1 1 [.int .i64 (1 + (a : Int))] rfl rfl (cell_one_new _ _ _) (by simp [Value.oneCell']) (by unfold maxLen; omega) (by omega) (by simp; omega) ?_; intro v' w5 hown' hgrow _; obtain ⟨g2, c2, rfl, hO5, hB5⟩ := owns_appended HO3.out hown' hgrow (Below.refl w.heap.size w3) (Nat.le_refl _) hs3; have hF : Drew w w5 br A n c zs (p1 + 1) g2 c2 (L ++ [(1 + (a : Int))]) := ⟨hO5, drawn_snoc HD.out (by omega) (by omega), HR3.out.low hB5 hbr, grown_low HGT.out hB5⟩; have HF := Lib.hid hF; clear hF)
        go_roundw
        case rel => exact ⟨L.length + 1, _, g2, c2, _, by omega, by go_num, rfl, by rw [List.length_append]; rfl, by omega, HF.out⟩
        case measure => simp [intOf]; omega
      · obtain rfl : L.length = v := by omega
        go_wp2_with fail
        refine (pick_any br A n c zs p1 40 _ (by omega) (by omega) (by omega) hR).mono ?_
        rintro e w3 ⟨b, rfl, hb, hR3, hG3⟩
        have hO3 := hO.grown hG3 hgb
        have hGT := grown_trans hG hG3
        have hs3 := hGT.size
        have hD := HD.out
        by_cases hb0 : b = 0
        · have q1 : decide ((b : Int) = 0) = true := by simp [hb0]
          have q2 : ((b : Int) == 0) = true := by simp [hb0]
          clear hb0
          have hRa := hR3.behind ((Below.refl _ w3).alloc (Nat.le_refl _) (.cells #[.int .i64 0, .int .i64 61, .int .i64 (-1)] 3))
          go_wp2_with fail
          refine (pick_any br A n c zs (p1 + 1) 3 _ (by omega) (by omega) (by omega) hRa).mono ?_
          rintro e w4 ⟨d, rfl, hd, hR4, hG4⟩
          have hg3 := hO3.lt
          have hbr3 := hR3.lt
          have hB4 : (w3.alloc (.cells #[.int .i64 0, .int .i64 61, .int .i64 (-1)] 3)).heap.size ≤ w4.heap.size := hG4.size
          have hc4 := three_cells (x := 0) (y := 61) (z := -1) ((hG4.block w3.heap.size (by simp) (by simp; omega)).trans (heap_last2 w3 _)) d hd
          have hv4 : ∃ x : Int, [0, 61, -1][d]?.getD 0 = x ∧ -1 ≤ x ∧ x ≤ 61 := by
            rcases (by omega : d = 0 ∨ d = 1 ∨ d = 2) with rfl | rfl | rfl <;> exact ⟨_, rfl, by decide, by decide⟩
          obtain ⟨x, hx, hx1, hx2⟩ := hv4
          rw [hx] at hc4
          have hO4 := (hO3.alloc (.cells #[.int .i64 0, .int .i64 61, .int .i64 (-1)] 3)).grown hG4 hgb
          have hGT4 := grown_trans (grown_low hGT ((Below.refl w.heap.size w3).alloc hs3 (.cells #[.int .i64 0, .int .i64 61, .int .i64 (-1)] 3))) hG4
          have hs4 := hGT4.size
          clear hx
          go_wp2_with (at_builtin; refine wpList_append_own _ rfl _ _ 22 rfl w.heap.size 3 i0 (.int .i64 0) 1 8 Try.underlying22 hi hz0 hz1 hz2 rfl (by decide) _ _ _ rfl (hO4.alloc _) ⟨w4.heap.size, 0, none⟩ 1 1 [.int .i64 x] rfl rfl (cell_one_new _ _ _) (by simp [Value.oneCell']) (by unfold maxLen; omega) (by omega) (by simp; omega) ?_; intro v' w5 hown' hgrow _; obtain ⟨g2, c2, rfl, hO5, hB5⟩ := owns_appended hO4 hown' hgrow (Below.refl w.heap.size w4) (Nat.le_refl _) hs4)
          go_ret
          exact ⟨g2, c2, p1 + 1 + 1, L ++ [x], by rw [List.length_append]; rfl, by rw [List.length_append]; simp; omega, by omega, hO5, drawn_snoc hD hx1 hx2, hR4.low hB5 hbr, grown_low hGT4 hB5⟩
        · have q1 : decide ((b : Int) = 0) = false := by simp [hb0]
          have q2 : ((b : Int) == 0) = false := by simp [hb0]
          clear hb0
          go_wp2
          go_ret
          exact ⟨g, c1, p1 + 1, L, rfl, by omega, by omega, hO3, hD, hR3, hGT⟩
  · go_wp2
    go_loopw [10, 7] (fun i s wr => ∃ (k p1 g c1 : Nat) (L : List Int), k ≤ v ∧ i = .int .i64 k ∧ s = .slice (some ⟨g, 0, none⟩) k c1 ∧ L.length = k ∧ p1 ≤ p + 2 + 2 * k ∧ Drew w wr br A n c zs p1 g c1 L) (fun i _ _ => v - (intOf i).toNat)
    case atStart => exact ⟨0, p + 1 + 1, w.heap.size, 0, [], Nat.zero_le _, rfl, rfl, rfl, by omega, HS⟩
    case round =>
      clear HS
      obtain ⟨k, p1, g, c1, L, hk, rfl, rfl, hLk, hp1, hO, hD, hR, hG⟩ := hrel
      have hgb : g ≠ br := by have := hO.ge; omega
      subst hLk
      have HD := Lib.hid hD
      clear hD
      by_cases hlt : L.length < v
      · go_wp2_with fail
        refine (pick_any br A n c zs p1 great _ (by omega) (by omega) (by omega) hR).mono ?_
        rintro e w3 ⟨a, rfl, ha, hR3, hG3⟩
        have hO3 := hO.grown hG3 hgb
        have hGT := grown_trans hG hG3
        have hs3 := hGT.size
        clear hO hR hG hG3
        go_wp2_with fail
        refine (pick_any br A n c zs (p1 + 1) 4 _ (by omega) (by omega) (by omega) hR3).mono ?_
        rintro e w4 ⟨b, rfl, hb, hR4, hG4⟩
        have HO3 := Lib.hid (hO3.grown hG4 hgb)
        have HGT := Lib.hid (grown_trans hGT hG4)
        have hs4 := HGT.out.size
        clear hs3
        have hs3 := hs4
        have HR3 := Lib.hid hR4
        clear hR3 hO3 hGT hR4 hG4 hs4
        go_wp2_with (at_builtin; refine wpList_append_own _ rfl _ _ 22 rfl w.heap.size 3 i0 (.int .i64 0) 1 8 Try.underlying22 hi hz0 hz1 hz2 rfl (by decide) _ _ _ rfl (HO3.out.alloc _) ⟨w4.heap.size, 0, none⟩ 1 1 [.int .i64 (1 + (b : Int))] rfl rfl (cell_one_new _ _ _) (by simp [Value.oneCell']) (by unfold maxLen; omega) (by omega) (by simp; omega) ?_; intro v' w5 hown' hgrow _; obtain ⟨g2, c2, rfl, hO5, hB5⟩ := owns_appended HO3.out hown' hgrow (Below.refl w.heap.size w4) (Nat.le_refl _) hs3; have hF : Drew w w5 br A n c zs (p1 + 1 + 1) g2 c2 (L ++ [(1 + (b : Int))]) := ⟨hO5, drawn_snoc HD.out (by omega) (by omega), HR3.out.low hB5 hbr, grown_low HGT.out hB5⟩; have HF := Lib.hid hF; clear hF)
        go_roundw
        case rel => exact ⟨L.length + 1, _, g2, c2, _, by omega, by go_num, rfl, by rw [List.length_append]; rfl, by omega, HF.out⟩
        case measure => simp [intOf]; omega
      · obtain rfl : L.length = v := by omega
        go_wp2_with fail
        refine (pick_any br A n c zs p1 40 _ (by omega) (by omega) (by omega) hR).mono ?_
        rintro e w3 ⟨b, rfl, hb, hR3, hG3⟩
        have hO3 := hO.grown hG3 hgb
        have hGT := grown_trans hG hG3
        have hs3 := hGT.size
        have hD := HD.out
        by_cases hb0 : b = 0
        · have q1 : decide ((b : Int) = 0) = true := by simp [hb0]
          have q2 : ((b : Int) == 0) = true := by simp [hb0]
          clear hb0
          have hRa := hR3.behind ((Below.refl _ w3).alloc (Nat.le_refl _) (.cells #[.int .i64 0, .int .i64 61, .int .i64 (-1)] 3))
          go_wp2_with fail
          refine (pick_any br A n c zs (p1 + 1) 3 _ (by omega) (by omega) (by omega) hRa).mono ?_
          rintro e w4 ⟨d, rfl, hd, hR4, hG4⟩
          have hg3 := hO3.lt
          have hbr3 := hR3.lt
          have hB4 : (w3.alloc (.cells #[.int .i64 0, .int .i64 61, .int .i64 (-1)] 3)).heap.size ≤ w4.heap.size := hG4.size
          have hc4 := three_cells (x := 0) (y := 61) (z := -1) ((hG4.block w3.heap.size (by simp) (by simp; omega)).trans (heap_last2 w3 _)) d hd
          have hv4 : ∃ x : Int, [0, 61, -1][d]?.getD 0 = x ∧ -1 ≤ x ∧ x ≤ 61 := by
            rcases (by omega : d = 0 ∨ d = 1 ∨ d = 2) with rfl | rfl | rfl <;> exact ⟨_, rfl, by decide, by decide⟩
          obtain ⟨x, hx, hx1, hx2⟩ := hv4
          rw [hx] at hc4
          have hO4 := (hO3.alloc (.cells #[.int .i64 0, .int .i64 61, .int .i64 (-1)] 3)).grown hG4 hgb
          have hGT4 := grown_trans (grown_low hGT ((Below.refl w.heap.size w3).alloc hs3 (.cells #[.int .i64 0, .int .i64 61, .int .i64 (-1)] 3))) hG4
          have hs4 := hGT4.size
          clear hx
          go_wp2_with (at_builtin; refine wpList_append_own _ rfl _ _ 22 rfl w.heap.size 3 i0 (.int .i64 0) 1 8 Try.underlying22 hi hz0 hz1 hz2 rfl (by decide) _ _ _ rfl (hO4.alloc _) ⟨w4.heap.size, 0, none⟩ 1 1 [.int .i64 x] rfl rfl (cell_one_new _ _ _) (by simp [Value.oneCell']) (by unfold maxLen; omega) (by omega) (by simp; omega) ?_; intro v' w5 hown' hgrow _; obtain ⟨g2, c2, rfl, hO5, hB5⟩ := owns_appended hO4 hown' hgrow (Below.refl w.heap.size w4) (Nat.le_refl _) hs4)
          go_ret
          exact ⟨g2, c2, p1 + 1 + 1, L ++ [x], by rw [List.length_append]; rfl, by rw [List.length_append]; simp; omega, by omega, hO5, drawn_snoc hD hx1 hx2, hR4.low hB5 hbr, grown_low hGT4 hB5⟩
        · have q1 : decide ((b : Int) = 0) = false := by simp [hb0]
          have q2 : ((b : Int) == 0) = false := by simp [hb0]
          clear hb0
          go_wp2
          go_ret
          exact ⟨g, c1, p1 + 1, L, rfl, by omega, by omega, hO3, hD, hR3, hGT⟩
  · go_wp2
    go_loopw [10, 7] (fun i s wr => ∃ (k p1 g c1 : Nat) (L : List Int), k ≤ v ∧ i = .int .i64 k ∧ s = .slice (some ⟨g, 0, none⟩) k c1 ∧ L.length = k ∧ p1 ≤ p + 2 + 2 * k ∧ Drew w wr br A n c zs p1 g c1 L) (fun i _ _ => v - (intOf i).toNat)
    case atStart => exact ⟨0, p + 1 + 1, w.heap.size, 0, [], Nat.zero_le _, rfl, rfl, rfl, by omega, HS⟩
    case round =>
      clear HS
      obtain ⟨k, p1, g, c1, L, hk, rfl, rfl, hLk, hp1, hO, hD, hR, hG⟩ := hrel
      have hgb : g ≠ br := by have := hO.ge; omega
      subst hLk
      have HD := Lib.hid hD
      clear hD
      by_cases hlt : L.length < v
      · go_wp2_with fail
        refine (pick_any br A n c zs p1 great _ (by omega) (by omega) (by omega) hR).mono ?_
        rintro e w3 ⟨a, rfl, ha, hR3, hG3⟩
        have hO3 := hO.grown hG3 hgb
        have hGT := grown_trans hG hG3
        have hs3 := hGT.size
        have HO3 := Lib.hid hO3
        have HGT := Lib.hid hGT
        have HR3 := Lib.hid hR3
        clear hO hR hG hR3 hG3 hO3 hGT
        obtain ⟨m, hm6, hm5⟩ : ∃ m : Nat, (L.length : Int) % 6 = (m : Int) ∧ m ≤ 5 := ⟨L.length % 6, by omega, by omega⟩
        obtain ⟨N, hN, hN1, hN2, hN3⟩ := pow_walk m (by omega)
        have hN4 : N ≤ 32 := by rw [← hN]; exact Nat.pow_le_pow_right (n := 2) (by omega) hm5
        clear hN hN2
        obtain ⟨Z, hZ, hZ1, hZ2⟩ : ∃ Z : Int, (N : Int) = Z ∧ 1 ≤ Z ∧ Z ≤ 32 := ⟨_, rfl, by clear hN3; omega, by clear hN3; omega⟩
        rw [hZ] at hN3
        clear hZ hN1 hN4
        by_cases hZg : Z < (great : Int)
        · go_wp2_with (at_builtin; refine wpList_append_own _ rfl _ _ 22 rfl w.heap.size 3 i0 (.int .i64 0) 1 8 Try.underlying22 hi hz0 hz1 hz2 rfl (by decide) _ _ _ rfl (HO3.out.alloc _) ⟨w3.heap.size, 0, none⟩ 1 1 [.int .i64 Z] rfl rfl (cell_one_new _ _ _) (by simp [Value.oneCell']) (by unfold maxLen; omega) (by omega) (by simp; omega) ?_; intro v' w5 hown' hgrow _; obtain ⟨g2, c2, rfl, hO5, hB5⟩ := owns_appended HO3.out hown' hgrow (Below.refl w.heap.size w3) (Nat.le_refl _) hs3; have hF : Drew w w5 br A n c zs (p1 + 1) g2 c2 (L ++ [Z]) := ⟨hO5, drawn_snoc HD.out (by omega) (by omega), HR3.out.low hB5 hbr, grown_low HGT.out hB5⟩; have HF := Lib.hid hF; clear hF)
          go_roundw
          case rel => exact ⟨L.length + 1, _, g2, c2, _, by omega, by go_num, rfl, by rw [List.length_append]; rfl, by omega, HF.out⟩
          case measure => simp [intOf]; omega
        · go_wp2_with (at_builtin; refine wpList_append_own _ rfl _ _ 22 rfl w.heap.size 3 i0 (.int .i64 0) 1 8 Try.underlying22 hi hz0 hz1 hz2 rfl (by decide) _ _ _ rfl (HO3.out.alloc _) ⟨w3.heap.size, 0, none⟩ 1 1 [.int .i64 (great : Int)] rfl rfl (cell_one_new _ _ _) (by simp [Value.oneCell']) (by unfold maxLen; omega) (by omega) (by simp; omega) ?_; intro v' w5 hown' hgrow _; obtain ⟨g2, c2, rfl, hO5, hB5⟩ := owns_appended HO3.out hown' hgrow (Below.refl w.heap.size w3) (Nat.le_refl _) hs3; have hF : Drew w w5 br A n c zs (p1 + 1) g2 c2 (L ++ [(great : Int)]) := ⟨hO5, drawn_snoc HD.out (by omega) (by omega), HR3.out.low hB5 hbr, grown_low HGT.out hB5⟩; have HF := Lib.hid hF; clear hF)
          go_roundw
          case rel => exact ⟨L.length + 1, _, g2, c2, _, by omega, by go_num, rfl, by rw [List.length_append]; rfl, by omega, HF.out⟩
          case measure => simp [intOf]; omega
      · obtain rfl : L.length = v := by omega
        go_wp2_with fail
        refine (pick_any br A n c zs p1 40 _ (by omega) (by omega) (by omega) hR).mono ?_
        rintro e w3 ⟨b, rfl, hb, hR3, hG3⟩
        have hO3 := hO.grown hG3 hgb
        have hGT := grown_trans hG hG3
        have hs3 := hGT.size
        have hD := HD.out
        by_cases hb0 : b = 0
        · have q1 : decide ((b : Int) = 0) = true := by simp [hb0]
          have q2 : ((b : Int) == 0) = true := by simp [hb0]
          clear hb0
          have hRa := hR3.behind ((Below.refl _ w3).alloc (Nat.le_refl _) (.cells #[.int .i64 0, .int .i64 61, .int .i64 (-1)] 3))
          go_wp2_with fail
          refine (pick_any br A n c zs (p1 + 1) 3 _ (by omega) (by omega) (by omega) hRa).mono ?_
          rintro e w4 ⟨d, rfl, hd, hR4, hG4⟩
          have hg3 := hO3.lt
          have hbr3 := hR3.lt
          have hB4 : (w3.alloc (.cells #[.int .i64 0, .int .i64 61, .int .i64 (-1)] 3)).heap.size ≤ w4.heap.size := hG4.size
          have hc4 := three_cells (x := 0) (y := 61) (z := -1) ((hG4.block w3.heap.size (by simp) (by simp; omega)).trans (heap_last2 w3 _)) d hd
          have hv4 : ∃ x : Int, [0, 61, -1][d]?.getD 0 = x ∧ -1 ≤ x ∧ x ≤ 61 := by
            rcases (by omega : d = 0 ∨ d = 1 ∨ d = 2) with rfl | rfl | rfl <;> exact ⟨_, rfl, by decide, by decide⟩
          obtain ⟨x, hx, hx1, hx2⟩ := hv4
          rw [hx] at hc4
          have hO4 := (hO3.alloc (.cells #[.int .i64 0, .int .i64 61, .int .i64 (-1)] 3)).grown hG4 hgb
          have hGT4 := grown_trans (grown_low hGT ((Below.refl w.heap.size w3).alloc hs3 (.cells #[.int .i64 0, .int .i64 61, .int .i64 (-1)] 3))) hG4
          have hs4 := hGT4.size
          clear hx
          go_wp2_with (at_builtin; refine wpList_append_own _ rfl _ _ 22 rfl w.heap.size 3 i0 (.int .i64 0) 1 8 Try.underlying22 hi hz0 hz1 hz2 rfl (by decide) _ _ _ rfl (hO4.alloc _) ⟨w4.heap.size, 0, none⟩ 1 1 [.int .i64 x] rfl rfl (cell_one_new _ _ _) (by simp [Value.oneCell']) (by unfold maxLen; omega) (by omega) (by simp; omega) ?_; intro v' w5 hown' hgrow _; obtain ⟨g2, c2, rfl, hO5, hB5⟩ := owns_appended hO4 hown' hgrow (Below.refl w.heap.size w4) (Nat.le_refl _) hs4)
          go_ret
          exact ⟨g2, c2, p1 + 1 + 1, L ++ [x], by rw [List.length_append]; rfl, by rw [List.length_append]; simp; omega, by omega, hO5, drawn_snoc hD hx1 hx2, hR4.low hB5 hbr, grown_low hGT4 hB5⟩
        · have q1 : decide ((b : Int) = 0) = false := by simp [hb0]
          have q2 : ((b : Int) == 0) = false := by simp [hb0]
          clear hb0
          go_wp2
          go_ret
          exact ⟨g, c1, p1 + 1, L, rfl, by omega, by omega, hO3, hD, hR3, hGT⟩
  · go_wp2
    go_loopw [10, 7] (fun i s wr => ∃ (k p1 g c1 : Nat) (L : List Int), k ≤ v ∧ i = .int .i64 k ∧ s = .slice (some ⟨g, 0, none⟩) k c1 ∧ L.length = k ∧ p1 ≤ p + 2 + 2 * k ∧ Drew w wr br A n c zs p1 g c1 L) (fun i _ _ => v - (intOf i).toNat)
    case atStart => exact ⟨0, p + 1 + 1, w.heap.size, 0, [], Nat.zero_le _, rfl, rfl, rfl, by omega, HS⟩
    case round =>
      clear HS
      obtain ⟨k, p1, g, c1, L, hk, rfl, rfl, hLk, hp1, hO, hD, hR, hG⟩ := hrel
      have hgb : g ≠ br := by have := hO.ge; omega
      subst hLk
      have HD := Lib.hid hD
      clear hD
      by_cases hlt : L.length < v
      · go_wp2_with fail
        refine (pick_any br A n c zs p1 great _ (by omega) (by omega) (by omega) hR).mono ?_
        rintro e w3 ⟨a, rfl, ha, hR3, hG3⟩
        have hO3 := hO.grown hG3 hgb
        have hGT := grown_trans hG hG3
        have hs3 := hGT.size
        have HO3 := Lib.hid hO3
        have HGT := Lib.hid hGT
        have HR3 := Lib.hid hR3
        clear hO hR hG hR3 hG3 hO3 hGT
        go_wp2_with (at_builtin; refine wpList_append_own _ rfl _ _ 22 rfl w.heap.size 3 i0 (.int .i64 0) 1 8 Try.underlying22 hi hz0 hz1 hz2 rfl (by decide) _ _ _ rfl (HO3.out.alloc _) ⟨w3.heap.size, 0, none⟩ 1 1 [.int .i64 (1 + (a : Int))] rfl rfl (cell_one_new _ _ _) (by simp [Value.oneCell']) (by unfold maxLen; omega) (by omega) (by simp; omega) ?_; intro v' w5 hown' hgrow _; obtain ⟨g2, c2, rfl, hO5, hB5⟩ := owns_appended HO3.out hown' hgrow (Below.refl w.heap.size w3) (Nat.le_refl _) hs3; have hF : Drew w w5 br A n c zs (p1 + 1) g2 c2 (L ++ [(1 + (a : Int))]) := ⟨hO5, drawn_snoc HD.out (by omega) (by omega), HR3.out.low hB5 hbr, grown_low HGT.out hB5⟩; have HF := Lib.hid hF; clear hF)
        go_roundw
        case rel => exact ⟨L.length + 1, _, g2, c2, _, by omega, by go_num, rfl, by rw [List.length_append]; rfl, by omega, HF.out⟩
        case measure => simp [intOf]; omega
      · obtain rfl : L.length = v := by omega
        go_wp2_with fail
        refine (pick_any br A n c zs p1 40 _ (by omega) (by omega) (by omega) hR).mono ?_
        rintro e w3 ⟨b, rfl, hb, hR3, hG3⟩
        have hO3 := hO.grown hG3 hgb
        have hGT := grown_trans hG hG3
        have hs3 := hGT.size
        have hD := HD.out
        by_cases hb0 : b = 0
        · have q1 : decide ((b : Int) = 0) = true := by simp [hb0]
          have q2 : ((b : Int) == 0) = true := by simp [hb0]
          clear hb0
          have hRa := hR3.behind ((Below.refl _ w3).alloc (Nat.le_refl _) (.cells #[.int .i64 0, .int .i64 61, .int .i64 (-1)] 3))
          go_wp2_with fail
          refine (pick_any br A n c zs (p1 + 1) 3 _ (by omega) (by omega) (by omega) hRa).mono ?_
          rintro e w4 ⟨d, rfl, hd, hR4, hG4⟩
          have hg3 := hO3.lt
          have hbr3 := hR3.lt
          have hB4 : (w3.alloc (.cells #[.int .i64 0, .int .i64 61, .int .i64 (-1)] 3)).heap.size ≤ w4.heap.size := hG4.size
          have hc4 := three_cells (x := 0) (y := 61) (z := -1) ((hG4.block w3.heap.size (by simp) (by simp; omega)).trans (heap_last2 w3 _)) d hd
          have hv4 : ∃ x : Int, [0, 61, -1][d]?.getD 0 = x ∧ -1 ≤ x ∧ x ≤ 61 := by
            rcases (by omega : d = 0 ∨ d = 1 ∨ d = 2) with rfl | rfl | rfl <;> exact ⟨_, rfl, by decide, by decide⟩
          obtain ⟨x, hx, hx1, hx2⟩ := hv4
          rw [hx] at hc4
          have hO4 := (hO3.alloc (.cells #[.int .i64 0, .int .i64 61, .int .i64 (-1)] 3)).grown hG4 hgb
          have hGT4 := grown_trans (grown_low hGT ((Below.refl w.heap.size w3).alloc hs3 (.cells #[.int .i64 0, .int .i64 61, .int .i64 (-1)] 3))) hG4
          have hs4 := hGT4.size
          clear hx
          go_wp2_with (at_builtin; refine wpList_append_own _ rfl _ _ 22 rfl w.heap.size 3 i0 (.int .i64 0) 1 8 Try.underlying22 hi hz0 hz1 hz2 rfl (by decide) _ _ _ rfl (hO4.alloc _) ⟨w4.heap.size, 0, none⟩ 1 1 [.int .i64 x] rfl rfl (cell_one_new _ _ _) (by simp [Value.oneCell']) (by unfold maxLen; omega) (by omega) (by simp; omega) ?_; intro v' w5 hown' hgrow _; obtain ⟨g2, c2, rfl, hO5, hB5⟩ := owns_appended hO4 hown' hgrow (Below.refl w.heap.size w4) (Nat.le_refl _) hs4)
          go_ret
          exact ⟨g2, c2, p1 + 1 + 1, L ++ [x], by rw [List.length_append]; rfl, by rw [List.length_append]; simp; omega, by omega, hO5, drawn_snoc hD hx1 hx2, hR4.low hB5 hbr, grown_low hGT4 hB5⟩
        · have q1 : decide ((b : Int) = 0) = false := by simp [hb0]
          have q2 : ((b : Int) == 0) = false := by simp [hb0]
          clear hb0
          go_wp2
          go_ret
          exact ⟨g, c1, p1 + 1, L, rfl, by omega, by omega, hO3, hD, hR3, hGT⟩

end Go.Proofs.Ytbechpbfefdmgaa
