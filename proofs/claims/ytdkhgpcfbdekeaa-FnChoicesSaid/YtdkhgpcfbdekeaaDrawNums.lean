/- The drawn lists of numbers, with values and sizes. -/
import Derived.Test.YtdkhgpcfbdekeaaDrawList
namespace Go.Proofs.Ytdkhgpcfbdekeaa
open Go.RowKit
set_option maxHeartbeats 1000000

theorem drawn_cs {L : List Int} (h : drawn L) (c k : Nat) : -(k : Int) ≤ cs L c k ∧ cs L c k ≤ 61 * k := by
  induction k with
  | zero => simp [cs]
  | succ k ih =>
    have := h k
    simp only [cs, bit_mul]
    split <;> omega

theorem Drew.below {w w0 wr : World} {br : Nat} {A : Option Addr} {n c : Nat} {zs : List Int} {p1 g c1 : Nat} {L : List Int} (h : Drew w wr br A n c zs p1 g c1 L) (h0 : Below w0.heap.size w0 w) (hb : w0.heap.size ≤ br) : Below w0.heap.size w0 wr :=
  h0.grown h.2.2.2 h0.size (fun j e => by cases e; exact hb)

theorem l1Sum_drawn (k b off c : Nat) (zs : List Int) (w : World) (hk : k < 4294967296) (hin : drawn zs) (hlen : zs.length ≤ 12) (hr : Row w b off zs) :
    Calls Try.prog 47 #[.slice (some ⟨b, off, none⟩) zs.length c, .int .i64 k] w fun e w' => e = .returned (.int .i64 (cs zs k zs.length)) ∧ ∃ n, w' = w.drewN n := by
  have HIN := Lib.hid hin
  clear hin
  go_enter Try.func47, Try.ntmps47
  go_wp2
  go_loopw [6, 5] (fun i s wr => ∃ j n : Nat, j ≤ zs.length ∧ i = .int .i64 j ∧ s = .int .i64 (cs zs k j) ∧ wr = w.drewN n) (fun i _ _ => zs.length - (intOf i).toNat)
  case atStart => exact ⟨0, 0, Nat.zero_le _, rfl, rfl, rfl⟩
  case round =>
    obtain ⟨j, n, hj, rfl, rfl, rfl⟩ := hrel
    have hb1 := drawn_cs HIN.out k j
    by_cases hlt : j < zs.length
    · have hcell := hr.2 j hlt
      have hx0 := HIN.out j
      have hst : cs zs k (j + 1) = cs zs k j + (bitAt k j : Int) * (zs[j]?.getD 0) := rfl
      have hb01 := bitAt_01 k j
      have hbit := bit_walk k j hk
      obtain ⟨x, hx⟩ : ∃ x, zs[j]?.getD 0 = x := ⟨_, rfl⟩
      obtain ⟨s, hs⟩ : ∃ s, cs zs k j = s := ⟨_, rfl⟩
      rw [hx, hs] at hst
      rw [hx] at hcell hx0
      rw [hs] at hb1 ⊢
      have HS := Lib.hid hst
      have hy : -1 ≤ (bitAt k j : Int) * x ∧ (bitAt k j : Int) * x ≤ 61 := by rcases hb01 with e | e <;> rw [e] <;> omega
      obtain ⟨hy1, hy2⟩ := hy
      clear hx hs hst
      go_wp2
      go_quiet (fail)
      go_wp2
      go_roundw
      case rel => exact ⟨j + 1, _, by omega, by go_num, by rw [HS.out], rfl⟩
      case measure => simp [intOf]; omega
    · obtain rfl : j = zs.length := by omega
      go_wp2
      go_ret
      exact ⟨rfl, n, rfl⟩

/-- A draw of a list: what it shows. -/
def DrewL (w w' : World) (g c : Nat) (L : List Int) : Prop := Owns w' w.heap.size g c L ∧ drawn L ∧ L.length ≤ 11 ∧ Below w.heap.size w w'


theorem mul_q {q r : Nat} (hq : q ≤ 1) (hr : r < 5) : -2 ≤ (q : Int) * ((r : Int) - 2) ∧ (q : Int) * ((r : Int) - 2) ≤ 2 := by
  rcases (by omega : q = 0 ∨ q = 1) with rfl | rfl <;> simp <;> omega
theorem l91Value_any (A : Option Addr) (c : Nat) (zs : List Int) (w : World) (hn : zs.length ≤ 1048576) (hc : zs.length ≤ c) (hA : ReadsB w A zs) :
    Calls Try.prog 56 #[.slice A zs.length c] w fun e w' => ∃ (g c' : Nat) (L : List Int) (v : Int), e = .returned (.tuple #[.slice (some ⟨g, 0, none⟩) L.length c', .int .i64 v]) ∧ (-100 ≤ v ∧ v ≤ 1000) ∧ DrewL w w' g c' L := by
  go_enter Try.func56, Try.ntmps56
  go_wp2_with fail
  refine (l6Open_any A c zs _ hn hc hA).mono ?_
  rintro e w1 ⟨rfl, ⟨n1, c1, ys, hR1⟩, hB1⟩
  have hs1 := hB1.size
  go_wp2_with fail
  refine (l91List_any _ _ _ _ _ 0 7 15 _ (by omega) (by omega) (by omega) (by omega) hR1).mono ?_
  rintro e w2 ⟨g, c2, p2, L, rfl, hl, hp2, hD⟩
  have hB2 := hD.below hB1 (Nat.le_refl _)
  have hO2 := hD.1.base (Nat.le_trans hs1 hD.1.ge)
  have hgb : g ≠ w.heap.size := by have := hD.1.ge; have := hR1.lt; omega
  obtain ⟨N, hN, hN1, hN2, hN3⟩ := pow_walk L.length (by omega)
  have hN4 : N ≤ 256 := by rw [← hN]; exact Nat.pow_le_pow_right (n := 2) (by omega) hl
  have HN3 := Lib.hid hN3
  clear hN hN2 hN3
  have HD := Lib.hid hD.2.1
  have hR2 := hD.2.2.1
  clear hD
  go_wp2_with fail
  rw [HN3.out]
  refine (pick_any _ _ _ _ _ _ N _ (by omega) (by omega) (by omega) hR2).mono ?_
  rintro e w3 ⟨r1, rfl, hr1, hR3, hG3⟩
  have hO3 := hO2.grown hG3 hgb
  have hdc := drawn_cs HD.out r1 L.length
  go_wp2_with fail
  refine (l1Sum_drawn _ _ _ _ L _ (by omega) HD.out (by omega) hO3.row).mono ?_
  rintro e w3' ⟨rfl, m, rfl⟩
  obtain ⟨s, hs⟩ : ∃ s, cs L r1 L.length = s := ⟨_, rfl⟩
  rw [hs] at hdc ⊢
  clear hs
  go_wp2_with fail
  refine (pick_any _ _ _ _ _ _ 6 _ (by omega) (by omega) (by omega) (hR3.drewN m)).mono ?_
  rintro e w4 ⟨r2, rfl, hr2, hR4, hG4⟩
  obtain ⟨q, e2, hq⟩ : ∃ q : Nat, (r2 : Int) / 5 = (q : Int) ∧ q ≤ 1 := ⟨r2 / 5, by omega, by omega⟩
  go_wp2_with fail
  refine (pick_any _ _ _ _ _ _ 5 _ (by omega) (by omega) (by omega) hR4).mono ?_
  rintro e w5 ⟨r3, rfl, hr3, hR5, hG5⟩
  obtain ⟨hm1, hm2⟩ := mul_q hq hr3
  have hO5 := ((hO3.drewN m).grown hG4 hgb).grown hG5 hgb
  have hG := grown_trans (grown_drewN hG3 m) (grown_trans hG4 hG5)
  have hB5 := hB2.grown hG hB2.size (fun j e => by cases e; exact Nat.le_refl _)
  go_wp2
  go_ret2
  exact ⟨g, c2, L, _, rfl, by omega, hO5, HD.out, by omega, hB5⟩

theorem three_val (d : Nat) (hd : d < 3) : ∃ x : Int, [0, 101, 5][d]?.getD 0 = x ∧ 0 ≤ x ∧ x ≤ 101 := by
  rcases (by omega : d = 0 ∨ d = 1 ∨ d = 2) with rfl | rfl | rfl <;> exact ⟨_, rfl, by decide, by decide⟩
theorem l91Bins_any (br : Nat) (A : Option Addr) (n c : Nat) (zs : List Int) (p : Nat) (w : World) (hp : p ≤ 1000) (h : Rd w br A n c zs p) :
    Calls Try.prog 54 #[.pointer (some ⟨br, 0, none⟩)] w fun e w' => ∃ (g c' : Nat) (L : List Int) (v : Int), e = .returned (.tuple #[.slice (some ⟨g, 0, none⟩) L.length c', .int .i64 v]) ∧ (0 ≤ v ∧ v ≤ 101) ∧ Owns w' w.heap.size g c' L ∧ drawn L ∧ L.length ≤ 11 ∧ w.grownBy w' (some br) := by
  have hbr := h.lt
  go_enter Try.func54, Try.ntmps54
  go_wp2_with fail
  refine (l91List_any _ _ _ _ _ p 8 20 _ (by omega) (by omega) (by omega) (by omega) h).mono ?_
  rintro e w2 ⟨g, c2, p2, L, rfl, hl, hp2, hO2, hD, hR2, hG2⟩
  have hgb : g ≠ br := by have := hO2.ge; omega
  have HD := Lib.hid hD
  clear hD
  go_wp2_with fail
  refine (pick_any _ _ _ _ _ _ 10 _ (by omega) (by omega) (by omega) hR2).mono ?_
  rintro e w3 ⟨r1, rfl, hr1, hR3, hG3⟩
  go_wp2_with fail
  refine (pick_any _ _ _ _ _ _ 24 _ (by omega) (by omega) (by omega) hR3).mono ?_
  rintro e w4 ⟨r2, rfl, hr2, hR4, hG4⟩
  have hO4 := (hO2.grown hG3 hgb).grown hG4 hgb
  have hGT := grown_trans (grown_trans hG2 hG3) hG4
  by_cases hb0 : r2 = 0
  · have q1 : decide ((r2 : Int) = 0) = true := by simp [hb0]
    have q2 : ((r2 : Int) == 0) = true := by simp [hb0]
    clear hb0
    have hR4d : Rd w4.drew br A n c zs (p2 + 1 + 1) := hR4
    have hR4a := hR4d.behind ((Below.refl _ w4.drew).alloc (Nat.le_refl _) (.cells #[.int .i64 0, .int .i64 101, .int .i64 5] 3))
    have hO4d : Owns w4.drew w.heap.size g c2 L := hO4
    have hGd : w.grownBy w4.drew (some br) := grown_drewN hGT 1
    have hs4 := hGT.size
    have HO := Lib.hid hO4d
    have HG := Lib.hid hGd
    have hbr4 : br < w4.heap.size := hR4.lt
    clear hR4 hR3 hR2 hG2 hG3 hG4 hO2 hO4 hO4d hGd hGT h
    go_wp2
    go_region_with (go_at_call 61; refine (pick_any br A n c zs (p2 + 1 + 1) 3 _ (by omega) (by omega) (by omega) (by first | exact hR4d | exact hR4a)).mono ?_; rintro e w5 ⟨d, rfl, hd, hR5, hG5⟩; obtain ⟨x, hx, hx1, hx2⟩ := three_val d hd; have hcB := three_cells (x := 0) (y := 101) (z := 5) (heap_last2 w5 (.cells #[.int .i64 0, .int .i64 101, .int .i64 5] 3)) d hd; rw [hx] at hcB; (first | (have hcA := three_cells (x := 0) (y := 101) (z := 5) ((World.grownBy.block hG5 w4.heap.size (by simp) (by simp; omega)).trans (heap_last2 w4.drew _)) d hd; rw [hx] at hcA) | skip); clear hx)
    all_goals
      go_wp2
      go_ret2
      first
        | exact ⟨g, c2, L, _, rfl, by omega, HO.out.grown hG5 hgb, HD.out, by omega, grown_trans HG.out hG5⟩
        | exact ⟨g, c2, L, _, rfl, by omega, (HO.out.alloc _).grown hG5 hgb, HD.out, by omega, grown_trans (grown_low HG.out ((Below.refl w.heap.size w4.drew).alloc hs4 _)) hG5⟩
        | exact ⟨g, c2, L, _, rfl, by omega, (HO.out.grown hG5 hgb).alloc _, HD.out, by omega, grown_low (grown_trans HG.out hG5) ((Below.refl w.heap.size w5).alloc (Nat.le_trans hs4 hG5.size) _)⟩
  · have q1 : decide ((r2 : Int) = 0) = false := by simp [hb0]
    have q2 : ((r2 : Int) == 0) = false := by simp [hb0]
    clear hb0
    go_wp2
    go_ret2
    exact ⟨g, c2, L, _, rfl, by omega, hO4, HD.out, by omega, hGT⟩

theorem drawSumFirst_any (A : Option Addr) (c : Nat) (zs : List Int) (w : World) (hn : zs.length ≤ 1048576) (hc : zs.length ≤ c) (hA : ReadsB w A zs) :
    Calls Try.prog 29 #[.slice A zs.length c] w fun e w' => ∃ (g c' : Nat) (L : List Int) (v : Int), e = .returned (.tuple #[.slice (some ⟨g, 0, none⟩) L.length c', .int .i64 v]) ∧ (-100 ≤ v ∧ v ≤ 1000) ∧ DrewL w w' g c' L := by
  go_enter Try.func29, Try.ntmps29
  go_wp2_with fail
  refine (l91Value_any A c zs _ hn hc hA).mono ?_
  rintro e w2 ⟨g, c2, L, v, rfl, hv, hD⟩
  go_wp2
  go_ret2
  exact ⟨g, c2, L, v, rfl, hv, hD⟩

theorem drawSumChoices_any (A : Option Addr) (c : Nat) (zs : List Int) (w : World) (hn : zs.length ≤ 1048576) (hc : zs.length ≤ c) (hA : ReadsB w A zs) :
    Calls Try.prog 34 #[.slice A zs.length c] w fun e w' => ∃ (g c' : Nat) (L : List Int) (v : Int), e = .returned (.tuple #[.slice (some ⟨g, 0, none⟩) L.length c', .int .i64 v]) ∧ (-100 ≤ v ∧ v ≤ 1000) ∧ DrewL w w' g c' L := by
  go_enter Try.func34, Try.ntmps34
  go_wp2_with fail
  refine (l91Value_any A c zs _ hn hc hA).mono ?_
  rintro e w2 ⟨g, c2, L, v, rfl, hv, hD⟩
  go_wp2
  go_ret2
  exact ⟨g, c2, L, v, rfl, hv, hD⟩



theorem drawBinBound_any (A : Option Addr) (c : Nat) (zs : List Int) (w : World) (hn : zs.length ≤ 1048576) (hc : zs.length ≤ c) (hA : ReadsB w A zs) :
    Calls Try.prog 28 #[.slice A zs.length c] w fun e w' => ∃ (g c' : Nat) (L : List Int) (v : Int), e = .returned (.tuple #[.slice (some ⟨g, 0, none⟩) L.length c', .int .i64 v]) ∧ (0 ≤ v ∧ v ≤ 101) ∧ DrewL w w' g c' L := by
  go_enter Try.func28, Try.ntmps28
  go_wp2_with fail
  refine (l6Open_any A c zs _ hn hc hA).mono ?_
  rintro e w1 ⟨rfl, ⟨n1, c1, ys, hR1⟩, hB1⟩
  have hs1 := hB1.size
  go_wp2_with fail
  refine (l91Bins_any _ _ _ _ _ 0 _ (by omega) hR1).mono ?_
  rintro e w2 ⟨g, c2, L, v, rfl, hv, hO, hD, hl, hG⟩
  have hB2 := hB1.grown hG hs1 (fun j e => by cases e; exact Nat.le_refl _)
  go_wp2
  go_ret2
  exact ⟨g, c2, L, v, rfl, hv, hO.base (Nat.le_trans hs1 hO.ge), hD, hl, hB2⟩

end Go.Proofs.Ytdkhgpcfbdekeaa
