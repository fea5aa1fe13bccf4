/- The drawn lists of items and rooms. -/
import Derived.Test.YtfcnlfcjcmpkcaaDrawItems
namespace Go.Proofs.Ytfcnlfcjcmpkcaa
open Go.RowKit
set_option maxHeartbeats 1000000

theorem OwnC.base {w : World} {B B' g n c : Nat} {zs : List Int} (h : OwnC w B g n c zs) (hB : B' ≤ B) : OwnC w B' g n c zs := by
  refine ⟨h.1, h.2.1, .inr ?_⟩
  obtain ⟨cur, hb, hg, h1, h2, h3, h4⟩ := h.parts
  exact ⟨g, c, cur, rfl, Nat.le_trans hB hb, hg, h1, h2, h3, h4⟩
theorem Rd.lt {w : World} {br : Nat} {A : Option Addr} {n c : Nat} {zs : List Int} {p : Nat} (h : Rd w br A n c zs p) : br < w.heap.size := lt_of_block h.1

theorem l91Things_any (A : Option Addr) (c : Nat) (zs : List Int) (w : World) (hn : zs.length ≤ 1048576) (hc : zs.length ≤ c) (hA : ReadsB w A zs) :
    Calls Try.prog 30 #[.slice A zs.length c] w fun e w' => ∃ (g c' k : Nat) (L : List Int), e = .returned (.slice (some ⟨g, 0, none⟩) k c') ∧ OwnC w' w.heap.size g k c' L ∧ k ≤ 9 ∧ Below w.heap.size w w' := by
  go_enter Try.func30, Try.ntmps30
  go_wp2_with fail
  refine (l6Open_any A c zs _ hn hc hA).mono ?_
  rintro e w1 ⟨rfl, ⟨n1, c1, ys, hR1⟩, hB1⟩
  have hs1 := hB1.size
  go_wp2_with fail
  refine (l91Items_any _ _ _ _ _ 0 _ (by omega) hR1 hR1.lt).mono ?_
  rintro e w2 ⟨g, c2, k, L, rfl, hO, hk, _, hG⟩
  have hB2 := hB1.grown hG hs1 (fun j e => by cases e; exact Nat.le_refl _)
  go_wp2
  go_ret
  exact ⟨g, c2, k, L, rfl, hO.base hs1, hk, hB2⟩

theorem div23 {b : Nat} (hb : b < 24) : ∃ q : Nat, (b : Int) / 23 = (q : Int) ∧ q ≤ 1 := ⟨b / 23, by omega, by omega⟩

theorem l91Sack_any (A : Option Addr) (c : Nat) (zs : List Int) (w : World) (hn : zs.length ≤ 1048576) (hc : zs.length ≤ c) (hA : ReadsB w A zs) :
    Calls Try.prog 35 #[.slice A zs.length c] w fun e w' => ∃ (g c' k : Nat) (L : List Int) (room : Int), e = .returned (.tuple #[.slice (some ⟨g, 0, none⟩) k c', .int .i64 room]) ∧ OwnC w' w.heap.size g k c' L ∧ k ≤ 9 ∧ (-1 ≤ room ∧ room ≤ 640) ∧ Below w.heap.size w w' := by
  go_enter Try.func35, Try.ntmps35
  go_wp2_with fail
  refine (l6Open_any A c zs _ hn hc hA).mono ?_
  rintro e w1 ⟨rfl, ⟨n1, c1, ys, hR1⟩, hB1⟩
  have hs1 := hB1.size
  have hl1 := hR1.lt
  go_wp2_with fail
  refine (l91Items_any _ _ _ _ _ 0 _ (by omega) hR1 hl1).mono ?_
  rintro e w2 ⟨g, c2, k, L, rfl, hO, hk, ⟨p2, hR2, hp2⟩, hG2⟩
  have hB2 := hB1.grown hG2 hs1 (fun j e => by cases e; exact Nat.le_refl _)
  have hgb : g ≠ w.heap.size := by have := hO.ge; omega
  have hO2 := hO.base hs1
  go_wp2_with fail
  refine (pick_any _ _ _ _ _ _ 40 _ (by omega) (by omega) (by omega) hR2).mono ?_
  rintro e w3 ⟨r1, rfl, hr1, hR3, hG3⟩
  go_wp2_with fail
  refine (pick_any _ _ _ _ _ _ 24 _ (by omega) (by omega) (by omega) hR3).mono ?_
  rintro e w4 ⟨r2, rfl, hr2, hR4, hG4⟩
  obtain ⟨q2, e2, hq2⟩ := div23 hr2
  go_wp2_with fail
  refine (pick_any _ _ _ _ _ _ 24 _ (by omega) (by omega) (by omega) hR4).mono ?_
  rintro e w5 ⟨r3, rfl, hr3, hR5, hG5⟩
  obtain ⟨q3, e3, hq3⟩ := div23 hr3
  have hO5 := ((hO2.grown hG3 hgb).grown hG4 hgb).grown hG5 hgb
  have hG := grown_trans (grown_trans hG3 hG4) hG5
  have hB5 := hB2.grown hG hB2.size (fun j e => by cases e; exact Nat.le_refl _)
  go_wp2
  go_ret2
  exact ⟨g, c2, k, L, _, rfl, hO5, hk, by omega, hB5⟩



theorem drawSackOrder_any (A : Option Addr) (c : Nat) (zs : List Int) (w : World) (hn : zs.length ≤ 1048576) (hc : zs.length ≤ c) (hA : ReadsB w A zs) :
    Calls Try.prog 10 #[.slice A zs.length c] w fun e w' => ∃ (g c' k : Nat) (L : List Int), e = .returned (.slice (some ⟨g, 0, none⟩) k c') ∧ OwnC w' w.heap.size g k c' L ∧ k ≤ 9 ∧ Below w.heap.size w w' := by
  go_enter Try.func10, Try.ntmps10
  go_wp2_with fail
  refine (l91Things_any A c zs _ hn hc hA).mono ?_
  rintro e w2 ⟨g, c2, k, L, rfl, hO, hk, hB⟩
  go_wp2
  go_ret
  exact ⟨g, c2, k, L, rfl, hO, hk, hB⟩

theorem drawSackBest_any (A : Option Addr) (c : Nat) (zs : List Int) (w : World) (hn : zs.length ≤ 1048576) (hc : zs.length ≤ c) (hA : ReadsB w A zs) :
    Calls Try.prog 27 #[.slice A zs.length c] w fun e w' => ∃ (g c' k : Nat) (L : List Int) (room : Int), e = .returned (.tuple #[.slice (some ⟨g, 0, none⟩) k c', .int .i64 room]) ∧ OwnC w' w.heap.size g k c' L ∧ k ≤ 9 ∧ (-1 ≤ room ∧ room ≤ 640) ∧ Below w.heap.size w w' := by
  go_enter Try.func27, Try.ntmps27
  go_wp2_with fail
  refine (l91Sack_any A c zs _ hn hc hA).mono ?_
  rintro e w2 ⟨g, c2, k, L, room, rfl, hO, hk, hr, hB⟩
  go_wp2
  go_ret2
  exact ⟨g, c2, k, L, room, rfl, hO, hk, hr, hB⟩





theorem drawSackBound_any (A : Option Addr) (c : Nat) (zs : List Int) (w : World) (hn : zs.length ≤ 1048576) (hc : zs.length ≤ c) (hA : ReadsB w A zs) :
    Calls Try.prog 14 #[.slice A zs.length c] w fun e w' => ∃ (g c' k : Nat) (L : List Int) (room : Int), e = .returned (.tuple #[.slice (some ⟨g, 0, none⟩) k c', .int .i64 room]) ∧ OwnC w' w.heap.size g k c' L ∧ k ≤ 9 ∧ (-1 ≤ room ∧ room ≤ 640) ∧ Below w.heap.size w w' := by
  go_enter Try.func14, Try.ntmps14
  go_wp2_with fail
  refine (l91Sack_any A c zs _ hn hc hA).mono ?_
  rintro e w2 ⟨g, c2, k, L, room, rfl, hO, hk, hr, hB⟩
  go_wp2
  go_ret2
  exact ⟨g, c2, k, L, room, rfl, hO, hk, hr, hB⟩

theorem drawSackGreedy_any (A : Option Addr) (c : Nat) (zs : List Int) (w : World) (hn : zs.length ≤ 1048576) (hc : zs.length ≤ c) (hA : ReadsB w A zs) :
    Calls Try.prog 20 #[.slice A zs.length c] w fun e w' => ∃ (g c' k : Nat) (L : List Int) (room : Int), e = .returned (.tuple #[.slice (some ⟨g, 0, none⟩) k c', .int .i64 room]) ∧ OwnC w' w.heap.size g k c' L ∧ k ≤ 9 ∧ (-1 ≤ room ∧ room ≤ 640) ∧ Below w.heap.size w w' := by
  go_enter Try.func20, Try.ntmps20
  go_wp2_with fail
  refine (l91Sack_any A c zs _ hn hc hA).mono ?_
  rintro e w2 ⟨g, c2, k, L, room, rfl, hO, hk, hr, hB⟩
  go_wp2
  go_ret2
  exact ⟨g, c2, k, L, room, rfl, hO, hk, hr, hB⟩

end Go.Proofs.Ytfcnlfcjcmpkcaa
