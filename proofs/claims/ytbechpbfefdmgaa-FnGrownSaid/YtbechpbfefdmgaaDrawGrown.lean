/- The drawn list that is often grown. -/
import Derived.Test.YtbechpbfefdmgaaDrawNums
namespace Go.Proofs.Ytbechpbfefdmgaa
open Go.RowKit
set_option maxHeartbeats 1000000

theorem drawSumGrown_any (A : Option Addr) (c : Nat) (zs : List Int) (w : World) (hn : zs.length ≤ 1048576) (hc : zs.length ≤ c) (hA : ReadsB w A zs) :
    Calls Try.prog 21 #[.slice A zs.length c] w fun e w' => ∃ (g c' : Nat) (L : List Int), e = .returned (.slice (some ⟨g, 0, none⟩) L.length c') ∧ DrewL w w' g c' L := by
  obtain ⟨i0, hi, hz0, hz1, hz2⟩ := info_parts info_int
  go_enter Try.func21, Try.ntmps21
  go_wp2_with fail
  refine (l6Open_any A c zs _ hn hc hA).mono ?_
  rintro e w1 ⟨rfl, ⟨n1, c1, ys, hR1⟩, hB1⟩
  have hs1 := hB1.size
  have hbr := hR1.lt
  go_wp2_with fail
  refine (pick_any _ _ _ _ _ 0 2 _ (by omega) (by omega) (by omega) hR1).mono ?_
  rintro e w2 ⟨t, rfl, ht, hR2, hG2⟩
  have hB2 := hB1.grown hG2 hs1 (fun j e => by cases e; exact Nat.le_refl _)
  have hs2 := hB2.size
  by_cases ht0 : t = 0
  · have q1 : decide ((t : Int) = 0) = true := by simp [ht0]
    have q2 : ((t : Int) == 0) = true := by simp [ht0]
    clear ht0
    go_wp2_with fail
    refine (l91List_any _ _ _ _ _ _ 6 20 _ (by omega) (by omega) (by omega) (by omega) hR2).mono ?_
    rintro e w3 ⟨g, c3, p3, L, rfl, hl, hp3, hD⟩
    have hB3 := hD.below hB2 (Nat.le_refl _)
    go_wp2
    go_ret
    exact ⟨g, c3, L, rfl, hD.1.base (Nat.le_trans hs2 hD.1.ge), hD.2.1, by omega, hB3⟩
  · have q1 : decide ((t : Int) = 0) = false := by simp [ht0]
    have q2 : ((t : Int) == 0) = false := by simp [ht0]
    clear ht0
    have hO0 := owns_empty w2 w2.heap.size (Nat.le_refl _)
    have hR2a := hR2.behind ((Below.refl _ w2).alloc (Nat.le_refl _) (.cells #[] 3))
    have hB2a := hB2.alloc hs2 (.cells #[] 3)
    have hl2 := hR2.lt
    go_wp2_with fail
    refine (pick_any _ _ _ _ _ (0 + 1) 6 _ (by omega) (by omega) (by omega) hR2a).mono ?_
    rintro e w3 ⟨v, rfl, hv, hR3, hG3⟩
    have hO3 := hO0.grown hG3 (by omega)
    have hB3 := hB2a.grown hG3 hB2a.size (fun j e => by cases e; exact Nat.le_refl _)
    have hz3 : w2.heap.size ≤ w3.heap.size := Nat.le_of_lt hO3.lt
    have HS := Lib.hid (And.intro hO3 (And.intro drawn_nil (And.intro hR3 (And.intro hz3 hB3))))
    clear hO0 hR1 hR2 hR2a hB1 hB2 hB2a hG2 hG3 hO3 hR3 hB3 hA
    go_wp2
    go_loopw [7, 4, 5] (fun i o s wr => ∃ (k p1 g c3 : Nat) (L : List Int) (u : Int), k ≤ v ∧ i = .int .i64 k ∧ o = .slice (some ⟨g, 0, none⟩) L.length c3 ∧ s = .int .i64 u ∧ 0 ≤ u ∧ (u + 2 ≤ ((2 ^ (k + 1) : Nat) : Int)) ∧ L.length ≤ k ∧ p1 ≤ 2 + k ∧ Owns wr w2.heap.size g c3 L ∧ drawn L ∧ Rd wr w.heap.size A n1 c1 ys p1 ∧ w2.heap.size ≤ wr.heap.size ∧ Below w.heap.size w wr) (fun i _ _ _ => v - (intOf i).toNat)
    case atStart => exact ⟨0, 0 + 1 + 1, w2.heap.size, 0, [], 0, Nat.zero_le _, rfl, rfl, rfl, by omega, by simp, by simp, by omega, HS.out⟩
    case round =>
      clear HS
      obtain ⟨k, p1, g, c3, L, u, hk, rfl, rfl, rfl, hu0, hu, hLk, hp1, hO, hD, hR, hz, hB⟩ := hrel
      have hgn : g ≠ w.heap.size := by have := hO.ge; omega
      by_cases hlt : k < v
      · have hP : 2 ^ (k + 1) ≤ 2 ^ 6 := Nat.pow_le_pow_right (n := 2) (by omega) (by omega)
        have hP2 : 2 ^ (k + 1 + 1) = 2 * 2 ^ (k + 1) := by rw [Nat.pow_succ]; omega
        obtain ⟨P, hPP⟩ : ∃ P, 2 ^ (k + 1) = P := ⟨_, rfl⟩
        rw [hPP] at hP hP2 hu
        have HP2 := Lib.hid hP2
        clear hPP hP2
        go_wp2_with fail
        refine (pick_any _ _ _ _ _ p1 2 _ (by omega) (by omega) (by omega) hR).mono ?_
        rintro e w4 ⟨d, rfl, hd, hR4, hG4⟩
        have hO4 := hO.grown hG4 hgn
        have hB4 := hB.grown hG4 hB.size (fun j e => by cases e; exact Nat.le_refl _)
        have hz4 : w2.heap.size ≤ w4.heap.size := Nat.le_trans hz hG4.size
        have HO := Lib.hid hO4
        have HR := Lib.hid hR4
        have HB := Lib.hid hB4
        have HD := Lib.hid hD
        clear hO hR hB hO4 hR4 hB4 hG4 hD
        by_cases h60 : u + 1 + (d : Int) ≤ 60
        · go_wp2_with (at_builtin; refine wpList_append_own _ rfl _ _ 22 rfl w2.heap.size 3 i0 (.int .i64 0) 1 8 Try.underlying22 hi hz0 hz1 hz2 rfl (by decide) _ _ _ rfl (HO.out.alloc _) ⟨w4.heap.size, 0, none⟩ 1 1 [.int .i64 (u + 1 + (d : Int))] rfl rfl (cell_one_new _ _ _) (by simp [Value.oneCell']) (by unfold maxLen; omega) (by omega) (by simp; omega) ?_; intro v' w5 hown' hgrow _; obtain ⟨g2, c2, rfl, hO5, hB5⟩ := owns_appended HO.out hown' hgrow (Below.refl w2.heap.size w4) (Nat.le_refl _) hz4; have HF := Lib.hid (And.intro hO5 (And.intro (drawn_snoc HD.out (v := u + 1 + (d : Int)) (by omega) (by omega)) (And.intro (HR.out.low hB5 hl2) (And.intro (Nat.le_trans hz4 hB5.size) (HB.out.trans (hB5.mono hs2)))))))
          go_roundw
          case rel => exact ⟨k + 1, _, g2, c2, _, u + (u + 1 + (d : Int)), by omega, by go_num, by rw [List.length_append]; rfl, by go_num, by omega, by rw [HP2.out]; omega, by rw [List.length_append]; simp; omega, by omega, HF.out⟩
          case measure => simp [intOf]; omega
        · go_wp2
          go_roundw
          case rel => exact ⟨k + 1, _, g, c3, L, u + (u + 1 + (d : Int)), by omega, by go_num, rfl, by go_num, by omega, by rw [HP2.out]; omega, by omega, by omega, HO.out, HD.out, HR.out, hz4, HB.out⟩
          case measure => simp [intOf]; omega
      · obtain rfl : k = v := by omega
        clear hu
        go_wp2
        go_ret
        exact ⟨g, c3, L, rfl, hO.base (Nat.le_trans hs2 hO.ge), hD, by omega, hB⟩

end Go.Proofs.Ytbechpbfefdmgaa
