/- The law FnSorted, walked out of the contracts of the functions that it calls. -/
import Derived.Test.YtbechpbfefdmgaaDrawNums
import Derived.Test.YtbechpbfefdmgaaSumSorted
import Derived.Test.YtbechpbfefdmgaaMissing
import Derived.Test.YtbechpbfefdmgaaSumLaws
import Derived.Test.YtbechpbfefdmgaaSame
namespace Go.Proofs.Ytbechpbfefdmgaa
open Go.RowKit
set_option linter.unusedVariables false
set_option maxHeartbeats 1600000

theorem fnSorted_core (A : Option Addr) (c : Nat) (zs : List Int) (w : World) (hc : zs.length ≤ c) (hA : ReadsB w A zs) :
    Calls Try.prog 5 #[.slice A zs.length c] w fun e w' => e = .returned (.bool true) ∧ Below w.heap.size w w' := by
  by_cases hbig : 1048576 < zs.length
  · go_enter Try.func5, Try.ntmps5
    go_wp2
    go_ret
    exact ⟨rfl, Below.refl _ _⟩
  · go_enter Try.func5, Try.ntmps5
    go_wp2_with fail
    refine (drawSumSorted_any A c zs _ (by omega) hc hA).mono ?_
    rintro e w1 ⟨g, c1, L, rfl, hO, hD, hl, hB1⟩
    go_wp2_with fail
    refine (implSumSorted_any _ _ _ L _ (by omega) hO.row).mono ?_
    rintro e w2 ⟨g2, c2, rfl, hG2, hB2⟩
    have hO2 := hO.behind hB2
    have hT2 := hB1.trans (hB2.mono hB1.size)
    go_wp2_with fail
    refine (specSumSorted_any _ _ _ L _ (by omega) hO2.row).mono ?_
    rintro e w3 ⟨g3, c3, rfl, hG3, hB3⟩
    have hO3 := hO2.behind hB3
    have hG23 := hG2.behind hB3
    have hT3 := hT2.trans (hB3.mono hT2.size)
    have hFl := sortedOf_len L
    clear hO hB1 hB2 hO2 hB3 hT2 hG2
    have q4 : (isIn L != isIn L) = false := by simp
    have q6 : decide (sortedOf L = sortedOf L) = true := by simp
    go_wp2_with fail
    refine (sameInts_any _ _ _ _ _ _ (sortedOf L) (sortedOf L) _ (by omega) (by omega) hG23.row hG3.row).mono ?_
    rintro e w4 ⟨rfl, m4, rfl⟩
    have hO4 := hO3.drewN m4
    have hG4 := hG23.drewN m4
    have hG5 := hG3.drewN m4
    have hT4 := below_drewN hT3 m4
    obtain ⟨W4, hW4⟩ : ∃ W4, w3.drewN m4 = W4 := ⟨_, rfl⟩
    rw [hW4] at hO4 hG4 hG5 hT4 ⊢
    clear hW4 hO3 hG23 hG3 hT3
    cases ht : isIn L
    · have q5 : (false == false) = true := rfl
      rw [ht] at q4
      go_wp2_with fail
      refine (sameInts_any _ _ _ _ _ _ (sortedOf L) (sortedOf L) _ (by omega) (by omega) hG4.row hG5.row).mono ?_
      rintro e w5 ⟨rfl, m5, rfl⟩
      go_wp2
      go_ret
      exact ⟨rfl, below_drewN hT4 m5⟩

    · have hlen := isIn_len ht
      have hF := sortedOf_in ht
      have hFi := sorted_in ht
      have hFs : sortedOf (sorted L) = sorted L := by rw [sortedOf_in hFi]; exact sorted_id (sorted_up L)
      have hFc : countsOf (sorted L) = countsOf L := by rw [countsOf_in hFi, countsOf_in ht]; exact counts_perm (sorted_perm L)
      have hFu := sorted_up L
      have hCl := countsOf_len L
      rw [hF] at hFl hG4 ⊢
      obtain ⟨F, hFF⟩ : ∃ F, sorted L = F := ⟨_, rfl⟩
      obtain ⟨C, hCC⟩ : ∃ C, countsOf L = C := ⟨_, rfl⟩
      rw [hFF] at hFl hG4 hFi hFs hFc hFu ⊢
      rw [hCC] at hFc hCl
      rw [ht] at q4
      have HIN := Lib.hid ht
      have HFI := Lib.hid hFi
      have HFS := Lib.hid hFs
      have HFC := Lib.hid hFc
      have HCC := Lib.hid hCC
      have HFU := Lib.hid hFu
      clear hF hFF q6 hFi hFs hFc hCC hFu ht hG5
      go_wp2_with fail
      refine (implSumSorted_any _ _ _ F _ (by omega) hG4.row).mono ?_
      rw [HFS.out, HFI.out]
      rintro e w5 ⟨g5, c5, rfl, hX5, hB5⟩
      have hO5 := hO4.behind hB5
      have hF5 := hG4.behind hB5
      have hT5 := hT4.trans (hB5.mono hT4.size)
      clear hO4 hG4 hT4 hB5
      go_wp2_with fail
      refine (implSumCounts_any _ _ _ L _ (by omega) hO5.row).mono ?_
      rw [HIN.out, HCC.out]
      rintro e w6 ⟨g6, c6, rfl, hC6, hB6⟩
      have hF6 := hF5.behind hB6
      have hX6 := hX5.behind hB6
      have hT6 := hT5.trans (hB6.mono hT5.size)
      clear hO5 hF5 hX5 hT5 hB6
      go_wp2_with fail
      refine (implSumCounts_any _ _ _ F _ (by omega) hF6.row).mono ?_
      rw [HFI.out, HFC.out]
      rintro e w7 ⟨g7, c7, rfl, hC7, hB7⟩
      have hF7 := hF6.behind hB7
      have hX7 := hX6.behind hB7
      have hC67 := hC6.behind hB7
      have hT7 := hT6.trans (hB7.mono hT6.size)
      clear hF6 hX6 hC6 hT6 hB7
      have hr := hF7.row
      have HK := Lib.hid (And.intro hT7 (And.intro hF7 (And.intro hX7 (And.intro hC67 hC7))))
      clear hF7 hX7 hC67 hC7 hT7
      go_wp2
      go_loopw [14] (fun i wr => ∃ r m : Nat, 1 ≤ r ∧ i = .int .i64 r ∧ r ≤ F.length + 1 ∧ wr = w7.drewN m) (fun i _ => F.length + 1 - (intOf i).toNat)
      case atStart => exact ⟨1, 0, by omega, rfl, by omega, rfl⟩
      case round =>
        obtain ⟨r, m, hr1, rfl, hrl, rfl⟩ := hrel
        by_cases hlt : r < F.length
        · have cA := hr.2 r hlt
          obtain ⟨r', rfl⟩ : ∃ r', r = r' + 1 := ⟨r - 1, by omega⟩
          have cB := hr.2 r' (by omega)
          have hm : F[r']?.getD 0 ≤ F[r' + 1]?.getD 0 := by
            rw [List.getElem?_eq_getElem (by omega), List.getElem?_eq_getElem hlt]
            exact List.pairwise_iff_getElem.1 HFU.out r' (r' + 1) (by omega) hlt (by omega)
          have e1 : ((r' + 1 : Nat) : Int) - 1 = (r' : Int) := by omega
          rw [Nat.zero_add] at cA cB
          obtain ⟨x, hx⟩ : ∃ x, F[r' + 1]?.getD 0 = x := ⟨_, rfl⟩
          obtain ⟨y, hy⟩ : ∃ y, F[r']?.getD 0 = y := ⟨_, rfl⟩
          rw [hx] at cA hm
          rw [hy] at cB hm
          clear hx hy hr
          go_wp2
          go_quiet (fail)
          go_wp2
          go_roundw
          case rel => exact ⟨r' + 1 + 1, _, by omega, by go_num, by omega, rfl⟩
          case measure => simp [intOf]; omega
        · clear hr
          obtain ⟨hT7, hF7, hX7, hC67, hC7⟩ := HK.out
          have p1 : decide (F = F) = true := by simp
          have p2 : decide (C = C) = true := by simp
          have q1 := hX7.drewN m
          have q2 := hF7.drewN m
          have q3 := hC67.drewN m
          have q5 := hC7.drewN m
          have q7 := below_drewN hT7 m
          obtain ⟨W7, hW7⟩ : ∃ W7, w7.drewN m = W7 := ⟨_, rfl⟩
          rw [hW7] at q1 q2 q3 q5 q7 ⊢
          clear hW7 hT7 hF7 hX7 hC67 hC7
          go_wp2_with fail
          refine (sameInts_any _ _ _ _ _ _ F F _ (by omega) (by omega) q1.row q2.row).mono ?_
          rintro e w8 ⟨rfl, m8, rfl⟩
          go_wp2_with fail
          refine (sameInts_any _ _ _ _ _ _ C C _ (by omega) (by omega) (q3.drewN m8).row (q5.drewN m8).row).mono ?_
          rintro e w9 ⟨rfl, m9, rfl⟩
          go_wp2
          go_ret
          exact ⟨rfl, below_drewN q7 (m8 + m9)⟩

end Go.Proofs.Ytbechpbfefdmgaa
