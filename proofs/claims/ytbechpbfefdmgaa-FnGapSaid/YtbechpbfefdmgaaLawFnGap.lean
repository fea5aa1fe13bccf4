/- The law FnGap, walked out of the contracts of the functions that it calls. -/
import Derived.Test.YtbechpbfefdmgaaDrawNums
import Derived.Test.YtbechpbfefdmgaaReach
import Derived.Test.YtbechpbfefdmgaaSumSorted
import Derived.Test.YtbechpbfefdmgaaGapLaw
namespace Go.Proofs.Ytbechpbfefdmgaa
open Go.RowKit
set_option linter.unusedVariables false
set_option maxHeartbeats 1600000

theorem fnGap_core (A : Option Addr) (c : Nat) (zs : List Int) (w : World) (hc : zs.length ≤ c) (hA : ReadsB w A zs) :
    Calls Try.prog 7 #[.slice A zs.length c] w fun e w' => e = .returned (.bool true) ∧ Below w.heap.size w w' := by
  by_cases hbig : 1048576 < zs.length
  · go_enter Try.func7, Try.ntmps7
    go_wp2
    go_ret
    exact ⟨rfl, Below.refl _ _⟩
  · go_enter Try.func7, Try.ntmps7
    go_wp2_with fail
    refine (drawSumGap_any A c zs _ (by omega) hc hA).mono ?_
    rintro e w1 ⟨g, c1, L, rfl, hO, hD, hl, hB1⟩
    go_wp2_with fail
    refine (implSumGap_any _ _ _ L _ (by omega) hO.row).mono ?_
    rintro e w2 ⟨rfl, hB2⟩
    have hO2 := hO.behind hB2
    have hT2 := hB1.trans (hB2.mono hB1.size)
    go_wp2_with fail
    refine (specSumGap_any _ _ _ L _ (by omega) hO2.row).mono ?_
    rintro e w3 ⟨rfl, hB3⟩
    have hO3 := hO2.behind hB3
    have hT3 := hT2.trans (hB3.mono hT2.size)
    clear hO hB1 hB2 hO2 hB3 hT2
    cases ht : isIn L
    · obtain ⟨V, hV⟩ : ∃ V, gapV L = V := ⟨_, rfl⟩
      rw [hV]
      have q1 : (V != V) = false := by simp
      have q2 : (V == V) = true := by simp
      have q3 : decide (V = V) = true := by simp
      have q4 : (false != false) = false := rfl
      have q5 : (false == false) = true := rfl
      clear hV
      go_wp2
      go_ret
      exact ⟨rfl, hT3⟩

    · have hlen := isIn_len ht
      have hg1 := gap_greatest ht
      have hg2 := fun h => gap_some ht h
      have hgb := gapTo_bd (reachOf L) (reachOf L).length (reachOf_bd L)
      have hgb2 : 0 ≤ gapV L := hgb.1
      obtain ⟨V, hV⟩ : ∃ V, gapV L = V := ⟨_, rfl⟩
      obtain ⟨G, hG⟩ : ∃ G, grt L L.length = G := ⟨_, rfl⟩
      rw [hV] at hg1 hg2 hgb2 ⊢
      rw [hG] at hg1
      have q1 : (V != V) = false := by simp
      have q4 : (true != true) = false := rfl
      have HG := Lib.hid hG
      have HIN := Lib.hid ht
      have HG2 := Lib.hid hg2
      clear hV hG ht hg2 hgb
      go_wp2_with fail
      refine (implSumSorted_any _ _ _ L _ (by omega) hO3.row).mono ?_
      rw [HIN.out, sortedOf_in HIN.out, sorted_length]
      rintro e w4 ⟨g4, c4, rfl, hO4, hB4⟩
      have hr4 := (hO3.behind hB4).row
      have hT4 := hT3.trans (hB4.mono hT3.size)
      clear hO3 hT3 hO4 hB4
      go_wp2_with fail
      refine (greatest_any _ _ _ L _ (by omega) hr4).mono ?_
      rw [HG.out]
      rintro e w5 ⟨rfl, rfl⟩
      clear hr4
      by_cases h0 : L.length = 0
      · have p1 : decide ((L.length : Int) = 0) = true := by simp [h0]
        have p2 : ((L.length : Int) == 0) = true := by simp [h0]
        go_wp2
        go_ret
        first | exact ⟨rfl, hT4⟩ | exact ⟨by simp, hT4⟩
      · have p1 : decide ((L.length : Int) = 0) = false := decide_eq_false (by omega)
        have p2 : ((L.length : Int) == 0) = false := by rw [beq_eq_false_iff_ne]; omega
        have hv1 := HG2.out (by omega)
        go_wp2
        go_ret
        first | exact ⟨rfl, hT4⟩ | exact ⟨by simp, hT4⟩

end Go.Proofs.Ytbechpbfefdmgaa
