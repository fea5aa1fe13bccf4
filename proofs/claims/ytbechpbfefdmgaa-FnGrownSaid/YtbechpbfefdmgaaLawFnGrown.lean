/- The law FnGrown, walked out of the contracts of the functions that it calls. -/
import Derived.Test.YtbechpbfefdmgaaDrawGrown
import Derived.Test.YtbechpbfefdmgaaGrown
import Derived.Test.YtbechpbfefdmgaaMissing
import Derived.Test.YtbechpbfefdmgaaSumSorted
import Derived.Test.YtbechpbfefdmgaaSumLaws
import Derived.Test.YtbechpbfefdmgaaSame
namespace Go.Proofs.Ytbechpbfefdmgaa
open Go.RowKit
set_option linter.unusedVariables false
set_option maxHeartbeats 1600000

theorem grownB_is {L : List Int} (h : grownB L = true) : isIn L = true ∧ ∀ j, j < L.length → tot L j < L[j]?.getD 0 := by
  unfold grownB at h
  simp only [Bool.and_eq_true, List.all_eq_true, List.mem_range, decide_eq_true_eq] at h
  exact h

theorem fnGrown_core (A : Option Addr) (c : Nat) (zs : List Int) (w : World) (hc : zs.length ≤ c) (hA : ReadsB w A zs) :
    Calls Try.prog 6 #[.slice A zs.length c] w fun e w' => e = .returned (.bool true) ∧ Below w.heap.size w w' := by
  by_cases hbig : 1048576 < zs.length
  · go_enter Try.func6, Try.ntmps6
    go_wp2
    go_ret
    exact ⟨rfl, Below.refl _ _⟩
  · go_enter Try.func6, Try.ntmps6
    go_wp2_with fail
    refine (drawSumGrown_any A c zs _ (by omega) hc hA).mono ?_
    rintro e w1 ⟨g, c1, L, rfl, hO, hD, hl, hB1⟩
    go_wp2_with fail
    refine (implSumGrown_any _ _ _ L _ (by omega) hO.row).mono ?_
    rintro e w2 ⟨rfl, hB2⟩
    have hO2 := hO.behind hB2
    have hT2 := hB1.trans (hB2.mono hB1.size)
    go_wp2_with fail
    refine (specSumGrown_any _ _ _ L _ (by omega) hO2.row).mono ?_
    rintro e w3 ⟨rfl, hB3⟩
    have hO3 := hO2.behind hB3
    have hT3 := hT2.trans (hB3.mono hT2.size)
    clear hO hB1 hB2 hO2 hB3 hT2
    cases ht : grownB L
    · have q4 : (false != false) = false := rfl
      have q5 : (false == false) = true := rfl
      go_wp2
      go_ret
      exact ⟨rfl, hT3⟩
    · obtain ⟨hin, hg⟩ := grownB_is ht
      have hlen := isIn_len hin
      have hid := sorted_id (grown_up hin hg)
      have hap : apartB L = true := by
        rw [apart_in hin]
        refine low_yes fun j hj => ?_
        have hj' := hj
        unfold counts at hj' ⊢
        rw [countsTo_length] at hj'
        rw [countsTo_getD L L.length j hj']
        have := cnt_apart hin L.length hg (j : Int)
        omega
      have q4 : (true != true) = false := rfl
      have HIN := Lib.hid hin
      have HID := Lib.hid hid
      have HAP := Lib.hid hap
      clear ht hin hg hid hap
      go_wp2_with fail
      refine (implSumSorted_any _ _ _ L _ (by omega) hO3.row).mono ?_
      rw [HIN.out, sortedOf_in HIN.out, HID.out]
      rintro e w4 ⟨g4, c4, rfl, hO4, hB4⟩
      have hO3b := hO3.behind hB4
      have hT4 := hT3.trans (hB4.mono hT3.size)
      clear hO3 hT3 hB4
      have q6 : decide (L = L) = true := by simp
      go_wp2_with fail
      refine (sameInts_any _ _ _ _ _ _ L L _ (by omega) (by omega) hO3b.row hO4.row).mono ?_
      rintro e w5 ⟨rfl, m5, rfl⟩
      go_wp2_with fail
      refine (implSumApart_any _ _ _ L _ (by omega) (hO3b.drewN m5).row).mono ?_
      rw [HAP.out]
      rintro e w6 ⟨rfl, hB6⟩
      have hT6 := (below_drewN hT4 m5).trans (hB6.mono hT4.size)
      go_wp2
      go_ret
      exact ⟨rfl, hT6⟩

end Go.Proofs.Ytbechpbfefdmgaa
