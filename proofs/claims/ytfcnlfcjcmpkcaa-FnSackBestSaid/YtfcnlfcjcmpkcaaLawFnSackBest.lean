/- The law FnSackBest, walked out of the contracts of the functions that it calls. -/
import Derived.Test.YtfcnlfcjcmpkcaaDrawSack
import Derived.Test.YtfcnlfcjcmpkcaaSackGreedy
namespace Go.Proofs.Ytfcnlfcjcmpkcaa
open Go.RowKit
set_option linter.unusedVariables false
set_option maxHeartbeats 1600000

theorem fnSackBest_core (A : Option Addr) (c : Nat) (zs : List Int) (w : World) (hc : zs.length ≤ c) (hA : ReadsB w A zs) :
    Calls Try.prog 9 #[.slice A zs.length c] w fun e w' => e = .returned (.bool true) ∧ Below w.heap.size w w' := by
  by_cases hbig : 1048576 < zs.length
  · go_enter Try.func9, Try.ntmps9
    go_wp2
    go_ret
    exact ⟨rfl, Below.refl _ _⟩
  · go_enter Try.func9, Try.ntmps9
    go_wp2_with fail
    refine (drawSackBest_any A c zs _ (by omega) hc hA).mono ?_
    rintro e w1 ⟨g, c1, k, L, room, rfl, hO, hk, ⟨hr1, hr2⟩, hB1⟩
    have hz := hO.1
    go_wp2_with fail
    refine (implSackBest_any _ _ _ _ room L _ (by omega) hz hO.row).mono ?_
    rintro e w2 ⟨rfl, hB2⟩
    have hO2 := hO.behind hB2
    have hT2 := hB1.trans (hB2.mono hB1.size)
    go_wp2_with fail
    refine (specSackBest_any _ _ _ _ room L _ (by omega) hz hO2.row).mono ?_
    rintro e w3 ⟨rfl, hB3⟩
    have hO3 := hO2.behind hB3
    have hT3 := hT2.trans (hB3.mono hT2.size)
    clear hO hB1 hB2 hO2 hB3 hT2
    cases ht : told L k room
    · obtain ⟨V, hV⟩ : ∃ V, sackV L k room = V := ⟨_, rfl⟩
      rw [hV]
      have q1 : (V != V) = false := by simp
      have q2 : (V == V) = true := by simp
      have q3 : decide (V = V) = true := by simp
      have q4 : (false != false) = false := rfl
      have q5 : (false == false) = true := rfl
      clear hV
      go_wp2
      go_ret
      exact ⟨rfl, hT3⟩

    · obtain ⟨hin, h0, h6⟩ := told_yes ht
      have hlen := itemsIn_len hin
      have v1 : sackV L k room = bestV L k room (2 ^ k) := by unfold sackV; rw [ht, if_pos rfl]
      have v2 : greedyV L k room = greedy L k room := by unfold greedyV; rw [ht, if_pos rfl]
      have v3 : sackBoundV L k room = bnd L (dense L k) room := by unfold sackBoundV; rw [ht, if_pos rfl]
      have f1 := best_bound hin room h0
      have f2 := best_greedy hin room h0
      have f3 := best_twice hin room h0
      have f4 := bestV_bd hin room (2 ^ k)
      rw [v1]
      obtain ⟨V, hV⟩ : ∃ V, bestV L k room (2 ^ k) = V := ⟨_, rfl⟩
      obtain ⟨G, hG⟩ : ∃ G, greedy L k room = G := ⟨_, rfl⟩
      obtain ⟨B, hB⟩ : ∃ B, bnd L (dense L k) room = B := ⟨_, rfl⟩
      rw [hV, hB] at f1
      rw [hV, hG] at f2 f3
      rw [hV] at f4
      rw [hG] at v2
      rw [hB] at v3
      rw [hV]
      have q1 : (V != V) = false := by simp
      have q4 : (true != true) = false := rfl
      have V2 := Lib.hid v2
      have V3 := Lib.hid v3
      have HTT := Lib.hid ht
      clear hV hG hB v1 v2 v3 hin ht
      go_wp2_with fail
      refine (implSackGreedy_any _ _ _ _ room L _ (by omega) hz hO3.row).mono ?_
      rw [V2.out, HTT.out]
      rintro e w4 ⟨rfl, hB4⟩
      have hO4 := hO3.behind hB4
      have hT4 := hT3.trans (hB4.mono hT3.size)
      clear hB4 hT3 hO3
      go_wp2_with fail
      refine (implSackBound_any _ _ _ _ room L _ (by omega) hz hO4.row).mono ?_
      rw [V3.out, HTT.out]
      rintro e w5 ⟨rfl, hB5⟩
      have hT5 := hT4.trans (hB5.mono hT4.size)
      clear hB5 hT4 hO4
      go_wp2
      go_ret
      exact ⟨rfl, hT5⟩

end Go.Proofs.Ytfcnlfcjcmpkcaa
