/- The law FnSackBound, walked out of the contracts of the functions that it calls. -/
import Derived.Test.YtfcnlfcjcmpkcaaDrawSack
import Derived.Test.YtfcnlfcjcmpkcaaSackGreedy
namespace Go.Proofs.Ytfcnlfcjcmpkcaa
open Go.RowKit
set_option linter.unusedVariables false
set_option maxHeartbeats 1600000

theorem fnSackBound_core (A : Option Addr) (c : Nat) (zs : List Int) (w : World) (hc : zs.length ≤ c) (hA : ReadsB w A zs) :
    Calls Try.prog 4 #[.slice A zs.length c] w fun e w' => e = .returned (.bool true) ∧ Below w.heap.size w w' := by
  by_cases hbig : 1048576 < zs.length
  · go_enter Try.func4, Try.ntmps4
    go_wp2
    go_ret
    exact ⟨rfl, Below.refl _ _⟩
  · go_enter Try.func4, Try.ntmps4
    go_wp2_with fail
    refine (drawSackBound_any A c zs _ (by omega) hc hA).mono ?_
    rintro e w1 ⟨g, c1, k, L, room, rfl, hO, hk, ⟨hr1, hr2⟩, hB1⟩
    have hz := hO.1
    go_wp2_with fail
    refine (implSackBound_any _ _ _ _ room L _ (by omega) hz hO.row).mono ?_
    rintro e w2 ⟨rfl, hB2⟩
    have hO2 := hO.behind hB2
    have hT2 := hB1.trans (hB2.mono hB1.size)
    go_wp2_with fail
    refine (specSackBound_any _ _ _ _ room L _ (by omega) hz hO2.row).mono ?_
    rintro e w3 ⟨rfl, hB3⟩
    have hO3 := hO2.behind hB3
    have hT3 := hT2.trans (hB3.mono hT2.size)
    clear hO hB1 hB2 hO2 hB3 hT2
    cases ht : told L k room
    · obtain ⟨V, hV⟩ : ∃ V, sackBoundV L k room = V := ⟨_, rfl⟩
      rw [hV]
      have q1 : (V != V) = false := by simp
      have q2 : (V == V) = true := by simp
      have q3 : decide (V = V) = true := by simp
      have q4 : (false != false) = false := rfl
      have q5 : (false == false) = true := rfl
      clear hV
      go_wp2
      go_ret
      exact ⟨rfl, hT3⟩

    · obtain ⟨hin, h0, h6⟩ := told_yes ht
      have v1 : sackBoundV L k room = bnd L (dense L k) room := by unfold sackBoundV; rw [ht, if_pos rfl]
      rw [v1]
      by_cases h6' : room = 600
      · have p4 : decide (room = 600) = true := by simp [h6']
        have p5 : (room == 600) = true := by simp [h6']
        obtain ⟨V, hV⟩ : ∃ V, bnd L (dense L k) room = V := ⟨_, rfl⟩
        rw [hV]
        have q1 : (V != V) = false := by simp
        have q4 : (true != true) = false := rfl
        clear h6' hV v1 hin ht
        go_wp2_with fail
        refine (implSackBound_any _ _ _ _ (room + 1) L _ (by omega) hz hO3.row).mono ?_
        rintro e w4 ⟨rfl, hB4⟩
        have hT4 := hT3.trans (hB4.mono hT3.size)
        clear hB4 hT3 hO3
        go_wp2
        go_ret
        exact ⟨rfl, hT4⟩
      · have p4 : decide (room = 600) = false := by simp [h6']
        have p5 : (room == 600) = false := by simp [h6']
        have ht2 : told L k (room + 1) = true := by unfold told; rw [hin]; simp; omega
        have v2 : sackBoundV L k (room + 1) = bnd L (dense L k) (room + 1) := by unfold sackBoundV; rw [ht2, if_pos rfl]
        have hm := bnd_mono (dense_good hin) room h0
        rw [← v2] at hm
        obtain ⟨V, hV⟩ : ∃ V, bnd L (dense L k) room = V := ⟨_, rfl⟩
        obtain ⟨U, hU⟩ : ∃ U, sackBoundV L k (room + 1) = U := ⟨_, rfl⟩
        rw [hU, hV] at hm
        rw [hV]
        have q1 : (V != V) = false := by simp
        have q4 : (true != true) = false := rfl
        have HU := Lib.hid hU
        have HT2 := Lib.hid ht2
        clear h6' hV hU v1 v2 hin ht ht2
        go_wp2_with fail
        refine (implSackBound_any _ _ _ _ (room + 1) L _ (by omega) hz hO3.row).mono ?_
        rw [HU.out, HT2.out]
        rintro e w4 ⟨rfl, hB4⟩
        have hT4 := hT3.trans (hB4.mono hT3.size)
        clear hB4 hT3 hO3
        go_wp2
        go_ret
        exact ⟨rfl, hT4⟩

end Go.Proofs.Ytfcnlfcjcmpkcaa
