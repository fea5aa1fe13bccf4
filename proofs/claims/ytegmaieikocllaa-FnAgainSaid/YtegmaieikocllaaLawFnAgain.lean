/- The law FnAgain, walked out of the contracts of the functions that it calls. -/
import Derived.Test.YtegmaieikocllaaDrawSack
import Derived.Test.YtegmaieikocllaaAgain
import Derived.Test.YtegmaieikocllaaSackLaws
namespace Go.Proofs.Ytegmaieikocllaa
open Go.RowKit
set_option linter.unusedVariables false
set_option maxHeartbeats 1600000

theorem fnAgain_core (A : Option Addr) (c : Nat) (zs : List Int) (w : World) (hc : zs.length ≤ c) (hA : ReadsB w A zs) :
    Calls Try.prog 13 #[.slice A zs.length c] w fun e w' => e = .returned (.bool true) ∧ Below w.heap.size w w' := by
  by_cases hbig : 1048576 < zs.length
  · go_enter Try.func13, Try.ntmps13
    go_wp2
    go_ret
    exact ⟨rfl, Below.refl _ _⟩
  · go_enter Try.func13, Try.ntmps13
    go_wp2_with fail
    refine (drawSackAgain_any A c zs _ (by omega) hc hA).mono ?_
    rintro e w1 ⟨g, c1, k, L, room, rfl, hO, hk, ⟨hr1, hr2⟩, hB1⟩
    have hz := hO.1
    go_wp2_with fail
    refine (implSackAgain_any _ _ _ _ room L _ (by omega) hz hO.row).mono ?_
    rintro e w2 ⟨rfl, hB2⟩
    have hO2 := hO.behind hB2
    have hT2 := hB1.trans (hB2.mono hB1.size)
    go_wp2_with fail
    refine (specSackAgain_any _ _ _ _ room L _ (by omega) hz hO2.row).mono ?_
    rintro e w3 ⟨rfl, hB3⟩
    have hO3 := hO2.behind hB3
    have hT3 := hT2.trans (hB3.mono hT2.size)
    clear hO hB1 hB2 hO2 hB3 hT2
    cases ht : told L k room
    · obtain ⟨V, hV⟩ : ∃ V, againV L k room = V := ⟨_, rfl⟩
      rw [hV]
      have q1 : (V != V) = false := by simp
      have q2 : (V == V) = true := by simp
      have q3 : decide (V = V) = true := by simp
      have q4 : (false != false) = false := rfl
      have q5 : (false == false) = true := rfl
      clear hV
      go_wp2
      go_ret
      exact ⟨rfl, hT3⟩

    · obtain ⟨hin, h0, h6⟩ := told_yes ht
      obtain ⟨R, rfl⟩ := Int.eq_ofNat_of_zero_le h0
      have ht2 : told L k ((R : Int) / 2) = true := by unfold told; rw [hin]; simp; omega
      have e2 : (R : Int) / 2 = ((R / 2 : Nat) : Int) := by omega
      have v1 : againV L k (R : Int) = aV L k R := againV_yes ht
      have v2 : againV L k ((R : Int) / 2) = aV L k (R / 2) := by rw [e2]; rw [e2] at ht2; exact againV_yes ht2
      have v3 : sackV L k (R : Int) = bestV L k (R : Int) (2 ^ k) := by unfold sackV; rw [ht, if_pos rfl]
      have f1 := again_best hin R (2 ^ k)
      have f2 := again_twice hin R
      have f3 := aV_bd hin (R / 2)
      rw [v1]
      obtain ⟨V, hV⟩ : ∃ V, aV L k R = V := ⟨_, rfl⟩
      obtain ⟨H, hH⟩ : ∃ H, aV L k (R / 2) = H := ⟨_, rfl⟩
      obtain ⟨N, hN⟩ : ∃ N, bestV L k (R : Int) (2 ^ k) = N := ⟨_, rfl⟩
      rw [hV, hN] at f1
      rw [hV, hH] at f2
      rw [hH] at f3 v2
      rw [hN] at v3
      rw [hV]
      obtain ⟨f3, f4⟩ := f3
      have q1 : (V != V) = false := by simp
      have q4 : (true != true) = false := rfl
      have V2 := Lib.hid v2
      have V3 := Lib.hid v3
      clear hV hH hN v1 v2 v3 e2
      go_wp2_with fail
      refine (implSackBest_any _ _ _ _ (R : Int) L _ (by omega) hz hO3.row).mono ?_
      rw [V3.out, ht]
      rintro e w4 ⟨rfl, hB4⟩
      have hO4 := hO3.behind hB4
      have hT4 := hT3.trans (hB4.mono hT3.size)
      go_wp2_with fail
      refine (implSackAgain_any _ _ _ _ ((R : Int) / 2) L _ (by omega) hz hO4.row).mono ?_
      rw [V2.out, ht2]
      rintro e w5 ⟨rfl, hB5⟩
      have hT5 := hT4.trans (hB5.mono hT4.size)
      go_wp2
      go_ret
      exact ⟨rfl, hT5⟩

end Go.Proofs.Ytegmaieikocllaa
