/- The law FnItems, walked out of the contracts of the functions that it calls. -/
import Derived.Test.YtegmaieikocllaaDrawSack
import Derived.Test.YtegmaieikocllaaSackBest
import Derived.Test.YtegmaieikocllaaSackLaws
namespace Go.Proofs.Ytegmaieikocllaa
open Go.RowKit
set_option linter.unusedVariables false
set_option maxHeartbeats 1600000

theorem told_small {zs : List Int} {n : Nat} {room : Int} (h : itemsIn zs n = true) (h0 : 0 ≤ room) (h6 : room ≤ 600) : told zs n room = true := by
  unfold told; rw [h]; simp; omega

theorem fnItems_core (A : Option Addr) (c : Nat) (zs : List Int) (w : World) (hc : zs.length ≤ c) (hA : ReadsB w A zs) :
    Calls Try.prog 10 #[.slice A zs.length c] w fun e w' => e = .returned (.bool true) ∧ Below w.heap.size w w' := by
  by_cases hbig : 1048576 < zs.length
  · go_enter Try.func10, Try.ntmps10
    go_wp2
    go_ret
    exact ⟨rfl, Below.refl _ _⟩
  · go_enter Try.func10, Try.ntmps10
    go_wp2_with fail
    refine (drawSackIn_any A c zs _ (by omega) hc hA).mono ?_
    rintro e w1 ⟨g, c1, k, L, rfl, hO, hk, hB1⟩
    have hz := hO.1
    go_wp2_with fail
    refine (implSackIn_any _ _ _ _ L _ (by omega) hz hO.row).mono ?_
    rintro e w2 ⟨rfl, hB2⟩
    have hO2 := hO.behind hB2
    have hT2 := hB1.trans (hB2.mono hB1.size)
    go_wp2_with fail
    refine (specSackIn_at _ _ _ _ L _ (by omega) hz hO2.row).mono ?_
    rintro e w3 ⟨rfl, rfl⟩
    clear hO hB1 hB2
    cases hin : itemsIn L k
    · have q : (false != false) = false := rfl
      go_wp2
      go_ret
      exact ⟨rfl, hT2⟩
    · have q : (true != true) = false := rfl
      have v0 : sackV L k 0 = 0 := by unfold sackV; rw [told_small hin (by omega) (by omega), if_pos rfl]; exact best_zero hin _
      have v6 : sackV L k 600 = sumI (wo L) k := by unfold sackV; rw [told_small hin (by omega) (by omega), if_pos rfl]; exact best_all hin
      have t0 := told_small hin (room := 0) (by omega) (by omega)
      have t6 := told_small hin (room := 600) (by omega) (by omega)
      have hsb := fun j hj => sumI_bd (f := wo L) (n := k) (B := 1000) (fun i hi => by have := itemsIn_get hin i hi; omega) j hj
      obtain ⟨S, hS⟩ : ∃ S, sumI (wo L) k = S := ⟨_, rfl⟩
      rw [hS] at v6
      have HS := Lib.hid hS
      have HSB := Lib.hid hsb
      clear hS hsb hin
      go_wp2_with fail
      refine (implSackBest_any _ _ _ _ 0 L _ (by omega) hz hO2.row).mono ?_
      rw [v0, t0]
      rintro e w3 ⟨rfl, hB3⟩
      have hO3 := hO2.behind hB3
      have hT3 := hT2.trans (hB3.mono hT2.size)
      clear hO2 hB3 hT2
      go_wp2_with fail
      refine (implSackBest_any _ _ _ _ 600 L _ (by omega) hz hO3.row).mono ?_
      rw [v6, t6]
      rintro e w4 ⟨rfl, hB4⟩
      have hO4 := hO3.behind hB4
      have hT4 := hT3.trans (hB4.mono hT3.size)
      clear hO3 hB4 hT3
      have hr := hO4.row
      have HO := Lib.hid hO4
      clear hO4 v0 v6 t0 t6
      go_wp2
      go_loop [11, 10] (fun i s => ∃ j : Nat, j ≤ k ∧ i = .int .i64 j ∧ s = .int .i64 (sumI (wo L) j)) (fun i _ => k - (intOf i).toNat)
      case atStart => exact ⟨0, Nat.zero_le _, rfl, rfl⟩
      case round =>
        obtain ⟨j, hj, rfl, rfl⟩ := hrel
        have hb := HSB.out j hj
        by_cases hlt : j < k
        · have c2 := Row.wo0 hr hz j hlt
          have hb2 := HSB.out (j + 1) (by omega)
          have hst : sumI (wo L) (j + 1) = sumI (wo L) j + wo L j := rfl
          obtain ⟨y, hy⟩ : ∃ y, wo L j = y := ⟨_, rfl⟩
          obtain ⟨s, hs⟩ : ∃ s, sumI (wo L) j = s := ⟨_, rfl⟩
          rw [hy, hs] at hst
          rw [hst] at hb2
          rw [hs] at hb ⊢
          rw [hy] at c2
          have HST := Lib.hid hst
          clear hy hs hst hr
          go_wp2
          go_round
          case rel => exact ⟨j + 1, by omega, by go_num, by rw [HST.out]⟩
          case measure => simp [intOf]; omega
        · obtain rfl : j = k := by omega
          rw [HS.out]
          have q1 : decide (S = S) = true := by simp
          have q2 : (S == S) = true := by simp
          have q3 : decide ((0 : Int) = 0) = true := by simp
          have q4 : ((0 : Int) == 0) = true := by simp
          go_wp2
          go_ret
          exact ⟨rfl, hT4⟩

end Go.Proofs.Ytegmaieikocllaa
