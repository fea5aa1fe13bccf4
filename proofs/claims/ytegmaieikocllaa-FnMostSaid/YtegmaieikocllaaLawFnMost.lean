/- The law FnMost, walked out of the contracts of the functions that it calls. -/
import Derived.Test.YtegmaieikocllaaDrawSack
import Derived.Test.YtegmaieikocllaaMost
import Derived.Test.YtegmaieikocllaaSackLaws
namespace Go.Proofs.Ytegmaieikocllaa
open Go.RowKit
set_option linter.unusedVariables false
set_option maxHeartbeats 1600000

theorem fnMost_core (A : Option Addr) (c : Nat) (zs : List Int) (w : World) (hc : zs.length ≤ c) (hA : ReadsB w A zs) :
    Calls Try.prog 14 #[.slice A zs.length c] w fun e w' => e = .returned (.bool true) ∧ Below w.heap.size w w' := by
  by_cases hbig : 1048576 < zs.length
  · go_enter Try.func14, Try.ntmps14
    go_wp2
    go_ret
    exact ⟨rfl, Below.refl _ _⟩
  · go_enter Try.func14, Try.ntmps14
    go_wp2_with fail
    refine (drawSackMost_any A c zs _ (by omega) hc hA).mono ?_
    rintro e w1 ⟨g, c1, k, L, room, rfl, hO, hk, ⟨hr1, hr2⟩, hB1⟩
    have hz := hO.1
    go_wp2_with fail
    refine (implSackMost_any _ _ _ _ room L _ (by omega) hz hO.row).mono ?_
    rintro e w2 ⟨rfl, hB2⟩
    have hO2 := hO.behind hB2
    have hT2 := hB1.trans (hB2.mono hB1.size)
    go_wp2_with fail
    refine (specSackMost_any _ _ _ _ room L _ (by omega) hz hO2.row).mono ?_
    rintro e w3 ⟨rfl, hB3⟩
    have hO3 := hO2.behind hB3
    have hT3 := hT2.trans (hB3.mono hT2.size)
    clear hO hB1 hB2 hO2 hB3 hT2
    cases ht : told L k room
    · obtain ⟨V, hV⟩ : ∃ V, mostV L k room = V := ⟨_, rfl⟩
      rw [hV]
      have q1 : (V != V) = false := by simp
      have q2 : (V == V) = true := by simp
      have q3 : decide (V = V) = true := by simp
      have q4 : (false != false) = false := rfl
      have q5 : (false == false) = true := rfl
      clear hV
      go_wp2
      go_ret
      exact ⟨rfl, hT3⟩

    · obtain ⟨hin, h0, h6⟩ := told_yes ht
      have hlen := itemsIn_len hin
      have v1 : mostV L k room = most L k room := by unfold mostV; rw [ht, if_pos rfl]
      obtain ⟨f1, f2⟩ := mostTo_bd hz room (2 ^ k)
      have hall := most_all hz room h0
      have hnext : room ≠ 600 → told L k (room + 1) = true ∧ most L k room ≤ mostV L k (room + 1) := by
        intro h
        have ht2 : told L k (room + 1) = true := by unfold told; rw [hin]; simp; omega
        refine ⟨ht2, ?_⟩
        unfold mostV
        rw [ht2, if_pos rfl]
        exact best_mono (ones L) k (by omega) _
      have hsb := fun j hj => sumI_bd (f := wt L) (n := k) (B := 60) (fun i hi => by have := itemsIn_get hin i hi; omega) j hj
      rw [v1]
      have f1' : 0 ≤ most L k room := f1
      have f2' : most L k room ≤ k := f2
      obtain ⟨V, hV⟩ : ∃ V, most L k room = V := ⟨_, rfl⟩
      rw [hV] at f1' f2' hall hnext ⊢
      have q1 : (V != V) = false := by simp
      have q4 : (true != true) = false := rfl
      have HIN := Lib.hid hin
      have HU := Lib.hid hnext
      have HSB := Lib.hid hsb
      have HALL := Lib.hid hall
      have hr := hO3.row
      have HO := Lib.hid hO3
      have HT := Lib.hid hT3
      clear hV v1 f1 f2 hin hnext hsb hall ht hO3 hT3
      go_wp2
      go_loop [10, 9] (fun i s => ∃ j : Nat, j ≤ k ∧ i = .int .i64 j ∧ s = .int .i64 (sumI (wt L) j)) (fun i _ => k - (intOf i).toNat)
      case atStart => exact ⟨0, Nat.zero_le _, rfl, rfl⟩
      case round =>
        obtain ⟨j, hj, rfl, rfl⟩ := hrel
        have hb := HSB.out j hj
        by_cases hlt : j < k
        · have c2 := Row.wt0 hr hz j hlt
          have hb2 := HSB.out (j + 1) (by omega)
          have hst : sumI (wt L) (j + 1) = sumI (wt L) j + wt L j := rfl
          obtain ⟨y, hy⟩ : ∃ y, wt L j = y := ⟨_, rfl⟩
          obtain ⟨s, hs⟩ : ∃ s, sumI (wt L) j = s := ⟨_, rfl⟩
          rw [hy, hs] at hst
          rw [hst] at hb2
          rw [hs] at hb ⊢
          rw [hy] at c2
          have HST := Lib.hid hst
          clear hy hs hst hr
          go_wp2
          go_round
          case rel => exact ⟨j + 1, by omega, by go_num, by rw [HST.out]⟩
          case measure => simp [intOf]; omega
        · obtain rfl : j = k := by omega
          have hall := HALL.out
          obtain ⟨S, hS⟩ : ∃ S, sumI (wt L) j = S := ⟨_, rfl⟩
          rw [hS] at hall hb ⊢
          clear hS hr
          by_cases hVk : V = (j : Int)
          · have HE := Lib.hid hVk
            have hs2 : S ≤ room := hall.1 hVk
            have p1 : decide (V = (j : Int)) = true := by simp [hVk]
            have p2 : (V == (j : Int)) = true := by simp [hVk]
            have p3 : (true == true) = true := rfl
            clear hVk hall
            by_cases h6' : room = 600
            · have p4 : decide (room = 600) = true := by simp [h6']
              have p5 : (room == 600) = true := by simp [h6']
              clear h6'
              go_wp2_with fail
              refine (implSackMost_any _ _ _ _ (room + 1) L _ (by omega) hz HO.out.row).mono ?_
              rintro e w4 ⟨rfl, hB4⟩
              have hT4 := HT.out.trans (hB4.mono HT.out.size)
              clear hB4
              go_wp2
              go_ret
              first | exact ⟨rfl, hT4⟩ | exact ⟨by simp [hs2], hT4⟩
            · have p4 : decide (room = 600) = false := by simp [h6']
              have p5 : (room == 600) = false := by simp [h6']
              obtain ⟨hU1, hU2⟩ := HU.out h6'
              obtain ⟨U, hU⟩ : ∃ U, mostV L j (room + 1) = U := ⟨_, rfl⟩
              rw [hU] at hU2
              have HU3 := Lib.hid hU
              clear h6' hU
              go_wp2_with fail
              refine (implSackMost_any _ _ _ _ (room + 1) L _ (by omega) hz HO.out.row).mono ?_
              rw [HU3.out, hU1]
              rintro e w4 ⟨rfl, hB4⟩
              have hT4 := HT.out.trans (hB4.mono HT.out.size)
              clear hB4
              go_wp2
              go_ret
              first | exact ⟨rfl, hT4⟩ | exact ⟨by simp [hs2], hT4⟩
          · have HE := Lib.hid hVk
            have hs2 : ¬ S ≤ room := fun h => hVk (hall.2 h)
            have p1 : decide (V = (j : Int)) = false := by simp [hVk]
            have p2 : (V == (j : Int)) = false := by simp [hVk]
            have p3 : (false == false) = true := rfl
            clear hVk hall
            by_cases h6' : room = 600
            · have p4 : decide (room = 600) = true := by simp [h6']
              have p5 : (room == 600) = true := by simp [h6']
              clear h6'
              go_wp2_with fail
              refine (implSackMost_any _ _ _ _ (room + 1) L _ (by omega) hz HO.out.row).mono ?_
              rintro e w4 ⟨rfl, hB4⟩
              have hT4 := HT.out.trans (hB4.mono HT.out.size)
              clear hB4
              go_wp2
              go_ret
              first | exact ⟨rfl, hT4⟩ | exact ⟨by simp [hs2], hT4⟩
            · have p4 : decide (room = 600) = false := by simp [h6']
              have p5 : (room == 600) = false := by simp [h6']
              obtain ⟨hU1, hU2⟩ := HU.out h6'
              obtain ⟨U, hU⟩ : ∃ U, mostV L j (room + 1) = U := ⟨_, rfl⟩
              rw [hU] at hU2
              have HU3 := Lib.hid hU
              clear h6' hU
              go_wp2_with fail
              refine (implSackMost_any _ _ _ _ (room + 1) L _ (by omega) hz HO.out.row).mono ?_
              rw [HU3.out, hU1]
              rintro e w4 ⟨rfl, hB4⟩
              have hT4 := HT.out.trans (hB4.mono HT.out.size)
              clear hB4
              go_wp2
              go_ret
              first | exact ⟨rfl, hT4⟩ | exact ⟨by simp [hs2], hT4⟩
        

end Go.Proofs.Ytegmaieikocllaa
