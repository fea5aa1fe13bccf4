/- The law FnFront, walked out of the contracts of the functions that it calls. -/
import Derived.Test.YtegmaieikocllaaDrawSack
import Derived.Test.YtegmaieikocllaaFront
import Derived.Test.YtegmaieikocllaaSame
import Derived.Test.YtegmaieikocllaaSackLaws
namespace Go.Proofs.Ytegmaieikocllaa
open Go.RowKit
set_option linter.unusedVariables false
set_option maxHeartbeats 1600000

theorem fnFront_core (A : Option Addr) (c : Nat) (zs : List Int) (w : World) (hc : zs.length ≤ c) (hA : ReadsB w A zs) :
    Calls Try.prog 12 #[.slice A zs.length c] w fun e w' => e = .returned (.bool true) ∧ Below w.heap.size w w' := by
  by_cases hbig : 1048576 < zs.length
  · go_enter Try.func12, Try.ntmps12
    go_wp2
    go_ret
    exact ⟨rfl, Below.refl _ _⟩
  · go_enter Try.func12, Try.ntmps12
    go_wp2_with fail
    refine (drawSackFront_any A c zs _ (by omega) hc hA).mono ?_
    rintro e w1 ⟨g, c1, k, L, room, rfl, hO, hk, ⟨hr1, hr2⟩, hB1⟩
    have hz := hO.1
    go_wp2_with fail
    refine (implSackFront_any _ _ _ _ room L _ (by omega) hz hO.row).mono ?_
    rintro e w2 ⟨g2, c2, rfl, hG2, hB2⟩
    have hO2 := hO.behind hB2
    have hT2 := hB1.trans (hB2.mono hB1.size)
    go_wp2_with fail
    refine (specSackFront_any _ _ _ _ room L _ (by omega) hz hO2.row).mono ?_
    rintro e w3 ⟨g3, c3, rfl, hG3, hB3⟩
    have hO3 := hO2.behind hB3
    have hG23 := hG2.behind hB3
    have hT3 := hT2.trans (hB3.mono hT2.size)
    have hFl := frontOf_len L k room
    clear hO hB1 hB2 hO2 hB3 hT2 hG2
    have q4 : (told L k room != told L k room) = false := by simp
    have q6 : decide (frontOf L k room = frontOf L k room) = true := by simp
    go_wp2_with fail
    refine (sameInts_any _ _ _ _ _ _ (frontOf L k room) (frontOf L k room) _ (by omega) (by omega) hG23.row hG3.row).mono ?_
    rintro e w4 ⟨rfl, m4, rfl⟩
    have hO4 := hO3.drewN m4
    have hG4 := hG23.drewN m4
    have hG5 := hG3.drewN m4
    have hT4 := below_drewN hT3 m4
    obtain ⟨W4, hW4⟩ : ∃ W4, w3.drewN m4 = W4 := ⟨_, rfl⟩
    rw [hW4] at hO4 hG4 hG5 hT4 ⊢
    clear hW4 hO3 hG23 hG3 hT3
    cases ht : told L k room
    · have q5 : (false == false) = true := rfl
      rw [ht] at q4
      go_wp2_with fail
      refine (sameInts_any _ _ _ _ _ _ (frontOf L k room) (frontOf L k room) _ (by omega) (by omega) hG4.row hG5.row).mono ?_
      rintro e w5 ⟨rfl, m5, rfl⟩
      go_wp2
      go_ret
      exact ⟨rfl, below_drewN hT4 m5⟩

    · obtain ⟨hin, h0, h6⟩ := told_yes ht
      obtain ⟨R, rfl⟩ := Int.eq_ofNat_of_zero_le h0
      have hF := frontOf_yes ht
      have v3 : sackV L k (R : Int) = bestV L k (R : Int) (2 ^ k) := by unfold sackV; rw [ht, if_pos rfl]
      have hFL : (frontOf L k (R : Int)).length = R + 1 := by rw [hF, tab_length]
      have hat : ∀ r : Nat, r ≤ R → (frontOf L k (R : Int))[r]?.getD 0 = bestV L k (r : Int) (2 ^ k) := fun r hr => by rw [hF, tab_get _ _ _ (by omega)]
      obtain ⟨F, hFF⟩ : ∃ F, frontOf L k (R : Int) = F := ⟨_, rfl⟩
      rw [hFF] at hFL hat hG4 hFl ⊢
      clear hFF hF q6
      rw [ht] at q4
      go_wp2_with fail
      refine (implSackBest_any _ _ _ _ (R : Int) L _ (by omega) hz hO4.row).mono ?_
      rw [v3, ht]
      rintro e w5 ⟨rfl, hB5⟩
      have hr := (hG4.behind hB5).row
      have hT5 := hT4.trans (hB5.mono hT4.size)
      have hcell : ∀ r : Nat, r ≤ R → w5.cell? ⟨g2, r, none⟩ = some (.int .i64 (bestV L k (r : Int) (2 ^ k))) := fun r hr' => by
        have := hr.2 r (by omega)
        rwa [Nat.zero_add, hat r hr'] at this
      have hb0 : bestV L k 0 (2 ^ k) = 0 := best_zero hin _
      have hmon : ∀ r : Nat, bestV L k (r : Int) (2 ^ k) ≤ bestV L k ((r + 1 : Nat) : Int) (2 ^ k) := fun r => best_mono L k (by omega) _
      have HT := Lib.hid hT5
      have HC := Lib.hid hcell
      have HM := Lib.hid hmon
      have HB := Lib.hid hb0
      clear hr hFL hat v3 hG4 hG5 hO4 hT4 hB5 hT5 hcell hmon hb0 hFl
      go_wp2
      go_loopw [11] (fun i wr => ∃ r m : Nat, 1 ≤ r ∧ r ≤ R + 1 ∧ i = .int .i64 r ∧ wr = w5.drewN m) (fun i _ => R + 1 - (intOf i).toNat)
      case atStart => exact ⟨1, 0, by omega, by omega, rfl, rfl⟩
      case round =>
        obtain ⟨r, m, hr1, hr, rfl, rfl⟩ := hrel
        by_cases hlt : r < R + 1
        · have cA := HC.out r (by omega)
          obtain ⟨r', rfl⟩ : ∃ r', r = r' + 1 := ⟨r - 1, by omega⟩
          have cB := HC.out r' (by omega)
          have hm := HM.out r'
          have e1 : ((r' + 1 : Nat) : Int) - 1 = (r' : Int) := by omega
          obtain ⟨x, hx⟩ : ∃ x, bestV L k ((r' + 1 : Nat) : Int) (2 ^ k) = x := ⟨_, rfl⟩
          obtain ⟨y, hy⟩ : ∃ y, bestV L k (r' : Int) (2 ^ k) = y := ⟨_, rfl⟩
          rw [hx] at cA hm
          rw [hy] at cB hm
          clear hx hy
          go_wp2
          go_quiet (fail)
          go_wp2
          go_roundw
          case rel => exact ⟨r' + 1 + 1, _, by omega, by omega, by go_num, rfl⟩
          case measure => simp [intOf]; omega
        · obtain rfl : r = R + 1 := by omega
          have cA := HC.out 0 (by omega)
          have cB := HC.out R (Nat.le_refl _)
          have e0 : bestV L k ((0 : Nat) : Int) (2 ^ k) = 0 := HB.out
          rw [e0] at cA
          obtain ⟨x, hx⟩ : ∃ x, bestV L k (R : Int) (2 ^ k) = x := ⟨_, rfl⟩
          rw [hx] at cB ⊢
          have q1 : (x == x) = true := by simp
          have q2 : decide (x = x) = true := by simp
          have q7 : (((R : Int) + 1) == ((R : Int) + 1)) = true := by simp
          have q8 : decide ((R : Int) + 1 = (R : Int) + 1) = true := by simp
          clear hx
          go_wp2
          go_ret
          exact ⟨rfl, below_drewN HT.out _⟩

end Go.Proofs.Ytegmaieikocllaa
