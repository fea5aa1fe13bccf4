/- The law FnSackChoice, walked out of the contracts of the functions that it calls. -/
import Derived.Test.YtegmaieikocllaaDrawSack
import Derived.Test.YtegmaieikocllaaSackBest
import Derived.Test.YtegmaieikocllaaSackLaws
namespace Go.Proofs.Ytegmaieikocllaa
open Go.RowKit
set_option linter.unusedVariables false
set_option maxHeartbeats 1600000

theorem fnSackChoice_core (A : Option Addr) (c : Nat) (zs : List Int) (w : World) (hc : zs.length ≤ c) (hA : ReadsB w A zs) :
    Calls Try.prog 11 #[.slice A zs.length c] w fun e w' => e = .returned (.bool true) ∧ Below w.heap.size w w' := by
  by_cases hbig : 1048576 < zs.length
  · go_enter Try.func11, Try.ntmps11
    go_wp2
    go_ret
    exact ⟨rfl, Below.refl _ _⟩
  · go_enter Try.func11, Try.ntmps11
    go_wp2_with fail
    refine (drawSackChoice_any A c zs _ (by omega) hc hA).mono ?_
    rintro e w1 ⟨g, c1, k, L, room, rfl, hO, hk, ⟨hr1, hr2⟩, hB1⟩
    have hz := hO.1
    go_wp2_with fail
    refine (implSackChoice_any _ _ _ _ room L _ (by omega) hz hO.row).mono ?_
    rintro e w2 ⟨rfl, hB2⟩
    have hO2 := hO.behind hB2
    have hT2 := hB1.trans (hB2.mono hB1.size)
    go_wp2_with fail
    refine (specSackChoice_any _ _ _ _ room L _ (by omega) hz hO2.row).mono ?_
    rintro e w3 ⟨rfl, hB3⟩
    have hO3 := hO2.behind hB3
    have hT3 := hT2.trans (hB3.mono hT2.size)
    clear hO hB1 hB2 hO2 hB3 hT2
    cases ht : told L k room
    · obtain ⟨V, hV⟩ : ∃ V, sackA L k room = V := ⟨_, rfl⟩
      rw [hV]
      have q1 : (V != V) = false := by simp
      have q2 : (V == V) = true := by simp
      have q3 : decide (V = V) = true := by simp
      have q4 : (false != false) = false := rfl
      have q5 : (false == false) = true := rfl
      clear hV
      go_wp2
      go_ret
      exact ⟨rfl, hT3⟩

    · obtain ⟨hin, h0, h6⟩ := told_yes ht
      have hlen := itemsIn_len hin
      have v1 : sackA L k room = (bestA L k room (2 ^ k) : Int) := by unfold sackA; rw [ht, if_pos rfl]
      have v3 : sackV L k room = bestV L k room (2 ^ k) := by unfold sackV; rw [ht, if_pos rfl]
      obtain ⟨f1, f2, _⟩ := bestA_spec (zs := L) (n := k) h0 (2 ^ k)
      have f3 := bestA_bd L k room (2 ^ k)
      obtain ⟨N, hN, hN1, hN2, hN3⟩ := pow_walk k (by omega)
      rw [v1]
      obtain ⟨a, ha⟩ : ∃ a, bestA L k room (2 ^ k) = a := ⟨_, rfl⟩
      rw [ha] at f1 f2 f3 ⊢
      rw [← f2] at v3
      rw [hN] at f3
      have hk32 : a < 4294967296 := by omega
      have q1 : ((a : Int) != (a : Int)) = false := by simp
      have q4 : (true != true) = false := rfl
      have V3 := Lib.hid v3
      have HIN := Lib.hid hin
      have F1 := Lib.hid f1
      clear v1 v3 ha f1 f2 f3 hN hN1 hN2 hN3
      go_wp2_with fail
      refine (implSackBest_any _ _ _ _ room L _ (by omega) hz hO3.row).mono ?_
      rw [V3.out, ht]
      rintro e w4 ⟨rfl, hB4⟩
      have hO4 := hO3.behind hB4
      have hT4 := hT3.trans (hB4.mono hT3.size)
      have hr := hO4.row
      have HT := Lib.hid hT4
      have hg := hO4.lt
      clear hO4 hO3 hB4 hT3 hT4
      go_wp2
      go_loopw [13, 11, 12] (fun i s t wr => ∃ j m : Nat, j ≤ k ∧ i = .int .i64 j ∧ s = .int .i64 (cf (wt L) a j) ∧ t = .int .i64 (cf (wo L) a j) ∧ wr = w4.drewN m) (fun i _ _ _ => k - (intOf i).toNat)
      case atStart => exact ⟨0, 0, Nat.zero_le _, rfl, rfl, rfl, rfl⟩
      case round =>
        obtain ⟨j, m, hj, rfl, rfl, rfl, rfl⟩ := hrel
        have hb1 := wt_bd HIN.out a j hj
        have hb2 := wo_bd HIN.out a j hj
        by_cases hlt : j < k
        · have c1 := Row.wt0 hr hz j hlt
          have c2 := Row.wo0 hr hz j hlt
          have hx0 := itemsIn_get HIN.out j hlt
          have hs1 : cf (wt L) a (j + 1) = cf (wt L) a j + (bitAt a j : Int) * wt L j := rfl
          have hs2 : cf (wo L) a (j + 1) = cf (wo L) a j + (bitAt a j : Int) * wo L j := rfl
          have hb01 := bitAt_01 a j
          have hbit := bit_walk a j hk32
          obtain ⟨x, hx⟩ : ∃ x, wt L j = x := ⟨_, rfl⟩
          obtain ⟨y, hy⟩ : ∃ y, wo L j = y := ⟨_, rfl⟩
          obtain ⟨s, hs⟩ : ∃ s, cf (wt L) a j = s := ⟨_, rfl⟩
          obtain ⟨t, ht⟩ : ∃ t, cf (wo L) a j = t := ⟨_, rfl⟩
          rw [hx, hs] at hs1
          rw [hy, ht] at hs2
          rw [hx] at c1
          rw [hy] at c2
          rw [hx, hy] at hx0
          rw [hs] at hb1 ⊢
          rw [ht] at hb2 ⊢
          have HS1 := Lib.hid hs1
          have HS2 := Lib.hid hs2
          have hp : 0 ≤ (bitAt a j : Int) * x ∧ (bitAt a j : Int) * x ≤ 60 := by rcases hb01 with e | e <;> rw [e] <;> omega
          have hq : 0 ≤ (bitAt a j : Int) * y ∧ (bitAt a j : Int) * y ≤ 1000 := by rcases hb01 with e | e <;> rw [e] <;> omega
          obtain ⟨hp1, hp2⟩ := hp
          obtain ⟨hq1, hq2⟩ := hq
          clear hx hy hs ht hs1 hs2 hr
          go_wp2
          go_quiet (fail)
          go_wp2
          go_quiet (fail)
          go_wp2
          go_roundw
          case rel => exact ⟨j + 1, _, by omega, by go_num, by rw [HS1.out], by rw [HS2.out], rfl⟩
          case measure => simp [intOf]; omega
        · obtain rfl : j = k := by omega
          have f1 := F1.out
          obtain ⟨x, hx⟩ : ∃ x, cf (wt L) a j = x := ⟨_, rfl⟩
          obtain ⟨y, hy⟩ : ∃ y, cf (wo L) a j = y := ⟨_, rfl⟩
          rw [hx] at f1
          rw [hx, hy]
          have q2 : (y == y) = true := by simp
          have q3 : decide (y = y) = true := by simp
          go_wp2
          go_ret
          exact ⟨rfl, below_drewN HT.out _⟩

end Go.Proofs.Ytegmaieikocllaa
