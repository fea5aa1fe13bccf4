/- The law FnSackGreedy, walked out of the contracts of the functions that it calls. -/
import Derived.Test.YtfcnlfcjcmpkcaaDrawSack
import Derived.Test.YtfcnlfcjcmpkcaaSackGreedy
namespace Go.Proofs.Ytfcnlfcjcmpkcaa
open Go.RowKit
set_option linter.unusedVariables false
set_option maxHeartbeats 1600000

theorem fnSackGreedy_core (A : Option Addr) (c : Nat) (zs : List Int) (w : World) (hc : zs.length ≤ c) (hA : ReadsB w A zs) :
    Calls Try.prog 6 #[.slice A zs.length c] w fun e w' => e = .returned (.bool true) ∧ Below w.heap.size w w' := by
  by_cases hbig : 1048576 < zs.length
  · go_enter Try.func6, Try.ntmps6
    go_wp2
    go_ret
    exact ⟨rfl, Below.refl _ _⟩
  · go_enter Try.func6, Try.ntmps6
    go_wp2_with fail
    refine (drawSackGreedy_any A c zs _ (by omega) hc hA).mono ?_
    rintro e w1 ⟨g, c1, k, L, room, rfl, hO, hk, ⟨hr1, hr2⟩, hB1⟩
    have hz := hO.1
    go_wp2_with fail
    refine (implSackGreedy_any _ _ _ _ room L _ (by omega) hz hO.row).mono ?_
    rintro e w2 ⟨rfl, hB2⟩
    have hO2 := hO.behind hB2
    have hT2 := hB1.trans (hB2.mono hB1.size)
    go_wp2_with fail
    refine (specSackGreedy_any _ _ _ _ room L _ (by omega) hz hO2.row).mono ?_
    rintro e w3 ⟨rfl, hB3⟩
    have hO3 := hO2.behind hB3
    have hT3 := hT2.trans (hB3.mono hT2.size)
    clear hO hB1 hB2 hO2 hB3 hT2
    cases ht : told L k room
    · obtain ⟨V, hV⟩ : ∃ V, greedyV L k room = V := ⟨_, rfl⟩
      rw [hV]
      have q1 : (V != V) = false := by simp
      have q2 : (V == V) = true := by simp
      have q3 : decide (V = V) = true := by simp
      have q4 : (false != false) = false := rfl
      have q5 : (false == false) = true := rfl
      clear hV
      go_wp2
      go_ret
      exact ⟨rfl, hT3⟩

    · obtain ⟨hin, h0, h6⟩ := told_yes ht
      have hgood := dense_good hin
      have v1 : greedyV L k room = greedy L k room := by unfold greedyV; rw [ht, if_pos rfl]
      have hge : ∀ i, i < k → wt L i ≤ room → wo L i ≤ greedy L k room := by
        intro i hi hw
        have := one_ge (zs := L) (L := dense L k) (room := room) (mem_dense (zs := L) hi) (by rw [Int.toNat_natCast]; exact hw)
        rw [Int.toNat_natCast] at this
        unfold greedy; omega
      have hg0 : 0 ≤ greedy L k room := by
        have := tkn_pos hgood room
        unfold greedy; omega
      rw [v1]
      obtain ⟨V, hV⟩ : ∃ V, greedy L k room = V := ⟨_, rfl⟩
      rw [hV] at hge hg0 ⊢
      have q1 : (V != V) = false := by simp
      have q4 : (true != true) = false := rfl
      have hr := hO3.row
      have HGE := Lib.hid hge
      have HT := Lib.hid hT3
      clear hV v1 hge hgood hin ht hT3 hO3
      go_wp2
      go_loop [9] (fun i => ∃ j : Nat, j ≤ k ∧ i = .int .i64 j) (fun i => k - (intOf i).toNat)
      case atStart => exact ⟨0, Nat.zero_le _, rfl⟩
      case round =>
        obtain ⟨j, hj, rfl⟩ := hrel
        by_cases hlt : j < k
        · have c1 := Row.wt0 hr hz j hlt
          have c2 := Row.wo0 hr hz j hlt
          have hge := HGE.out j hlt
          obtain ⟨x, hx⟩ : ∃ x, wt L j = x := ⟨_, rfl⟩
          obtain ⟨y, hy⟩ : ∃ y, wo L j = y := ⟨_, rfl⟩
          rw [hx] at c1 hge
          rw [hy] at c2 hge
          clear hx hy hr
          by_cases hxr : x ≤ room
          · have hyv := hge hxr
            clear hge
            go_wp2
            go_round
            case rel => exact ⟨j + 1, by omega, by go_num⟩
            case measure => simp [intOf]; omega
          · clear hge
            go_wp2
            go_round
            case rel => exact ⟨j + 1, by omega, by go_num⟩
            case measure => simp [intOf]; omega
        · obtain rfl : j = k := by omega
          clear hr
          go_wp2
          go_ret
          first | exact ⟨rfl, HT.out⟩ | exact ⟨by simp; omega, HT.out⟩

end Go.Proofs.Ytfcnlfcjcmpkcaa
