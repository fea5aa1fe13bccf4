/- The law FnWorse, walked out of the contracts of the functions that it calls. -/
import Derived.Test.YtegmaieikocllaaDrawSack
import Derived.Test.YtegmaieikocllaaWorse
import Derived.Test.YtegmaieikocllaaSame
import Derived.Test.YtegmaieikocllaaWorseLaw
namespace Go.Proofs.Ytegmaieikocllaa
open Go.RowKit
set_option linter.unusedVariables false
set_option maxHeartbeats 1600000

theorem fnWorse_core (A : Option Addr) (c : Nat) (zs : List Int) (w : World) (hc : zs.length ≤ c) (hA : ReadsB w A zs) :
    Calls Try.prog 15 #[.slice A zs.length c] w fun e w' => e = .returned (.bool true) ∧ Below w.heap.size w w' := by
  by_cases hbig : 1048576 < zs.length
  · go_enter Try.func15, Try.ntmps15
    go_wp2
    go_ret
    exact ⟨rfl, Below.refl _ _⟩
  · go_enter Try.func15, Try.ntmps15
    go_wp2_with fail
    refine (drawSackWorse_any A c zs _ (by omega) hc hA).mono ?_
    rintro e w1 ⟨g, c1, k, L, rfl, hO, hk, hB1⟩
    have hz := hO.1
    go_wp2_with fail
    refine (implSackWorse_any _ _ _ _ L _ (by omega) hz hO.row).mono ?_
    rintro e w2 ⟨g2, c2, rfl, hG2, hB2⟩
    have hO2 := hO.behind hB2
    have hT2 := hB1.trans (hB2.mono hB1.size)
    go_wp2_with fail
    refine (specSackWorse_any _ _ _ _ L _ (by omega) hz hO2.row).mono ?_
    rintro e w3 ⟨g3, c3, rfl, hG3, hB3⟩
    have hO3 := hO2.behind hB3
    have hG23 := hG2.behind hB3
    have hT3 := hT2.trans (hB3.mono hT2.size)
    have hFl := worseOf_len L k
    clear hO hB1 hB2 hO2 hB3 hT2 hG2
    have q4 : (itemsIn L k != itemsIn L k) = false := by simp
    have q6 : decide (worseOf L k = worseOf L k) = true := by simp
    go_wp2_with fail
    refine (sameInts_any _ _ _ _ _ _ (worseOf L k) (worseOf L k) _ (by omega) (by omega) hG23.row hG3.row).mono ?_
    rintro e w4 ⟨rfl, m4, rfl⟩
    have hO4 := hO3.drewN m4
    have hG4 := hG23.drewN m4
    have hG5 := hG3.drewN m4
    have hT4 := below_drewN hT3 m4
    obtain ⟨W4, hW4⟩ : ∃ W4, w3.drewN m4 = W4 := ⟨_, rfl⟩
    rw [hW4] at hO4 hG4 hG5 hT4 ⊢
    clear hW4 hO3 hG23 hG3 hT3
    cases ht : itemsIn L k
    · have q5 : (false == false) = true := rfl
      rw [ht] at q4
      go_wp2_with fail
      refine (sameInts_any _ _ _ _ _ _ (worseOf L k) (worseOf L k) _ (by omega) (by omega) hG4.row hG5.row).mono ?_
      rintro e w5 ⟨rfl, m5, rfl⟩
      go_wp2
      go_ret
      exact ⟨rfl, below_drewN hT4 m5⟩

    · have hF : worseOf L k = worseTo L k k := by unfold worseOf; rw [ht, if_pos rfl]
      have hup := worseTo_up L k k
      have hsome : k = 0 ∨ (worseTo L k k).length < k := by
        rcases Nat.eq_zero_or_pos k with h | h
        · exact .inl h
        · exact .inr (worse_some ht h)
      have hr := hG4.row
      rw [hF] at hr hFl ⊢
      clear q6
      rw [ht] at q4
      obtain ⟨F, hFF⟩ : ∃ F, worseTo L k k = F := ⟨_, rfl⟩
      rw [hFF] at hr hFl hup hsome ⊢
      have HUP := Lib.hid hup
      have HT := Lib.hid hT4
      clear hF hFF hup hG4 hG5 hO4 hT4
      go_wp2
      go_loopw [8] (fun i wr => ∃ r m : Nat, 1 ≤ r ∧ i = .int .i64 r ∧ r ≤ F.length + 1 ∧ wr = W4.drewN m) (fun i _ => F.length + 1 - (intOf i).toNat)
      case atStart => exact ⟨1, 0, by omega, rfl, by omega, rfl⟩
      case round =>
        obtain ⟨r, m, hr1, rfl, hrl, rfl⟩ := hrel
        by_cases hlt : r < F.length
        · have cA := hr.2 r hlt
          obtain ⟨r', rfl⟩ : ∃ r', r = r' + 1 := ⟨r - 1, by omega⟩
          have cB := hr.2 r' (by omega)
          have hm := HUP.out r' hlt
          have e1 : ((r' + 1 : Nat) : Int) - 1 = (r' : Int) := by omega
          rw [Nat.zero_add] at cA cB
          obtain ⟨x, hx⟩ : ∃ x, F[r' + 1]?.getD 0 = x := ⟨_, rfl⟩
          obtain ⟨y, hy⟩ : ∃ y, F[r']?.getD 0 = y := ⟨_, rfl⟩
          rw [hx] at cA hm
          rw [hy] at cB hm
          clear hx hy hr
          go_wp2
          go_quiet (fail)
          go_wp2
          go_roundw
          case rel => exact ⟨r' + 1 + 1, _, by omega, by go_num, by omega, rfl⟩
          case measure => simp [intOf]; omega
        · clear hr
          rcases hsome with h0 | h0
          · subst h0
            have q1 : decide (((0 : Nat) : Int) = 0) = true := by simp
            have q2 : (((0 : Nat) : Int) == 0) = true := by simp
            go_wp2
            go_ret
            exact ⟨rfl, below_drewN HT.out _⟩
          · have q1 : decide ((k : Int) = 0) = false := by simp; omega
            have q2 : ((k : Int) == 0) = false := by simp; omega
            go_wp2
            go_ret
            exact ⟨rfl, below_drewN HT.out _⟩

end Go.Proofs.Ytegmaieikocllaa
