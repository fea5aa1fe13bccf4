/- The law FnBinBound, walked out of the contracts of the functions that it calls. -/
import Derived.Test.YtdkhgpcfbdekeaaDrawNums
import Derived.Test.YtdkhgpcfbdekeaaBinBound
namespace Go.Proofs.Ytdkhgpcfbdekeaa
open Go.RowKit
set_option linter.unusedVariables false
set_option maxHeartbeats 1600000

theorem boundV_bd (L : List Int) (s : Int) : True := trivial
theorem binIn_next {L : List Int} {s : Int} (h : binIn L s = true) (h1 : s ≠ 100) : binIn L (s + 1) = true := by
  unfold binIn at h ⊢
  simp only [Bool.and_eq_true, decide_eq_true_eq, List.all_eq_true] at h ⊢
  obtain ⟨⟨h2, h3⟩, h4⟩ := h
  exact ⟨⟨h2, by omega⟩, fun x hx => by have := h4 x hx; omega⟩
theorem greatTo_falls (L : List Int) (s : Int) (k : Nat) : greatTo L (s + 1) k ≤ greatTo L s k := by
  induction k with
  | zero => exact Nat.le_refl _
  | succ k ih =>
    simp only [greatTo]
    by_cases h1 : s + 1 < 2 * L[k]?.getD 0
    · rw [if_pos h1, if_pos (by omega)]; omega
    · rw [if_neg h1]; split <;> omega
theorem bound_falls {L : List Int} {s : Int} (h : binIn L s = true) (h1 : s ≠ 100) : boundV L (s + 1) ≤ boundV L s := by
  obtain ⟨hin, hs1, hs2⟩ := binIn_parts h
  rw [boundV_in h, boundV_in (binIn_next h h1)]
  have ht := tot_bd hin L.length
  have hg := greatTo_falls L s L.length
  have hq : (tot L L.length + (s + 1) - 1) / (s + 1) ≤ (tot L L.length + s - 1) / s := by
    obtain ⟨T, hT⟩ : ∃ T, tot L L.length = T := ⟨_, rfl⟩
    rw [hT] at ht ⊢
    obtain ⟨q, hq⟩ : ∃ q, (T + s - 1) / s = q := ⟨_, rfl⟩
    have hq0 : 0 ≤ q := by rw [← hq]; exact Int.ediv_nonneg (by omega) (by omega)
    have h2 := Int.lt_ediv_add_one_mul_self (T + s - 1) (show 0 < s by omega)
    rw [hq] at h2 ⊢
    rw [Int.add_mul] at h2
    have h3 : T ≤ q * s := by omega
    refine Int.le_of_lt_add_one ((Int.ediv_lt_iff_lt_mul (by omega)).2 ?_)
    rw [Int.add_mul, Int.mul_add]; omega
  omega

theorem fnBinBound_core (A : Option Addr) (c : Nat) (zs : List Int) (w : World) (hc : zs.length ≤ c) (hA : ReadsB w A zs) :
    Calls Try.prog 9 #[.slice A zs.length c] w fun e w' => e = .returned (.bool true) ∧ Below w.heap.size w w' := by
  by_cases hbig : 1048576 < zs.length
  · go_enter Try.func9, Try.ntmps9
    go_wp2
    go_ret
    exact ⟨rfl, Below.refl _ _⟩
  · go_enter Try.func9, Try.ntmps9
    go_wp2_with fail
    refine (drawBinBound_any A c zs _ (by omega) hc hA).mono ?_
    rintro e w1 ⟨g, c1, L, v, rfl, hv, hO, hD, hl, hB1⟩
    go_wp2_with fail
    refine (implBinBound_any _ _ _ v L _ (by omega) hO.row).mono ?_
    rintro e w2 ⟨rfl, hB2⟩
    have hO2 := hO.behind hB2
    have hT2 := hB1.trans (hB2.mono hB1.size)
    go_wp2_with fail
    refine (specBinBound_any _ _ _ v L _ (by omega) hO2.row).mono ?_
    rintro e w3 ⟨rfl, hB3⟩
    have hO3 := hO2.behind hB3
    have hT3 := hT2.trans (hB3.mono hT2.size)
    clear hO hB1 hB2 hO2 hB3 hT2
    cases ht : binIn L v
    · obtain ⟨V, hV⟩ : ∃ V, boundV L v = V := ⟨_, rfl⟩
      rw [hV]
      have q1 : (V != V) = false := by simp
      have q2 : (V == V) = true := by simp
      have q3 : decide (V = V) = true := by simp
      have q4 : (false != false) = false := rfl
      have q5 : (false == false) = true := rfl
      clear hV
      go_wp2
      go_ret
      exact ⟨rfl, hT3⟩

    · have hn0 := boundV_bd L v
      by_cases h1 : v = 100
      · have q1 : (boundV L v != boundV L v) = false := by simp
        have q4 : (true != true) = false := rfl
        have q6 : decide (v = 100) = true := by simp [h1]
        have q7 : (v == 100) = true := by simp [h1]
        obtain ⟨V, hV⟩ : ∃ V, boundV L v = V := ⟨_, rfl⟩
        rw [hV] at q1 ⊢
        clear hV h1
        go_wp2_with fail
        refine (implBinBound_any _ _ _ (v + 1) L _ (by omega) hO3.row).mono ?_
        rintro e w4 ⟨rfl, hB4⟩
        go_wp2
        go_ret
        exact ⟨rfl, hT3.trans (hB4.mono hT3.size)⟩
      · have hf := bound_falls ht h1
        have ht2 := binIn_next ht h1
        have q1 : (boundV L v != boundV L v) = false := by simp
        have q4 : (true != true) = false := rfl
        have q6 : decide (v = 100) = false := by simp [h1]
        have q7 : (v == 100) = false := by simp [h1]
        obtain ⟨V, hV⟩ : ∃ V, boundV L v = V := ⟨_, rfl⟩
        obtain ⟨U, hU⟩ : ∃ U, boundV L (v + 1) = U := ⟨_, rfl⟩
        rw [hV] at q1 hf ⊢
        rw [hU] at hf
        have HU := Lib.hid hU
        clear hV hU h1
        go_wp2_with fail
        refine (implBinBound_any _ _ _ (v + 1) L _ (by omega) hO3.row).mono ?_
        rw [HU.out, ht2]
        rintro e w4 ⟨rfl, hB4⟩
        go_wp2
        go_ret
        exact ⟨rfl, hT3.trans (hB4.mono hT3.size)⟩

end Go.Proofs.Ytdkhgpcfbdekeaa
