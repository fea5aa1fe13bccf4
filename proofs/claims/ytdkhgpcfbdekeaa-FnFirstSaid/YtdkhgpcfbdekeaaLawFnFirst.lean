/- The law FnFirst, walked out of the contracts of the functions that it calls. -/
import Derived.Test.YtdkhgpcfbdekeaaDrawNums
import Derived.Test.YtdkhgpcfbdekeaaFirst
import Derived.Test.YtdkhgpcfbdekeaaChoices
import Derived.Test.YtdkhgpcfbdekeaaGrown
namespace Go.Proofs.Ytdkhgpcfbdekeaa
open Go.RowKit
set_option linter.unusedVariables false
set_option maxHeartbeats 1600000

theorem firstOf_is {L : List Int} {v : Int} {o : Nat} (h : firstOf L v = some o) : isIn L = true ∧ o < 2 ^ L.length ∧ cs L o L.length = v ∧ ∀ j, j < o → cs L j L.length ≠ v := by
  unfold firstOf at h
  split at h
  · rename_i hin
    rw [List.find?_range_eq_some] at h
    obtain ⟨h1, h2, h3⟩ := h
    exact ⟨hin, List.mem_range.1 h2, of_decide_eq_true h1, fun j hj => by have := h3 j hj; simpa using this⟩
  · simp at h
theorem choices_head {L : List Int} {v : Int} {o : Nat} (hin : isIn L = true) (h : firstOf L v = some o) : ∃ t, choicesOf L v = (o : Int) :: t := by
  obtain ⟨_, h1, h2, h3⟩ := firstOf_is h
  rw [choicesOf_in v hin]
  have h0 : ∀ m, m ≤ o → chUpto L v m = [] := by
    intro m
    induction m with
    | zero => intro _; rfl
    | succ m ih => intro hm; rw [chUpto_miss (h3 m (by omega))]; exact ih (by omega)
  have hs : ∀ m, ∃ t, chUpto L v (o + 1 + m) = (o : Int) :: t := by
    intro m
    induction m with
    | zero => exact ⟨[], by rw [Nat.add_zero, chUpto_hit h2, h0 o (Nat.le_refl _)]; rfl⟩
    | succ m ih =>
      obtain ⟨t, ht⟩ := ih
      by_cases hc : cs L (o + 1 + m) L.length = v
      · exact ⟨t ++ [((o + 1 + m : Nat) : Int)], by rw [← Nat.add_assoc, chUpto_hit hc, ht]; rfl⟩
      · exact ⟨t, by rw [← Nat.add_assoc, chUpto_miss hc, ht]⟩
  obtain ⟨t, ht⟩ := hs (2 ^ L.length - (o + 1))
  exact ⟨t, by rw [← ht]; congr 1; omega⟩

theorem fnFirst_core (A : Option Addr) (c : Nat) (zs : List Int) (w : World) (hc : zs.length ≤ c) (hA : ReadsB w A zs) :
    Calls Try.prog 10 #[.slice A zs.length c] w fun e w' => e = .returned (.bool true) ∧ Below w.heap.size w w' := by
  by_cases hbig : 1048576 < zs.length
  · go_enter Try.func10, Try.ntmps10
    go_wp2
    go_ret
    exact ⟨rfl, Below.refl _ _⟩
  · go_enter Try.func10, Try.ntmps10
    go_wp2_with fail
    refine (drawSumFirst_any A c zs _ (by omega) hc hA).mono ?_
    rintro e w1 ⟨g, c1, L, v, rfl, hv, hO, hD, hl, hB1⟩
    go_wp2_with fail
    refine (implSumFirst_any _ _ _ v L _ (by omega) hO.row).mono ?_
    rintro e w2 ⟨rfl, hB2⟩
    have hO2 := hO.behind hB2
    have hT2 := hB1.trans (hB2.mono hB1.size)
    go_wp2_with fail
    refine (specSumFirst_any _ _ _ v L _ (by omega) hO2.row).mono ?_
    rintro e w3 ⟨rfl, hB3⟩
    have hO3 := hO2.behind hB3
    have hT3 := hT2.trans (hB3.mono hT2.size)
    clear hO hB1 hB2 hO2 hB3 hT2
    cases ht : (firstOf L v).isSome
    · obtain ⟨V, hV⟩ : ∃ V, optV (firstOf L v) = V := ⟨_, rfl⟩
      rw [hV]
      have q1 : (V != V) = false := by simp
      have q2 : (V == V) = true := by simp
      have q3 : decide (V = V) = true := by simp
      have q4 : (false != false) = false := rfl
      have q5 : (false == false) = true := rfl
      clear hV
      go_wp2
      go_ret
      exact ⟨rfl, hT3⟩

    · obtain ⟨o, ho⟩ := Option.isSome_iff_exists.1 ht
      obtain ⟨hin, h1, h2, h3⟩ := firstOf_is ho
      obtain ⟨t, hch⟩ := choices_head hin ho
      have hlen := isIn_len hin
      have hv0 : 0 ≤ v := by rw [← h2]; exact (cs_bd hin o L.length).1
      have s1 : sumOfB L (o : Int) = true := by unfold sumOfB; rw [hin]; simp; omega
      have s2 : sumOfV L (o : Int) = v := by unfold sumOfV; rw [s1, if_pos rfl, Int.toNat_natCast]; exact h2
      have e0 : optV (firstOf L v) = (o : Int) := by rw [ho]; rfl
      have hlc := choicesOf_len L v
      rw [e0]
      have q1 : ((o : Int) != (o : Int)) = false := by simp
      have q4 : (true != true) = false := rfl
      have S1 := Lib.hid s1
      have S2 := Lib.hid s2
      have HIN := Lib.hid hin
      have HCH := Lib.hid hch
      clear s1 s2 e0 ho h1 h2 h3 hch ht
      go_wp2_with fail
      refine (implSumOf_any _ _ _ (o : Int) L _ (by omega) hO3.row).mono ?_
      rw [S1.out, S2.out]
      rintro e w4 ⟨rfl, hB4⟩
      have hO4 := hO3.behind hB4
      have hT4 := hT3.trans (hB4.mono hT3.size)
      go_wp2_with fail
      refine (implSumChoices_any _ _ _ v L _ (by omega) hO4.row).mono ?_
      rw [HIN.out]
      rintro e w5 ⟨g5, c5, rfl, hG5, hB5⟩
      have hT5 := hT4.trans (hB5.mono hT4.size)
      have hr5 := hG5.row.2 0 (by rw [HCH.out]; simp)
      rw [HCH.out, Nat.zero_add] at hr5
      simp only [List.getElem?_cons_zero, Option.getD_some] at hr5
      have hl0 : (choicesOf L v).length = t.length + 1 := by rw [HCH.out]; rfl
      obtain ⟨C, hC⟩ : ∃ C, (choicesOf L v).length = C := ⟨_, rfl⟩
      rw [hC] at hlc hl0 ⊢
      have q2 : (v == v) = true := by simp
      have q3 : decide (v = v) = true := by simp
      have q6 : ((o : Int) == (o : Int)) = true := by simp
      have q7 : decide ((o : Int) = (o : Int)) = true := by simp
      have hC1 : 1 ≤ C := by omega
      clear hC hl0 hG5 hO3 hO4
      go_wp2
      go_ret
      exact ⟨rfl, hT5⟩

end Go.Proofs.Ytdkhgpcfbdekeaa
