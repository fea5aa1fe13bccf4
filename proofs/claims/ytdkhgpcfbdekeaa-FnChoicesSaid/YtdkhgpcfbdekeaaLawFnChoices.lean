/- The law FnChoices, walked out of the contracts of the functions that it calls. -/
import Derived.Test.YtdkhgpcfbdekeaaDrawNums
import Derived.Test.YtdkhgpcfbdekeaaChoices
import Derived.Test.YtdkhgpcfbdekeaaGrown
import Derived.Test.YtdkhgpcfbdekeaaMissing
import Derived.Test.YtdkhgpcfbdekeaaSame
namespace Go.Proofs.Ytdkhgpcfbdekeaa
open Go.RowKit
set_option linter.unusedVariables false
set_option maxHeartbeats 1600000

theorem chUpto_count (L : List Int) (v : Int) (m : Nat) : (chUpto L v m).length = chosen L L.length m v := by
  induction m with
  | zero => rfl
  | succ m ih =>
    simp only [chosen]
    by_cases h : cs L m L.length = v
    · rw [chUpto_hit h, List.length_append, ih, if_pos h]; rfl
    · rw [chUpto_miss h, ih, if_neg h]; rfl
theorem chUpto_el (L : List Int) (v : Int) (m : Nat) : ∀ r, r < (chUpto L v m).length → ∃ o : Nat, (chUpto L v m)[r]?.getD 0 = (o : Int) ∧ o < m ∧ cs L o L.length = v := by
  induction m with
  | zero => intro r hr; simp [chUpto] at hr
  | succ m ih =>
    intro r hr
    by_cases h : cs L m L.length = v
    · rw [chUpto_hit h] at hr ⊢
      rw [List.length_append] at hr
      simp at hr
      rcases Nat.lt_succ_iff_lt_or_eq.1 hr with h1 | rfl
      · obtain ⟨o, e1, e2, e3⟩ := ih r h1
        exact ⟨o, by rw [List.getElem?_append_left h1]; exact e1, by omega, e3⟩
      · exact ⟨m, by simp, by omega, h⟩
    · rw [chUpto_miss h] at hr ⊢
      obtain ⟨o, e1, e2, e3⟩ := ih r hr
      exact ⟨o, e1, by omega, e3⟩
theorem chUpto_up (L : List Int) (v : Int) (m : Nat) : ∀ r, r + 1 < (chUpto L v m).length → (chUpto L v m)[r]?.getD 0 < (chUpto L v m)[r + 1]?.getD 0 := by
  induction m with
  | zero => intro r hr; simp [chUpto] at hr
  | succ m ih =>
    intro r hr
    by_cases h : cs L m L.length = v
    · rw [chUpto_hit h] at hr ⊢
      rw [List.length_append] at hr
      simp at hr
      rw [List.getElem?_append_left (by omega)]
      rcases Nat.lt_or_eq_of_le (show r + 1 ≤ (chUpto L v m).length by omega) with h1 | h1
      · rw [List.getElem?_append_left h1]; exact ih r h1
      · obtain ⟨o, e1, e2, e3⟩ := chUpto_el L v m r (by omega)
        rw [e1, h1]; simp; omega
    · rw [chUpto_miss h] at hr ⊢
      exact ih r hr

theorem fnChoices_core (A : Option Addr) (c : Nat) (zs : List Int) (w : World) (hc : zs.length ≤ c) (hA : ReadsB w A zs) :
    Calls Try.prog 11 #[.slice A zs.length c] w fun e w' => e = .returned (.bool true) ∧ Below w.heap.size w w' := by
  by_cases hbig : 1048576 < zs.length
  · go_enter Try.func11, Try.ntmps11
    go_wp2
    go_ret
    exact ⟨rfl, Below.refl _ _⟩
  · go_enter Try.func11, Try.ntmps11
    go_wp2_with fail
    refine (drawSumChoices_any A c zs _ (by omega) hc hA).mono ?_
    rintro e w1 ⟨g, c1, L, v, rfl, hv, hO, hD, hl, hB1⟩
    go_wp2_with fail
    refine (implSumChoices_any _ _ _ v L _ (by omega) hO.row).mono ?_
    rintro e w2 ⟨g2, c2, rfl, hG2, hB2⟩
    have hO2 := hO.behind hB2
    have hT2 := hB1.trans (hB2.mono hB1.size)
    go_wp2_with fail
    refine (specSumChoices_any _ _ _ v L _ (by omega) hO2.row).mono ?_
    rintro e w3 ⟨g3, c3, rfl, hG3, hB3⟩
    have hO3 := hO2.behind hB3
    have hG23 := hG2.behind hB3
    have hT3 := hT2.trans (hB3.mono hT2.size)
    have hFl := choicesOf_len L v
    clear hO hB1 hB2 hO2 hB3 hT2 hG2
    have q4 : (isIn L != isIn L) = false := by simp
    have q6 : decide (choicesOf L v = choicesOf L v) = true := by simp
    go_wp2_with fail
    refine (sameInts_any _ _ _ _ _ _ (choicesOf L v) (choicesOf L v) _ (by omega) (by omega) hG23.row hG3.row).mono ?_
    rintro e w4 ⟨rfl, m4, rfl⟩
    have hO4 := hO3.drewN m4
    have hG4 := hG23.drewN m4
    have hG5 := hG3.drewN m4
    have hT4 := below_drewN hT3 m4
    obtain ⟨W4, hW4⟩ : ∃ W4, w3.drewN m4 = W4 := ⟨_, rfl⟩
    rw [hW4] at hO4 hG4 hG5 hT4 ⊢
    clear hW4 hO3 hG23 hG3 hT3
    cases ht : isIn L
    · have q5 : (false == false) = true := rfl
      rw [ht] at q4
      go_wp2_with fail
      refine (sameInts_any _ _ _ _ _ _ (choicesOf L v) (choicesOf L v) _ (by omega) (by omega) hG4.row hG5.row).mono ?_
      rintro e w5 ⟨rfl, m5, rfl⟩
      go_wp2
      go_ret
      exact ⟨rfl, below_drewN hT4 m5⟩

    · have hlen := isIn_len ht
      have hF := choicesOf_in v ht
      have hC := countsOf_in ht
      have hCl := countsOf_len L
      have hel := chUpto_el L v (2 ^ L.length)
      have hup := chUpto_up L v (2 ^ L.length)
      have hct : (chUpto L v (2 ^ L.length)).length = cnt L L.length v := by rw [chUpto_count, chosen_all]
      have hcv : ∀ u : Nat, u < (countsOf L).length → (countsOf L)[u]?.getD 0 = (cnt L L.length (u : Int) : Int) := fun u hu => by
        rw [hC] at hu ⊢
        unfold counts at hu ⊢
        rw [countsTo_length] at hu
        exact countsTo_getD L L.length u hu
      rw [hF] at hFl hG4 ⊢
      obtain ⟨F, hFF⟩ : ∃ F, chUpto L v (2 ^ L.length) = F := ⟨_, rfl⟩
      rw [hFF] at hFl hG4 hel hup hct ⊢
      rw [ht] at q4
      clear hF hFF q6 hC
      have HE := Lib.hid hel
      have HU := Lib.hid hup
      have HCV := Lib.hid hcv
      have HCT := Lib.hid hct
      have HIN := Lib.hid ht
      clear hel hup hcv hct ht
      go_wp2_with fail
      refine (implSumCounts_any _ _ _ L _ (by omega) hO4.row).mono ?_
      rw [HIN.out]
      rintro e w5 ⟨g5, c5, rfl, hG6, hB5⟩
      have hT5 := hT4.trans (hB5.mono hT4.size)
      have r1 := (hO4.behind hB5).row
      have r2 := (hG4.behind hB5).row
      have r3 := hG6.row
      obtain ⟨C, hCC⟩ : ∃ C, countsOf L = C := ⟨_, rfl⟩
      rw [hCC] at r3 hCl HCV ⊢
      have HT := Lib.hid (And.intro hT5 (And.intro r1 (And.intro r2 r3)))
      clear hCC hT5 hT4 hG4 hG5 hO4 hB5 hG6 r1 r2 r3
      go_wp2
      go_loopw [11] (fun i wr => ∃ r : Nat, r ≤ F.length ∧ i = .int .i64 r ∧ Below w.heap.size w wr ∧ Row wr g 0 L ∧ Row wr g2 0 F ∧ Row wr g5 0 C) (fun i _ => F.length - (intOf i).toNat)
      case atStart => exact ⟨0, Nat.zero_le _, rfl, HT.out⟩
      case round =>
        clear HT
        obtain ⟨r, hr, rfl, hB, r1, r2, r3⟩ := hrel
        by_cases hlt : r < F.length
        · obtain ⟨o, ho, ho1, ho2⟩ := HE.out r hlt
          have s1 : sumOfB L (o : Int) = true := by unfold sumOfB; rw [HIN.out]; simp; omega
          have s2 : sumOfV L (o : Int) = v := by unfold sumOfV; rw [s1, if_pos rfl, Int.toNat_natCast]; exact ho2
          have cA := r2.2 r hlt
          rw [ho, Nat.zero_add] at cA
          have S1 := Lib.hid s1
          have S2 := Lib.hid s2
          clear s1 s2 ho1 ho2
          go_wp2_with fail
          refine (implSumOf_any _ _ _ (o : Int) L _ (by omega) r1).mono ?_
          rw [S1.out, S2.out]
          rintro e w6 ⟨rfl, hB6⟩
          have k1 := r1.behind hB6
          have k2 := r2.behind hB6
          have k3 := r3.behind hB6
          have hB7 := hB.trans (hB6.mono hB.size)
          have cA2 := k2.2 r hlt
          rw [ho, Nat.zero_add] at cA2
          have q1 : (v != v) = false := by simp
          have HK := Lib.hid (And.intro hB7 (And.intro k1 (And.intro k2 k3)))
          rcases Nat.eq_zero_or_pos r with h0 | h0
          · subst h0
            clear hB hB7 r1 r2 r3 k1 k2 k3 ho hB6
            go_wp2
            go_quiet (fail)
            go_wp2
            go_roundw
            case rel => exact ⟨0 + 1, by omega, by go_num, below_drewN HK.out.1 _, HK.out.2.1.drewN _, HK.out.2.2.1.drewN _, HK.out.2.2.2.drewN _⟩
            case measure => simp [intOf]; omega
          · obtain ⟨r', rfl⟩ : ∃ r', r = r' + 1 := ⟨r - 1, by omega⟩
            have cB := k2.2 r' (by omega)
            rw [Nat.zero_add] at cB
            have hm := HU.out r' hlt
            rw [ho] at hm
            have e1 : ((r' + 1 : Nat) : Int) - 1 = (r' : Int) := by omega
            obtain ⟨y, hy⟩ : ∃ y, F[r']?.getD 0 = y := ⟨_, rfl⟩
            rw [hy] at cB hm
            clear hB hB7 r1 r2 r3 k1 k2 k3 ho hB6 hy
            go_wp2
            go_quiet (fail)
            go_wp2
            go_roundw
            case rel => exact ⟨r' + 1 + 1, by omega, by go_num, below_drewN HK.out.1 _, HK.out.2.1.drewN _, HK.out.2.2.1.drewN _, HK.out.2.2.2.drewN _⟩
            case measure => simp [intOf]; omega
        · obtain rfl : r = F.length := by omega
          have HB := Lib.hid hB
          clear hB r1 r2
          rcases Int.lt_or_le v 0 with hv0 | hv0
          · clear r3
            go_wp2
            go_ret
            exact ⟨rfl, HB.out⟩
          · obtain ⟨u, rfl⟩ := Int.eq_ofNat_of_zero_le hv0
            by_cases hu : u < C.length
            · have cC := r3.2 u hu
              rw [HCV.out u hu, Nat.zero_add, ← HCT.out] at cC
              have q2 : ((F.length : Int) == (F.length : Int)) = true := by simp
              have q3 : decide ((F.length : Int) = (F.length : Int)) = true := by simp
              clear r3
              go_wp2
              go_ret
              exact ⟨rfl, HB.out⟩
            · clear r3
              go_wp2
              go_ret
              exact ⟨rfl, HB.out⟩

end Go.Proofs.Ytdkhgpcfbdekeaa
