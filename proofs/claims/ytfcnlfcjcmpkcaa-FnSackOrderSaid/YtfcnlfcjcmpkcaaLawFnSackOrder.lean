/- The law FnSackOrder, walked out of the contracts of the functions that it calls. -/
import Derived.Test.YtfcnlfcjcmpkcaaDrawSack
import Derived.Test.YtfcnlfcjcmpkcaaSackOrder
import Derived.Test.YtfcnlfcjcmpkcaaSame
import Derived.Test.YtfcnlfcjcmpkcaaSeen
import Derived.Test.YtfcnlfcjcmpkcaaOr
namespace Go.Proofs.Ytfcnlfcjcmpkcaa
open Go.RowKit
set_option linter.unusedVariables false
set_option maxHeartbeats 1600000
set_option maxRecDepth 20000
theorem fnSackOrder_core (A : Option Addr) (c : Nat) (zs : List Int) (w : World) (hc : zs.length ≤ c) (hA : ReadsB w A zs) :
    Calls Try.prog 3 #[.slice A zs.length c] w fun e w' => e = .returned (.bool true) ∧ Below w.heap.size w w' := by
  by_cases hbig : 1048576 < zs.length
  · go_enter Try.func3, Try.ntmps3
    go_wp2
    go_ret
    exact ⟨rfl, Below.refl _ _⟩
  · go_enter Try.func3, Try.ntmps3
    go_wp2_with fail
    refine (drawSackOrder_any A c zs _ (by omega) hc hA).mono ?_
    rintro e w1 ⟨g, c1, k, L, rfl, hO, hk, hB1⟩
    have hz := hO.1
    go_wp2_with fail
    refine (implSackOrder_any _ _ _ _ L _ (by omega) hz hO.row).mono ?_
    rintro e w2 ⟨g2, c2, rfl, hG2, hB2⟩
    have hO2 := hO.behind hB2
    have hT2 := hB1.trans (hB2.mono hB1.size)
    go_wp2_with fail
    refine (specSackOrder_any _ _ _ _ L _ (by omega) hz hO2.row).mono ?_
    rintro e w3 ⟨g3, c3, rfl, hG3, hB3⟩
    have hO3 := hO2.behind hB3
    have hG23 := hG2.behind hB3
    have hT3 := hT2.trans (hB3.mono hT2.size)
    have hFl := orderOf_len L k
    clear hO hB1 hB2 hO2 hB3 hT2 hG2
    have q4 : (itemsIn L k != itemsIn L k) = false := by simp
    have q6 : decide (orderOf L k = orderOf L k) = true := by simp
    go_wp2_with fail
    refine (sameInts_any _ _ _ _ _ _ (orderOf L k) (orderOf L k) _ (by omega) (by omega) hG23.row hG3.row).mono ?_
    rintro e w4 ⟨rfl, m4, rfl⟩
    have hO4 := hO3.drewN m4
    have hG4 := hG23.drewN m4
    have hG5 := hG3.drewN m4
    have hT4 := below_drewN hT3 m4
    obtain ⟨W4, hW4⟩ : ∃ W4, w3.drewN m4 = W4 := ⟨_, rfl⟩
    rw [hW4] at hO4 hG4 hG5 hT4 ⊢
    clear hW4 hO3 hG23 hG3 hT3
    cases ht : itemsIn L k
    · have q5 : (false == false) = true := rfl
      rw [ht] at q4
      go_wp2_with fail
      refine (sameInts_any _ _ _ _ _ _ (orderOf L k) (orderOf L k) _ (by omega) (by omega) hG4.row hG5.row).mono ?_
      rintro e w5 ⟨rfl, m5, rfl⟩
      go_wp2
      go_ret
      exact ⟨rfl, below_drewN hT4 m5⟩

    · have hlen := itemsIn_len ht
      have hF : orderOf L k = dense L k := orderOf_in ht
      have hDl := dense_length L k
      have hnext := dense_next ht
      have hat : ∀ j, j < k → ∃ i : Nat, i < k ∧ (dense L k)[j]?.getD 0 = (i : Int) := fun j hj => dense_at hj
      have hplace : ∀ j, j < (dense L k).length → ((dense L k)[j]?.getD 0).toNat < k := fun j hj => dense_place (by rw [← hDl]; exact hj)
      have hslt : ∀ j, j ≤ k → seenTo (dense L k) j < 1024 := fun j hj =>
        Nat.lt_of_lt_of_le (seenTo_lt hplace j (by rw [hDl]; exact hj)) (Nat.pow_le_pow_right (by omega) hlen : 2 ^ k ≤ 2 ^ 10)
      have hall := dense_seen L k
      have hwts : ∀ i, i < k → 1 ≤ wt L i ∧ wt L i ≤ 60 ∧ 0 ≤ wo L i ∧ wo L i ≤ 1000 := fun i hi => itemsIn_get ht i hi
      rw [ht] at q4
      have hr := hO4.row
      have hrD := hG4.row
      rw [hF] at hrD ⊢
      rw [hDl]
      clear hF q6 ht hplace hO4 hG4 hG5 hFl
      obtain ⟨D, hD⟩ : ∃ D, dense L k = D := ⟨_, rfl⟩
      rw [hD] at hDl hnext hat hslt hall hrD
      obtain ⟨M, hM, hM1, hM2, hM3⟩ := pow_walk k (by omega)
      rw [hM] at hall
      have HNX := Lib.hid hnext
      have HAT := Lib.hid hat
      have HSL := Lib.hid hslt
      have HALL := Lib.hid hall
      have HWT := Lib.hid hwts
      have HDL := Lib.hid hDl
      have HT := Lib.hid hT4
      have HR := Lib.hid hr
      have HRD := Lib.hid hrD
      have HM := Lib.hid (And.intro hM1 (And.intro hM2 hM3))
      clear hnext hat hslt hall hwts hDl hT4 hr hrD hD hM hM1 hM2 hM3
      go_wp2
      go_loopw [8, 9] (fun s i wr => ∃ (j S : Nat), j ≤ k ∧ i = .int .i64 j ∧ s = .int .i64 S ∧ S = seenTo D j ∧ Below W4.heap.size W4 wr) (fun _ i _ => k - (intOf i).toNat)
      case atStart => exact ⟨0, 0, Nat.zero_le _, rfl, rfl, rfl, Below.refl _ _⟩
      case round =>
        obtain ⟨j, S, hj, rfl, rfl, hS, hB⟩ := hrel
        have HS := Lib.hid hS
        have HB := Lib.hid hB
        by_cases hlt : j < k
        · obtain ⟨b, hb, hbe⟩ := HAT.out j hlt
          have cB := (HRD.out.behind hB).2 j (by rw [HDL.out]; exact hlt)
          rw [Nat.zero_add, hbe] at cB
          obtain ⟨P, hP, hP1, hP2, hP3⟩ := pow_walk b (by omega)
          have hSl : S < 4294967296 := by have := HSL.out j (by omega); omega
          have hPl : P < 4294967296 := by clear hP3; omega
          have hor := i64_or_nat S P hSl hPl
          have hgl := (HR.out.behind hB).1
          have hgl2 := (HRD.out.behind hB).1
          have hnew : S ||| P = seenTo D (j + 1) := by simp only [seenTo]; rw [hbe, Int.toNat_natCast, hP, ← hS]
          have HNEW := Lib.hid hnew
          have hb0 : (0 : Int) ≤ (b : Int) := by omega
          clear hnew hSl hPl hP hP1 hP2 hS hB
          have HBE := Lib.hid hbe
          clear hbe
          rcases Nat.eq_zero_or_pos j with h0 | h0
          · have z1 : decide ((j : Int) = 0) = true := by simp [h0]
            have z2 : ((j : Int) == 0) = true := by simp [h0]
            clear h0 hgl hgl2
            go_wp2
            go_roundw
            case rel => exact ⟨j + 1, _, by omega, by go_num, rfl, HNEW.out, HB.out⟩
            case measure => simp [intOf]; omega
          · obtain ⟨i, rfl⟩ : ∃ i, j = i + 1 := ⟨j - 1, by omega⟩
            obtain ⟨a, ha, hae⟩ := HAT.out i (by omega)
            have cA := (HRD.out.behind HB.out).2 i (by rw [HDL.out]; omega)
            rw [Nat.zero_add, hae] at cA
            have hnx := HNX.out i hlt
            rw [hae, HBE.out] at hnx
            unfold Ahead at hnx
            simp only [Int.toNat_natCast] at hnx
            have e1 : ((i + 1 : Nat) : Int) - 1 = (i : Int) := by omega
            have cX := Row.wt0 (HR.out.behind HB.out) hz a ha
            have cY := Row.wo0 (HR.out.behind HB.out) hz a ha
            have cP := Row.wt0 (HR.out.behind HB.out) hz b hb
            have cQ := Row.wo0 (HR.out.behind HB.out) hz b hb
            have ba := HWT.out a ha
            have bb := HWT.out b hb
            obtain ⟨x1, hx1⟩ : ∃ x, wt L a = x := ⟨_, rfl⟩
            obtain ⟨y1, hy1⟩ : ∃ y, wo L a = y := ⟨_, rfl⟩
            obtain ⟨x2, hx2⟩ : ∃ x, wt L b = x := ⟨_, rfl⟩
            obtain ⟨y2, hy2⟩ : ∃ y, wo L b = y := ⟨_, rfl⟩
            rw [hx1] at cX ba
            rw [hy1] at cY ba
            rw [hx2] at cP bb
            rw [hy2] at cQ bb
            rw [hx1, hy1, hx2, hy2] at hnx
            obtain ⟨hm1, hm2⟩ := mul_bd3 ba.2.2.1 ba.2.2.2 (by omega : 0 ≤ x2) bb.2.1
            obtain ⟨hm3, hm4⟩ := mul_bd3 bb.2.2.1 bb.2.2.2 (by omega : 0 ≤ x1) ba.2.1
            obtain ⟨u, hu⟩ : ∃ u, y1 * x2 = u := ⟨_, rfl⟩
            obtain ⟨v, hv⟩ : ∃ v, y2 * x1 = v := ⟨_, rfl⟩
            rw [hu] at hm1 hm2 hnx
            rw [hv] at hm3 hm4 hnx
            have hW := HB.out.size
            have hb2 : Below W4.heap.size W4 ((wr.alloc (.cells #[.int .i64 x1, .int .i64 y1] 30)).alloc (.cells #[.int .i64 x2, .int .i64 y2] 30)) := (HB.out.alloc hW _).alloc (by rw [World.size_alloc]; omega) _
            have HB2 := Lib.hid hb2
            clear hb2 hx1 hy1 hx2 hy2 hae ba bb hW
            rcases hnx with hlt2 | ⟨heq, hab⟩
            · obtain ⟨d, hd⟩ : ∃ d, u - v = d := ⟨_, rfl⟩
              have d1 : decide (d < 0) = false := by simp; omega
              have d2 : (d == 0) = false := by simp; omega
              have d3 : ¬ d = 0 := by omega
              clear hlt2
              go_wp2
              go_quiet (fail)
              go_wp2
              go_roundw
              case rel => exact ⟨i + 1 + 1, _, by omega, by go_num, rfl, HNEW.out, below_drewN HB2.out _⟩
              case measure => simp [intOf]; omega
            · have hba : decide ((b : Int) < (a : Int)) = false := by simp; omega
              subst heq
              go_wp2
              go_quiet (fail)
              go_wp2
              go_roundw
              case rel => exact ⟨i + 1 + 1, _, by omega, by go_num, rfl, HNEW.out, below_drewN HB2.out _⟩
              case measure => simp [intOf]; omega
        · obtain rfl : j = k := by omega
          have hSM : S = M - 1 := by rw [hS, HALL.out]
          obtain ⟨h1, h2, h3⟩ := HM.out
          obtain ⟨m, rfl⟩ : ∃ m, M = m + 1 := ⟨M - 1, by omega⟩
          obtain rfl : S = m := by omega
          have e2 : ((S + 1 : Nat) : Int) - 1 = (S : Int) := by omega
          have q7 : decide ((j : Int) = (j : Int)) = true := by simp
          have q8 : decide ((S : Int) = (S : Int)) = true := by simp
          clear hS hB hSM
          go_wp2
          go_ret
          exact ⟨rfl, HT.out.trans (HB.out.mono HT.out.size)⟩

end Go.Proofs.Ytfcnlfcjcmpkcaa
