/- The law FnExactSackOrder, walked out of the contracts of the functions that it calls. -/
import Derived.Test.YtfcnlfcjcmpkcaaSackOrder
namespace Go.Proofs.Ytfcnlfcjcmpkcaa
open Go.RowKit

set_option linter.unusedVariables false in
set_option maxHeartbeats 1600000 in
theorem lawSackOrder_core (A : Option Addr) (n c : Nat) (zs : List Int) (w : World) (hA : Reads w A zs) (hz : zs.length = 2 * n) (hn : n ≤ 9223372036854775807) :
    Calls Try.prog 8 #[.slice A n c] w fun e w' => e = .returned (.bool true) ∧ Below w.heap.size w w' := by
  by_cases hbig : 1048576 < n
  · go_enter Try.func8, Try.ntmps8
    go_wp2_with (go_at_call 17; refine (szItemS_big _ _ _ _ hn hbig).mono ?_; rintro e w2 ⟨rfl, rfl⟩)
    go_ret
    exact ⟨rfl, Below.refl _ _⟩
  · go_enter Try.func8, Try.ntmps8
    go_wp2_with (go_at_call 17; refine (szItemS_small _ _ _ _ hbig).mono ?_; rintro e w2 ⟨rfl, rfl⟩)
    go_wp2_with fail
    refine (toItemS_any A n c zs _ (by omega) hz hA).mono ?_
    rintro e w1 ⟨rfl, hO1, hB1⟩
    have hT1 : Below w.heap.size w w1 := hB1
    go_wp2_with fail
    refine (specSackOrder_any _ _ _ _ zs _ (by omega) hz hO1.row).mono ?_
    rintro e w2 ⟨g2, c2, rfl, hG2, hB2⟩
    have hT2 : Below w.heap.size w w2 := hT1.trans (hB2.mono hT1.size)
    go_wp2_with fail
    refine (toItemS_any A n c zs _ (by omega) hz (hA.behind hT2)).mono ?_
    rintro e w3 ⟨rfl, hO3, hB3⟩
    have hT3 : Below w.heap.size w w3 := hT2.trans (hB3.mono hT2.size)
    go_wp2_with fail
    refine (implSackOrder_any _ _ _ _ zs _ (by omega) hz hO3.row).mono ?_
    rintro e w4 ⟨g4, c4, rfl, hG4, hB4⟩
    have hT4 : Below w.heap.size w w4 := hT3.trans (hB4.mono hT3.size)
    have hq2 : (itemsIn zs n != itemsIn zs n) = false := by simp
    have hd2 : decide (orderOf zs n = orderOf zs n) = true := by simp
    have hlen : (orderOf zs n).length ≤ 1048576 := Nat.le_trans (orderOf_len zs n) (by omega)
    have hne1 : g2 ≠ w2.heap.size := Nat.ne_of_lt hG2.lt
    have hne2 : g4 ≠ w2.heap.size := by have := hG4.ge; have := hB3.size; have := hO3.lt; omega
    have hne3 : g2 ≠ g4 := by have := hG4.ge; have := hG2.lt; have := hB3.size; omega
    have hg4 : w.heap.size ≤ g4 := Nat.le_trans hT3.size hG4.ge
    have hx3 : w.heap.size ≤ w2.heap.size := hT2.size
    go_wp2_with fail
    refine (eqIntS_any _ _ _ _ _ _ (orderOf zs n) (orderOf zs n) _ (by omega) (by omega) hG4.row ((hG2.behind hB3).behind hB4).row).mono ?_
    rintro e w5 ⟨rfl, n5, rfl⟩
    have hG4a := hG4.drewN n5
    have hG2a := ((hG2.behind hB3).behind hB4).drewN n5
    have hO3a := (hO3.behind hB4).drewN n5
    have hT5 := below_drewN hT4 n5
    obtain ⟨W5, hW5⟩ : ∃ W5, w4.drewN n5 = W5 := ⟨_, rfl⟩
    rw [hW5] at hG4a hG2a hO3a hT5 ⊢
    clear hW5 hB3 hB4 hB2 hB1 hG4 hG2 hO3
    go_wp2_with fail
    refine (toItemS_any A n c zs _ (by omega) hz (hA.behind hT5)).mono ?_
    rintro e w6 ⟨rfl, hO6, hB6⟩
    have hT6 := hT5.trans (hB6.mono hT5.size)
    go_wp2_with fail
    refine (eqItemS_same _ _ _ _ _ _ n zs _ (by omega) hz (hO3a.behind hB6).row hO6.row).mono ?_
    rintro e w7 ⟨rfl, hB7⟩
    have hG4b := (hG4a.behind hB6).behind hB7
    have hG2b := (hG2a.behind hB6).behind hB7
    have hO3b := (hO3a.behind hB6).behind hB7
    have hT7 := hT6.trans (hB7.mono hT6.size)
    clear hB6 hB7 hT6 hO6 hG4a hG2a hO3a hT5
    go_wp2_with fail
    refine (markItemS_any _ _ 1 n zs _ (by omega) (by omega) hO3b).mono ?_
    rintro e w8 ⟨rfl, hg8⟩
    have hG4c := hG4b.grown hg8 hne2
    have hG2c := hG2b.grown hg8 hne1
    have hT8 := below_wrote hT7 hg8 hT7.size hx3
    clear hG4b hG2b hO3b hT7 hg8
    go_wp2_with fail
    refine (eqIntS_any _ _ _ _ _ _ (orderOf zs n) (orderOf zs n) _ (by omega) (by omega) hG4c.row hG2c.row).mono ?_
    rintro e w9 ⟨rfl, n9, rfl⟩
    have hG4d := hG4c.drewN n9
    have hG2d := hG2c.drewN n9
    have hT9 := below_drewN hT8 n9
    obtain ⟨W9, hW9⟩ : ∃ W9, w8.drewN n9 = W9 := ⟨_, rfl⟩
    rw [hW9] at hG4d hG2d hT9 ⊢
    clear hW9 hG4c hG2c hT8
    go_wp2_with fail
    refine (markIntS_any _ _ _ 1 (orderOf zs n) _ (by omega) (by omega) hG4d).mono ?_
    rintro e w10 ⟨rfl, hM10, hg10⟩
    have hG2e := hG2d.grown hg10 hne3
    have hT10 := below_wrote hT9 hg10 hT9.size hg4
    clear hG4d hG2d hT9 hg10
    have hnn : ((1 : Int) + ((orderOf zs n).length : Int) != (1 : Int) + ((orderOf zs n).length : Int)) = false := by simp
    go_wp2_with fail
    refine (heldIntS_any _ _ 1 (orderOf zs n).length _ (by omega) (by omega) hM10.row).mono ?_
    rintro e w11 ⟨rfl, rfl⟩
    go_wp2_with fail
    refine (toItemS_any A n c zs _ (by omega) hz (hA.behind hT10)).mono ?_
    rintro e w12 ⟨rfl, hO12, hB12⟩
    have hT12 := hT10.trans (hB12.mono hT10.size)
    have hM12 := hM10.behind hB12
    have hG2f := hG2e.behind hB12
    clear hM10 hG2e hB12 hT10
    go_wp2_with fail
    refine (implSackOrder_any _ _ _ _ zs _ (by omega) hz hO12.row).mono ?_
    rintro e w13 ⟨g13, c13, rfl, hG13, hB13⟩
    have hT13 := hT12.trans (hB13.mono hT12.size)
    have hM13 := hM12.behind hB13
    have hG2g := hG2f.behind hB13
    clear hM12 hG2f hB13 hT12 hO12
    go_wp2_with fail
    refine (eqIntS_any _ _ _ _ _ _ (orderOf zs n) (orderOf zs n) _ (by omega) (by omega) hG13.row hG2g.row).mono ?_
    rintro e w14 ⟨rfl, n14, rfl⟩
    have hM14 := hM13.drewN n14
    have hT14 := below_drewN hT13 n14
    go_wp2_with fail
    refine (heldIntS_any _ _ 1 (orderOf zs n).length _ (by omega) (by omega) hM14.row).mono ?_
    rintro e w15 ⟨rfl, rfl⟩
    go_wp2
    go_ret
    exact ⟨rfl, hT14⟩

end Go.Proofs.Ytfcnlfcjcmpkcaa
