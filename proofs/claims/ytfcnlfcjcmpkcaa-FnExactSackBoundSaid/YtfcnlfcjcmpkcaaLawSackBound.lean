/- The law FnExactSackBound, walked out of the contracts of the functions that it calls. -/
import Derived.Test.YtfcnlfcjcmpkcaaSackGreedy
namespace Go.Proofs.Ytfcnlfcjcmpkcaa
open Go.RowKit

set_option linter.unusedVariables false in
set_option maxHeartbeats 1600000 in
theorem lawSackBound_core (A : Option Addr) (n c : Nat) (zs : List Int) (room : Int) (w : World) (hA : Reads w A zs) (hz : zs.length = 2 * n) (hn : n ≤ 9223372036854775807) (_broom : -9223372036854775808 ≤ room ∧ room ≤ 9223372036854775807) :
    Calls Try.prog 5 #[.slice A n c, .int .i64 room] w fun e w' => e = .returned (.bool true) ∧ Below w.heap.size w w' := by
  by_cases hbig : 1048576 < n
  · go_enter Try.func5, Try.ntmps5
    go_wp2_with (go_at_call 17; refine (szItemS_big _ _ _ _ hn hbig).mono ?_; rintro e w2 ⟨rfl, rfl⟩)
    go_ret
    exact ⟨rfl, Below.refl _ _⟩
  · go_enter Try.func5, Try.ntmps5
    go_wp2_with (go_at_call 17; refine (szItemS_small _ _ _ _ hbig).mono ?_; rintro e w2 ⟨rfl, rfl⟩)
    go_wp2_with fail
    refine (toItemS_any A n c zs _ (by omega) hz hA).mono ?_
    rintro e w1 ⟨rfl, hO1, hB1⟩
    have hT1 : Below w.heap.size w w1 := hB1
    go_wp2_with fail
    refine (specSackBound_any _ _ _ _ room zs _ (by omega) hz hO1.row).mono ?_
    rintro e w2 ⟨rfl, hB2⟩
    have hT2 : Below w.heap.size w w2 := hT1.trans (hB2.mono hT1.size)
    go_wp2_with fail
    refine (toItemS_any A n c zs _ (by omega) hz (hA.behind hT2)).mono ?_
    rintro e w3 ⟨rfl, hO3, hB3⟩
    have hT3 : Below w.heap.size w w3 := hT2.trans (hB3.mono hT2.size)
    go_wp2_with fail
    refine (implSackBound_any _ _ _ _ room zs _ (by omega) hz hO3.row).mono ?_
    rintro e w4 ⟨rfl, hB4⟩
    have hT4 : Below w.heap.size w w4 := hT3.trans (hB4.mono hT3.size)
    have hq0 : (sackBoundV zs n room != sackBoundV zs n room) = false := by simp
    have hq1 : (told zs n room != told zs n room) = false := by simp
    go_wp2_with fail
    refine (toItemS_any A n c zs _ (by omega) hz (hA.behind hT4)).mono ?_
    rintro e w5 ⟨rfl, hO5, hB5⟩
    have hT5 : Below w.heap.size w w5 := hT4.trans (hB5.mono hT4.size)
    go_wp2_with fail
    refine (eqItemS_same _ _ _ _ _ _ n zs _ (by omega) hz ((hO3.behind hB4).behind hB5).row hO5.row).mono ?_
    rintro e w6 ⟨rfl, hB6⟩
    go_wp2
    go_ret
    exact ⟨rfl, hT5.trans (hB6.mono hT5.size)⟩

end Go.Proofs.Ytfcnlfcjcmpkcaa
