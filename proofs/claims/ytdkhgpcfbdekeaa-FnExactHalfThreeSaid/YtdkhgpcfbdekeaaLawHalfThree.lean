/- The law FnExactHalfThree, walked out of the contracts of the functions that it calls. -/
import Derived.Test.YtdkhgpcfbdekeaaHalfThree
namespace Go.Proofs.Ytdkhgpcfbdekeaa
open Go.RowKit

set_option linter.unusedVariables false in
set_option maxHeartbeats 1600000 in
theorem lawHalfThree_core (A : Option Addr) (c : Nat) (zs : List Int) (w : World) (hA : Reads w A zs) :
    Calls Try.prog 5 #[.slice A zs.length c] w fun e w' => e = .returned (.bool true) ∧ Below w.heap.size w w' := by
  by_cases hbig : 1048576 < zs.length
  · go_enter Try.func5, Try.ntmps5
    go_wp2
    go_ret
    exact ⟨rfl, Below.refl _ _⟩
  · go_enter Try.func5, Try.ntmps5
    go_wp2_with fail
    refine (toIntS_any A c zs _ (by omega) hA).mono ?_
    rintro e w1 ⟨rfl, hO1, hB1⟩
    have hT1 : Below w.heap.size w w1 := hB1
    go_wp2_with fail
    refine (specHalfThree_any _ _ _ zs _ (by omega) hO1.row).mono ?_
    rintro e w2 ⟨rfl, hB2⟩
    have hT2 : Below w.heap.size w w2 := hT1.trans (hB2.mono hT1.size)
    go_wp2_with fail
    refine (toIntS_any A c zs _ (by omega) (hA.behind hT2)).mono ?_
    rintro e w3 ⟨rfl, hO3, hB3⟩
    have hT3 : Below w.heap.size w w3 := hT2.trans (hB3.mono hT2.size)
    go_wp2_with fail
    refine (implHalfThree_any _ _ _ zs _ (by omega) hO3.row).mono ?_
    rintro e w4 ⟨rfl, hB4⟩
    have hT4 : Below w.heap.size w w4 := hT3.trans (hB4.mono hT3.size)
    have hq : (halfThreeV zs != halfThreeV zs) = false := by simp
    have hq2 : (isIn zs != isIn zs) = false := by simp
    go_wp2_with fail
    refine (toIntS_any A c zs _ (by omega) (hA.behind hT4)).mono ?_
    rintro e w5 ⟨rfl, hO5, hB5⟩
    have hT5 : Below w.heap.size w w5 := hT4.trans (hB5.mono hT4.size)
    go_wp2_with fail
    refine (eqIntS_any _ _ _ _ _ _ zs zs _ (by omega) (by omega) ((hO3.behind hB4).behind hB5).row hO5.row).mono ?_
    rintro e w6 ⟨rfl, n6, rfl⟩
    have hd : decide (zs = zs) = true := by simp
    go_wp2
    go_ret
    exact ⟨rfl, below_drewN hT5 _⟩

end Go.Proofs.Ytdkhgpcfbdekeaa
