/- The law FnExactSumIn: walked. -/
import Derived.Test.YtepifkollhnmaaaLeaf
namespace Go.Proofs.Ytepifkollhnmaaa
open Go.RowKit

set_option maxHeartbeats 400000 in
theorem lawSumIn_core (A : Option Addr) (c : Nat) (zs : List Int) (w : World) (hA : Reads w A zs) :
    Calls Try.prog 4 #[.slice A zs.length c] w fun e w' => e = .returned (.bool true) ∧ Below w.heap.size w w' := by
  by_cases hbig : 1048576 < zs.length
  · go_enter Try.func4, Try.ntmps4
    go_wp2
    go_ret
    exact ⟨rfl, Below.refl _ _⟩
  · go_enter Try.func4, Try.ntmps4
    go_wp2_with fail
    refine (toIntS_any A c zs _ (by omega) hA).mono ?_
    rintro e w1 ⟨rfl, hO1, hB1⟩
    go_wp2_with fail
    refine (specSumIn_any _ _ _ zs _ (by omega) hO1.row).mono ?_
    rintro e w1 ⟨rfl, rfl⟩
    go_wp2_with fail
    refine (toIntS_any A c zs _ (by omega) (hA.behind hB1)).mono ?_
    rintro e w2 ⟨rfl, hO2, hB2⟩
    go_wp2_with fail
    refine (implSumIn_any _ _ _ zs _ (by omega) hO2.row).mono ?_
    rintro e w2 ⟨rfl, rfl⟩
    have hq : (isIn zs != isIn zs) = false := by simp
    go_wp2_with fail
    refine (toIntS_any A c zs _ (by omega) (hA.behind (hB1.trans (hB2.mono hB1.size)))).mono ?_
    rintro e w3 ⟨rfl, hO3, hB3⟩
    go_wp2_with fail
    refine (eqIntS_any _ _ _ _ _ _ zs zs _ (by omega) (by omega) (hO2.behind hB3).row hO3.row).mono ?_
    rintro e w4 ⟨rfl, n, rfl⟩
    have hd : decide (zs = zs) = true := by simp
    go_wp2
    go_ret
    exact ⟨rfl, below_drewN ((hB1.trans (hB2.mono hB1.size)).trans (hB3.mono (Nat.le_trans hB1.size hB2.size))) _⟩

end Go.Proofs.Ytepifkollhnmaaa
