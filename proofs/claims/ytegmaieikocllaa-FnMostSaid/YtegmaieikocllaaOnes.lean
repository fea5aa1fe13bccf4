/- The number of places of a choice. -/
import Derived.Test.YtegmaieikocllaaLeaf
import Derived.Test.YtegmaieikocllaaMostLaw
namespace Go.Proofs.Ytegmaieikocllaa
open Go.RowKit
set_option maxHeartbeats 1000000
set_option maxRecDepth 100000

theorem onesCount64_any (k : Nat) (hk : k < 1024) (w : World) :
    Calls Try.prog 69 #[.int .u64 k] w fun e w' => e = .returned (.int .i64 (pop k 10)) ∧ w = w' := by
  go_enter Try.func69, Try.ntmps69
  go_wp2
  go_ret
  refine ⟨ret_int ?_, rfl⟩
  clear w
  revert k
  decide +kernel

theorem onesCount_any (k : Nat) (hk : k < 1024) (w : World) :
    Calls Try.prog 64 #[.int .u64 k] w fun e w' => e = .returned (.int .i64 (pop k 10)) ∧ w = w' := by
  go_enter Try.func64, Try.ntmps64
  go_wp2_with (go_at_call 69; refine (onesCount64_any k hk _).mono ?_; rintro e w' ⟨rfl, rfl⟩)
  go_ret
  exact ⟨rfl, rfl⟩

theorem pop_stop (c n m : Nat) (hc : c < 2 ^ n) : pop c (n + m) = pop c n := by
  induction m with
  | zero => rfl
  | succ m ih =>
    rw [← Nat.add_assoc]
    simp only [pop]
    rw [ih, bitAt_low c (n + m) (Nat.lt_of_lt_of_le hc (Nat.pow_le_pow_right (by omega) (by omega)))]; omega

theorem places_any (k n : Nat) (hn : n ≤ 10) (hk : k < 2 ^ n) (w : World) :
    Calls Try.prog 56 #[.int .i64 k] w fun e w' => e = .returned (.int .i64 (pop k n)) ∧ w = w' := by
  have h10 : k < 1024 := Nat.lt_of_lt_of_le hk (Nat.pow_le_pow_right (n := 2) (by omega) hn)
  have hp := pop_stop k n (10 - n) hk
  rw [show n + (10 - n) = 10 by omega] at hp
  rw [← hp]
  clear hp hk
  go_enter Try.func56, Try.ntmps56
  go_wp2_with (go_at_call 64; refine (onesCount_any k h10 _).mono ?_; rintro e w' ⟨rfl, rfl⟩)
  go_ret
  exact ⟨rfl, rfl⟩

end Go.Proofs.Ytegmaieikocllaa
