/- Whether two lists of numbers are the same. -/
import Derived.Test.YtfcnlfcjcmpkcaaLeaf
namespace Go.Proofs.Ytfcnlfcjcmpkcaa
open Go.RowKit
set_option maxHeartbeats 400000
theorem sameInts_any (b off c b' off' c' : Nat) (xs ys : List Int) (w : World) (_hx : xs.length ≤ 1152921504606846976) (hy : ys.length ≤ 1152921504606846976) (h1 : Row w b off xs) (h2 : Row w b' off' ys) :
    Calls Try.prog 13 #[.slice (some ⟨b, off, none⟩) xs.length c, .slice (some ⟨b', off', none⟩) ys.length c'] w fun e w' => e = .returned (.bool (decide (xs = ys))) ∧ ∃ n, w' = w.drewN n := by
  by_cases hl : xs.length = ys.length
  · obtain ⟨L, hL⟩ : ∃ L, ys.length = L := ⟨_, rfl⟩
    rw [hL] at hl hy ⊢
    rw [hl]
    have HL := Lib.hid hl
    have HL2 := Lib.hid hL
    clear hl hL
    go_enter Try.func13, Try.ntmps13
    go_wp2
    go_loopw [5] (fun i wr => ∃ k n : Nat, k ≤ L ∧ i = .int .i64 k ∧ (∀ j, j < k → xs[j]?.getD 0 = ys[j]?.getD 0) ∧ wr = w.drewN n) (fun i _ => L - (intOf i).toNat)
    case atStart => exact ⟨0, 0, Nat.zero_le _, rfl, fun j hj => by omega, rfl⟩
    case round =>
      obtain ⟨k, n, hk, rfl, ha, rfl⟩ := hrel
      have HA := Lib.hid ha
      clear ha
      by_cases hlt : k < L
      · have hcx := h1.2 k (by rw [HL.out]; exact hlt)
        have hcy := h2.2 k (by rw [HL2.out]; exact hlt)
        obtain ⟨x, hx⟩ : ∃ x, xs[k]?.getD 0 = x := ⟨_, rfl⟩
        obtain ⟨y, hy⟩ : ∃ y, ys[k]?.getD 0 = y := ⟨_, rfl⟩
        rw [hx] at hcx
        rw [hy] at hcy
        have HX := Lib.hid hx
        have HY := Lib.hid hy
        clear hx hy h1 h2
        by_cases hxy : x = y
        · subst hxy
          go_wp2
          go_quiet (fail)
          go_wp2
          go_roundw
          case rel => exact ⟨k + 1, _, by omega, by go_num, fun j hj => by rcases Nat.lt_succ_iff_lt_or_eq.1 hj with h | rfl; exact HA.out j h; rw [HX.out, HY.out], rfl⟩
          case measure => simp [intOf]; omega
        · have hq : (x != y) = true := by simp [hxy]
          have HXY := Lib.hid hxy
          clear hxy
          go_wp2
          go_quiet (fail)
          go_wp2
          go_ret
          exact ⟨ret_bool (by symm; rw [decide_eq_false_iff_not]; rintro rfl; exact HXY.out (HX.out.symm.trans HY.out)), _, World.drewN_drewN _ _ _⟩
      · obtain rfl : k = L := by omega
        go_wp2
        go_ret
        exact ⟨ret_bool (by symm; rw [decide_eq_true_iff]; exact eq_of_get (HL.out.trans HL2.out.symm) (fun j hj => HA.out j (by rw [HL2.out] at hj; exact hj))), n, rfl⟩
  · have hne : ((xs.length : Int) != (ys.length : Int)) = true := by simp; omega
    go_enter Try.func13, Try.ntmps13
    go_wp2
    go_ret
    exact ⟨ret_bool (by symm; rw [decide_eq_false_iff_not]; rintro rfl; exact hl rfl), 0, rfl⟩

end Go.Proofs.Ytfcnlfcjcmpkcaa
