/- SackIn, the program's and the reference's. -/
import Derived.Test.YtfcnlfcjcmpkcaaItems
namespace Go.Proofs.Ytfcnlfcjcmpkcaa
open Go.RowKit

set_option maxHeartbeats 1000000
theorem implSackIn_any (b off c n : Nat) (zs : List Int) (w : World) (hn : n ≤ 1152921504606846976) (hz : zs.length = 2 * n) (hr : Row w b off zs) :
    Calls Try.prog 31 #[.slice (some ⟨b, off, none⟩) n c] w fun e w' => e = .returned (.bool (itemsIn zs n)) ∧ Below w.heap.size w w' := by
  by_cases h10 : 10 < n
  · go_enter Try.func31, Try.ntmps31
    go_wp2
    go_ret
    exact ⟨ret_bool (itemsIn_long h10).symm, Below.refl _ _⟩
  · go_enter Try.func31, Try.ntmps31
    go_wp2
    go_loopw [10] (fun i wr => ∃ k : Nat, k ≤ n ∧ i = .int .i64 k ∧ (∀ j, j < k → okItem (wt zs j) (wo zs j) = true) ∧ Below w.heap.size w wr) (fun i _ => n - (intOf i).toNat)
    case atStart => exact ⟨0, Nat.zero_le _, rfl, fun j h => by omega, Below.refl _ _⟩
    case round =>
      obtain ⟨k, hk, rfl, ha, hB⟩ := hrel
      have HA := Lib.hid ha
      clear ha
      by_cases hlt : k < n
      · have c1 := Row.wt (hr.behind hB) hz k hlt
        have c2 := Row.wo (hr.behind hB) hz k hlt
        obtain ⟨x, hx⟩ : ∃ x, wt zs k = x := ⟨_, rfl⟩
        obtain ⟨y, hy⟩ : ∃ y, wo zs k = y := ⟨_, rfl⟩
        rw [hx] at c1
        rw [hy] at c2
        have HX := Lib.hid hx
        have HY := Lib.hid hy
        have hsz := hB.size
        have HB := Lib.hid (hB.alloc hsz (.cells #[.int .i64 x, .int .i64 y] 30))
        clear hx hy hB
        by_cases hb1 : 1 ≤ x
        · by_cases hb2 : x ≤ 60
          · by_cases hb3 : 0 ≤ y
            · by_cases hb4 : y ≤ 1000
              · go_wp2
                go_roundw
                case rel => exact ⟨k + 1, by omega, by go_num, fun j hj => by rcases Nat.lt_succ_iff_lt_or_eq.1 hj with h | rfl; exact HA.out j h; rw [HX.out, HY.out]; exact (okItem_iff _ _).2 ⟨hb1, hb2, hb3, hb4⟩, HB.out⟩
                case measure => simp [intOf]; omega
              · go_wp2
                go_ret
                exact ⟨ret_bool (itemsIn_no hlt (by rw [HX.out, HY.out]; omega)).symm, HB.out⟩
            · go_wp2
              go_ret
              exact ⟨ret_bool (itemsIn_no hlt (by rw [HX.out, HY.out]; omega)).symm, HB.out⟩
          · go_wp2
            go_ret
            exact ⟨ret_bool (itemsIn_no hlt (by rw [HX.out, HY.out]; omega)).symm, HB.out⟩
        · go_wp2
          go_ret
          exact ⟨ret_bool (itemsIn_no hlt (by rw [HX.out, HY.out]; omega)).symm, HB.out⟩
      · obtain rfl : k = n := by omega
        go_wp2
        go_ret
        exact ⟨ret_bool (by rw [itemsIn_yes HA.out]; simp; omega), hB⟩

theorem specSackIn_at (b off c n : Nat) (zs : List Int) (w : World) (hn : n ≤ 1152921504606846976) (hz : zs.length = 2 * n) (hr : Row w b off zs) :
    Calls Try.prog 33 #[.slice (some ⟨b, off, none⟩) n c] w fun e w' => e = .returned (.bool (itemsIn zs n)) ∧ w = w' := by
  go_enter Try.func33, Try.ntmps33
  go_wp2
  go_loop [3] (fun i => ∃ k : Nat, k ≤ n ∧ i = .int .i64 k ∧ (∀ j, j < k → okItem (wt zs j) (wo zs j) = true)) (fun i => n - (intOf i).toNat)
  case atStart => exact ⟨0, Nat.zero_le _, rfl, fun j h => by omega⟩
  case round =>
    obtain ⟨k, hk, rfl, ha⟩ := hrel
    have HA := Lib.hid ha
    clear ha
    by_cases hlt : k < n
    · have c1 := Row.wt hr hz k hlt
      have c2 := Row.wo hr hz k hlt
      obtain ⟨x, hx⟩ : ∃ x, wt zs k = x := ⟨_, rfl⟩
      obtain ⟨y, hy⟩ : ∃ y, wo zs k = y := ⟨_, rfl⟩
      rw [hx] at c1
      rw [hy] at c2
      have HX := Lib.hid hx
      have HY := Lib.hid hy
      clear hx hy
      by_cases hbx : 1 ≤ x ∧ x ≤ 60
      · have q1 : (decide (1 ≤ x) && decide (x ≤ 60)) = true := by simp [hbx]
        by_cases hby : 0 ≤ y ∧ y ≤ 1000
        · have q2 : (decide (0 ≤ y) && decide (y ≤ 1000)) = true := by simp [hby]
          have HBX := Lib.hid hbx
          have HBY := Lib.hid hby
          clear hbx hby
          go_wp2_with (go_at_call 50; refine (l6In_any _ _ _ _).mono ?_; rintro e w2 ⟨rfl, rfl⟩)
          go_round
          case rel => exact ⟨k + 1, by omega, by go_num, fun j hj => by rcases Nat.lt_succ_iff_lt_or_eq.1 hj with h | rfl; exact HA.out j h; rw [HX.out, HY.out]; exact (okItem_iff _ _).2 ⟨HBX.out.1, HBX.out.2, HBY.out.1, HBY.out.2⟩⟩
          case measure => simp [intOf]; omega
        · have q2 : (decide (0 ≤ y) && decide (y ≤ 1000)) = false := by simp; omega
          have HBY := Lib.hid hby
          clear hby hbx
          go_wp2_with (go_at_call 50; refine (l6In_any _ _ _ _).mono ?_; rintro e w2 ⟨rfl, rfl⟩)
          go_ret
          exact ⟨ret_bool (itemsIn_no hlt (by rw [HX.out, HY.out]; have := HBY.out; omega)).symm, rfl⟩
      · have q1 : (decide (1 ≤ x) && decide (x ≤ 60)) = false := by simp; omega
        have HBX := Lib.hid hbx
        clear hbx
        go_wp2_with (go_at_call 50; refine (l6In_any _ _ _ _).mono ?_; rintro e w2 ⟨rfl, rfl⟩)
        go_ret
        exact ⟨ret_bool (itemsIn_no hlt (by rw [HX.out, HY.out]; have := HBX.out; omega)).symm, rfl⟩
    · obtain rfl : k = n := by omega
      go_wp2
      go_ret
      exact ⟨ret_bool (by rw [itemsIn_yes HA.out, decide_eq_decide]; omega), rfl⟩

theorem specSackIn_any (b off c n : Nat) (zs : List Int) (w : World) (hn : n ≤ 1152921504606846976) (hz : zs.length = 2 * n) (hr : Row w b off zs) :
    Calls Try.prog 33 #[.slice (some ⟨b, off, none⟩) n c] w fun e w' => e = .returned (.bool (itemsIn zs n)) ∧ Below w.heap.size w w' := by
  refine (specSackIn_at b off c n zs w hn hz hr).mono ?_
  rintro e w' ⟨rfl, rfl⟩
  exact ⟨rfl, Below.refl _ _⟩

end Go.Proofs.Ytfcnlfcjcmpkcaa
