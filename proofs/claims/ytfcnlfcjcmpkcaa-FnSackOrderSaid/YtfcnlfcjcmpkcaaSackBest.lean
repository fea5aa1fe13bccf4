/- The worths of choices of items, and the best of them. -/
import Derived.Test.YtfcnlfcjcmpkcaaSackIn
import Derived.Test.YtfcnlfcjcmpkcaaGrown
namespace Go.Proofs.Ytfcnlfcjcmpkcaa
open Go.RowKit

set_option maxHeartbeats 1000000
theorem sackTold_any (b off c n : Nat) (room : Int) (zs : List Int) (w : World) (hn : n ≤ 1152921504606846976) (hz : zs.length = 2 * n) (hr : Row w b off zs) :
    Calls Try.prog 36 #[.slice (some ⟨b, off, none⟩) n c, .int .i64 room] w fun e w' => e = .returned (.bool (told zs n room)) ∧ Below w.heap.size w w' := by
  have ht : told zs n room = (itemsIn zs n && decide (0 ≤ room ∧ room ≤ 600)) := rfl
  cases hi : itemsIn zs n
  · go_enter Try.func36, Try.ntmps36
    go_wp2_with (go_at_call 31; refine (implSackIn_any _ _ _ _ zs _ hn hz hr).mono ?_; rw [hi]; rintro e w2 ⟨rfl, hB⟩)
    go_ret
    exact ⟨ret_bool (by rw [ht, hi]; rfl), hB⟩
  · by_cases h1 : 0 ≤ room
    · by_cases h2 : room ≤ 600
      · go_enter Try.func36, Try.ntmps36
        go_wp2_with (go_at_call 31; refine (implSackIn_any _ _ _ _ zs _ hn hz hr).mono ?_; rw [hi]; rintro e w2 ⟨rfl, hB⟩)
        go_ret
        exact ⟨ret_bool (by first | (rw [ht, hi]; simp; omega) | (simp; omega)), hB⟩
      · go_enter Try.func36, Try.ntmps36
        go_wp2_with (go_at_call 31; refine (implSackIn_any _ _ _ _ zs _ hn hz hr).mono ?_; rw [hi]; rintro e w2 ⟨rfl, hB⟩)
        go_ret
        exact ⟨ret_bool (by first | (rw [ht, hi]; simp; omega) | (simp; omega)), hB⟩
    · go_enter Try.func36, Try.ntmps36
      go_wp2_with (go_at_call 31; refine (implSackIn_any _ _ _ _ zs _ hn hz hr).mono ?_; rw [hi]; rintro e w2 ⟨rfl, hB⟩)
      go_ret
      exact ⟨ret_bool (by first | (rw [ht, hi]; simp; omega) | (simp; omega)), hB⟩

theorem l3Given_any (b off c n : Nat) (room : Int) (zs : List Int) (w : World) (hn : n ≤ 1152921504606846976) (hz : zs.length = 2 * n) (hr : Row w b off zs) :
    Calls Try.prog 39 #[.slice (some ⟨b, off, none⟩) n c, .int .i64 room] w fun e w' => e = .returned (.bool (told zs n room)) ∧ w = w' := by
  have ht : told zs n room = (itemsIn zs n && decide (0 ≤ room ∧ room ≤ 600)) := rfl
  cases hi : itemsIn zs n
  · go_enter Try.func39, Try.ntmps39
    go_wp2_with (go_at_call 33; refine (specSackIn_at _ _ _ _ zs _ hn hz hr).mono ?_; rw [hi]; rintro e w2 ⟨rfl, rfl⟩)
    go_ret
    exact ⟨ret_bool (by rw [ht, hi]; rfl), rfl⟩
  · go_enter Try.func39, Try.ntmps39
    go_wp2_with (first | (go_at_call 33; refine (specSackIn_at _ _ _ _ zs _ hn hz hr).mono ?_; rw [hi]; rintro e w2 ⟨rfl, rfl⟩) | (go_at_call 50; refine (l6In_any _ _ _ _).mono ?_; rintro e w2 ⟨rfl, rfl⟩))
    go_ret
    exact ⟨ret_bool (by first | (rw [ht, hi]; simp) | simp | (rw [ht]; simp)), rfl⟩

theorem load_any (k b off c n : Nat) (zs : List Int) (w : World) (hk : k < 4294967296) (hin : itemsIn zs n = true) (hz : zs.length = 2 * n) (hr : Row w b off zs) :
    Calls Try.prog 42 #[.int .i64 k, .slice (some ⟨b, off, none⟩) n c] w fun e w' => e = .returned (.tuple #[.int .i64 (cf (wt zs) k n), .int .i64 (cf (wo zs) k n)]) ∧ Below w.heap.size w w' := by
  have hlen := itemsIn_len hin
  have HIN := Lib.hid hin
  clear hin
  go_enter Try.func42, Try.ntmps42
  go_wp2
  go_loopw [12, 6, 7] (fun i s t wr => ∃ j : Nat, j ≤ n ∧ i = .int .i64 j ∧ s = .int .i64 (cf (wt zs) k j) ∧ t = .int .i64 (cf (wo zs) k j) ∧ Below w.heap.size w wr) (fun i _ _ _ => n - (intOf i).toNat)
  case atStart => exact ⟨0, Nat.zero_le _, rfl, rfl, rfl, Below.refl _ _⟩
  case round =>
    obtain ⟨j, hj, rfl, rfl, rfl, hB⟩ := hrel
    have hb1 := wt_bd HIN.out k j hj
    have hb2 := wo_bd HIN.out k j hj
    by_cases hlt : j < n
    · have c1 := Row.wt (hr.behind hB) hz j hlt
      have c2 := Row.wo (hr.behind hB) hz j hlt
      have hx0 := itemsIn_get HIN.out j hlt
      have hs1 : cf (wt zs) k (j + 1) = cf (wt zs) k j + if bitAt k j = 1 then wt zs j else 0 := by rw [← bit_mul]; rfl
      have hs2 : cf (wo zs) k (j + 1) = cf (wo zs) k j + if bitAt k j = 1 then wo zs j else 0 := by rw [← bit_mul]; rfl
      obtain ⟨x, hx⟩ : ∃ x, wt zs j = x := ⟨_, rfl⟩
      obtain ⟨y, hy⟩ : ∃ y, wo zs j = y := ⟨_, rfl⟩
      obtain ⟨s, hs⟩ : ∃ s, cf (wt zs) k j = s := ⟨_, rfl⟩
      obtain ⟨t, ht⟩ : ∃ t, cf (wo zs) k j = t := ⟨_, rfl⟩
      rw [hx, hs] at hs1
      rw [hy, ht] at hs2
      rw [hx] at c1
      rw [hy] at c2
      rw [hx, hy] at hx0
      rw [hs] at hb1 ⊢
      rw [ht] at hb2 ⊢
      have HS1 := Lib.hid hs1
      have HS2 := Lib.hid hs2
      have hsz := hB.size
      have HB := Lib.hid (hB.alloc hsz (.cells #[.int .i64 x, .int .i64 y] 30))
      clear hx hy hs ht hs1 hs2 hB
      by_cases hb : bitAt k j = 1
      · have hd : decide (bitAt k j = 1) = true := by simp [hb]
        have HBT := Lib.hid hb
        clear hb
        go_wp2_with (go_at_call 52; refine (has_any _ _ hk (by omega) _).mono ?_; rintro e w' ⟨rfl, rfl⟩)
        go_roundw
        case rel => exact ⟨j + 1, by omega, by go_num, by rw [HS1.out, if_pos HBT.out], by rw [HS2.out, if_pos HBT.out], HB.out⟩
        case measure => simp [intOf]; omega
      · have hd : decide (bitAt k j = 1) = false := by simp [hb]
        have HBT := Lib.hid hb
        clear hb
        go_wp2_with (go_at_call 52; refine (has_any _ _ hk (by omega) _).mono ?_; rintro e w' ⟨rfl, rfl⟩)
        go_roundw
        case rel => exact ⟨j + 1, by omega, by go_num, by rw [HS1.out, if_neg HBT.out]; simp, by rw [HS2.out, if_neg HBT.out]; simp, HB.out⟩
        case measure => simp [intOf]; omega
    · obtain rfl : j = n := by omega
      go_wp2
      go_ret2
      exact ⟨rfl, hB⟩

theorem l3Set_any (k b off c n : Nat) (zs : List Int) (w : World) (hk : k < 4294967296) (hin : itemsIn zs n = true) (hz : zs.length = 2 * n) (hr : Row w b off zs) :
    Calls Try.prog 53 #[.slice (some ⟨b, off, none⟩) n c, .int .i64 k] w fun e w' => e = .returned (.tuple #[.int .i64 (cf (wt zs) k n), .int .i64 (cf (wo zs) k n)]) ∧ ∃ m, w' = w.drewN m := by
  have hlen := itemsIn_len hin
  have HIN := Lib.hid hin
  clear hin
  go_enter Try.func53, Try.ntmps53
  go_wp2
  go_loopw [8, 6, 7] (fun i s t wr => ∃ j m : Nat, j ≤ n ∧ i = .int .i64 j ∧ s = .int .i64 (cf (wt zs) k j) ∧ t = .int .i64 (cf (wo zs) k j) ∧ wr = w.drewN m) (fun i _ _ _ => n - (intOf i).toNat)
  case atStart => exact ⟨0, 0, Nat.zero_le _, rfl, rfl, rfl, rfl⟩
  case round =>
    obtain ⟨j, m, hj, rfl, rfl, rfl, rfl⟩ := hrel
    have hb1 := wt_bd HIN.out k j hj
    have hb2 := wo_bd HIN.out k j hj
    by_cases hlt : j < n
    · have c1 := Row.wt hr hz j hlt
      have c2 := Row.wo hr hz j hlt
      have hx0 := itemsIn_get HIN.out j hlt
      have hs1 : cf (wt zs) k (j + 1) = cf (wt zs) k j + (bitAt k j : Int) * wt zs j := rfl
      have hs2 : cf (wo zs) k (j + 1) = cf (wo zs) k j + (bitAt k j : Int) * wo zs j := rfl
      have hb01 := bitAt_01 k j
      have hbit := bit_walk k j hk
      obtain ⟨x, hx⟩ : ∃ x, wt zs j = x := ⟨_, rfl⟩
      obtain ⟨y, hy⟩ : ∃ y, wo zs j = y := ⟨_, rfl⟩
      obtain ⟨s, hs⟩ : ∃ s, cf (wt zs) k j = s := ⟨_, rfl⟩
      obtain ⟨t, ht⟩ : ∃ t, cf (wo zs) k j = t := ⟨_, rfl⟩
      rw [hx, hs] at hs1
      rw [hy, ht] at hs2
      rw [hx] at c1
      rw [hy] at c2
      rw [hx, hy] at hx0
      rw [hs] at hb1 ⊢
      rw [ht] at hb2 ⊢
      have HS1 := Lib.hid hs1
      have HS2 := Lib.hid hs2
      have hp : 0 ≤ (bitAt k j : Int) * x ∧ (bitAt k j : Int) * x ≤ 60 := by rcases hb01 with e | e <;> rw [e] <;> omega
      have hq : 0 ≤ (bitAt k j : Int) * y ∧ (bitAt k j : Int) * y ≤ 1000 := by rcases hb01 with e | e <;> rw [e] <;> omega
      obtain ⟨hp1, hp2⟩ := hp
      obtain ⟨hq1, hq2⟩ := hq
      clear hx hy hs ht hs1 hs2
      go_wp2
      go_quiet (fail)
      go_wp2
      go_quiet (fail)
      go_wp2
      go_roundw
      case rel => exact ⟨j + 1, _, by omega, by go_num, by rw [HS1.out], by rw [HS2.out], rfl⟩
      case measure => simp [intOf]; omega
    · obtain rfl : j = n := by omega
      go_wp2
      go_ret2
      exact ⟨rfl, m, rfl⟩

theorem told_yes {zs : List Int} {n : Nat} {room : Int} (h : told zs n room = true) : itemsIn zs n = true ∧ 0 ≤ room ∧ room ≤ 600 := by
  unfold told at h; simp at h; exact ⟨h.1, h.2.1, h.2.2⟩

theorem l3Best_any (b off c n : Nat) (room : Int) (zs : List Int) (w : World) (ht : told zs n room = true) (hz : zs.length = 2 * n) (hr : Row w b off zs) :
    Calls Try.prog 43 #[.slice (some ⟨b, off, none⟩) n c, .int .i64 room] w fun e w' => e = .returned (.tuple #[.int .i64 (bestA zs n room (2 ^ n) : Int), .int .i64 (bestV zs n room (2 ^ n))]) ∧ ∃ m, w' = w.drewN m := by
  obtain ⟨hin, h0, h6⟩ := told_yes ht
  have hlen := itemsIn_len hin
  obtain ⟨N, hN, hN1, hN2, hN3⟩ := pow_walk n (by omega)
  rw [hN]
  have HIN := Lib.hid hin
  clear hin ht
  go_enter Try.func43, Try.ntmps43
  go_wp2
  go_loopw [8, 6, 7] (fun i a v wr => ∃ k m : Nat, 1 ≤ k ∧ k ≤ N ∧ i = .int .i64 k ∧ a = .int .i64 ((bestA zs n room k : Nat) : Int) ∧ v = .int .i64 (bestV zs n room k) ∧ wr = w.drewN m) (fun i _ _ _ => N - (intOf i).toNat)
  case atStart => exact ⟨1, 0, Nat.le_refl _, hN1, rfl, by rw [bestA_one]; rfl, by rw [bestV_one], rfl⟩
  case round =>
    obtain ⟨k, m, hk1, hk, rfl, rfl, rfl, rfl⟩ := hrel
    have hbv := bestV_bd HIN.out room k
    have hba := bestA_bd zs n room k
    by_cases hlt : k < N
    · have hw := wt_bd HIN.out k n (Nat.le_refl _)
      have hv := wo_bd HIN.out k n (Nat.le_refl _)
      have hs1 : bestV zs n room (k + 1) = if cf (wt zs) k n ≤ room then max (bestV zs n room k) (cf (wo zs) k n) else bestV zs n room k := rfl
      have hs2 : bestA zs n room (k + 1) = if cf (wt zs) k n ≤ room ∧ bestV zs n room k < cf (wo zs) k n then k else bestA zs n room k := rfl
      obtain ⟨x, hx⟩ : ∃ x, cf (wt zs) k n = x := ⟨_, rfl⟩
      obtain ⟨y, hy⟩ : ∃ y, cf (wo zs) k n = y := ⟨_, rfl⟩
      obtain ⟨s, hs⟩ : ∃ s, bestV zs n room k = s := ⟨_, rfl⟩
      obtain ⟨a, ha⟩ : ∃ a, bestA zs n room k = a := ⟨_, rfl⟩
      rw [hx, hy, hs] at hs1 hs2
      rw [ha] at hs2
      rw [hx] at hw
      rw [hy] at hv
      rw [hs] at hbv ⊢
      rw [ha] at hba ⊢
      have HS1 := Lib.hid hs1
      have HS2 := Lib.hid hs2
      have HX := Lib.hid hx
      have HY := Lib.hid hy
      clear hx hy hs ha hs1 hs2
      by_cases q1 : x ≤ room
      · by_cases q2 : s < y
        · go_wp2_with (go_at_call 53; refine (l3Set_any _ _ _ _ _ zs _ (by omega) HIN.out hz (hr.drewN _)).mono ?_; rw [HX.out, HY.out]; rintro e w' ⟨rfl, m2, rfl⟩)
          go_roundw
          case rel => exact ⟨k + 1, _, by omega, by omega, by go_num, by rw [HS2.out, if_pos ⟨q1, q2⟩], by rw [HS1.out, if_pos q1]; congr 1; omega, rfl⟩
          case measure => simp [intOf]; omega
        · go_wp2_with (go_at_call 53; refine (l3Set_any _ _ _ _ _ zs _ (by omega) HIN.out hz (hr.drewN _)).mono ?_; rw [HX.out, HY.out]; rintro e w' ⟨rfl, m2, rfl⟩)
          go_roundw
          case rel => exact ⟨k + 1, _, by omega, by omega, by go_num, by rw [HS2.out, if_neg (by omega)], by rw [HS1.out, if_pos q1]; congr 1; omega, rfl⟩
          case measure => simp [intOf]; omega
      · go_wp2_with (go_at_call 53; refine (l3Set_any _ _ _ _ _ zs _ (by omega) HIN.out hz (hr.drewN _)).mono ?_; rw [HX.out, HY.out]; rintro e w' ⟨rfl, m2, rfl⟩)
        go_roundw
        case rel => exact ⟨k + 1, _, by omega, by omega, by go_num, by rw [HS2.out, if_neg (by omega)], by rw [HS1.out, if_neg (by omega)], rfl⟩
        case measure => simp [intOf]; omega
    · obtain rfl : k = N := by omega
      go_wp2
      go_ret2
      exact ⟨rfl, m, rfl⟩

/-- The greatest worth of a choice that the sack takes, 0 where items and room are not as told; and the least choice with it. -/
def sackV (zs : List Int) (n : Nat) (room : Int) : Int := if told zs n room then bestV zs n room (2 ^ n) else 0
def sackA (zs : List Int) (n : Nat) (room : Int) : Int := if told zs n room then (bestA zs n room (2 ^ n) : Int) else 0

theorem specSackBest_any (b off c n : Nat) (room : Int) (zs : List Int) (w : World) (hn : n ≤ 1152921504606846976) (hz : zs.length = 2 * n) (hr : Row w b off zs) :
    Calls Try.prog 29 #[.slice (some ⟨b, off, none⟩) n c, .int .i64 room] w fun e w' => e = .returned (.tuple #[.int .i64 (sackV zs n room), .bool (told zs n room)]) ∧ Below w.heap.size w w' := by
  unfold sackV
  cases ht : told zs n room
  · go_enter Try.func29, Try.ntmps29
    go_wp2_with (go_at_call 39; refine (l3Given_any _ _ _ _ _ zs _ hn hz hr).mono ?_; rw [ht]; rintro e w2 ⟨rfl, rfl⟩)
    go_ret2
    exact ⟨rfl, Below.refl _ _⟩
  · go_enter Try.func29, Try.ntmps29
    go_wp2_with (first | (go_at_call 39; refine (l3Given_any _ _ _ _ _ zs _ hn hz hr).mono ?_; rw [ht]; rintro e w2 ⟨rfl, rfl⟩) | (go_at_call 43; refine (l3Best_any _ _ _ _ _ zs _ ht hz hr).mono ?_; rintro e w2 ⟨rfl, m, rfl⟩))
    go_ret2
    exact ⟨rfl, below_drewN (Below.refl _ _) _⟩


theorem implSackBest_any (b off c n : Nat) (room : Int) (zs : List Int) (w : World) (hn : n ≤ 1152921504606846976) (hz : zs.length = 2 * n) (hr : Row w b off zs) :
    Calls Try.prog 28 #[.slice (some ⟨b, off, none⟩) n c, .int .i64 room] w fun e w' => e = .returned (.tuple #[.int .i64 (sackV zs n room), .bool (told zs n room)]) ∧ Below w.heap.size w w' := by
  unfold sackV
  cases ht : told zs n room
  · go_enter Try.func28, Try.ntmps28
    go_wp2_with (go_at_call 36; refine (sackTold_any _ _ _ _ _ zs _ hn hz hr).mono ?_; rw [ht]; rintro e w2 ⟨rfl, hB⟩)
    go_ret2
    exact ⟨rfl, hB⟩
  · obtain ⟨hin, h0, h6⟩ := told_yes ht
    have hlen := itemsIn_len hin
    obtain ⟨N, hN, hN1, hN2, hN3⟩ := pow_walk n (by omega)
    rw [hN]
    have HIN := Lib.hid hin
    have HT := Lib.hid ht
    clear hin ht
    simp only [if_true]
    go_enter Try.func28, Try.ntmps28
    go_wp2_with (go_at_call 36; refine (sackTold_any _ _ _ _ _ zs _ hn hz hr).mono ?_; rw [HT.out]; rintro e w2 ⟨rfl, hB⟩)
    simp only [hN3]
    go_loopw [17, 6] (fun i v wr => ∃ k : Nat, k ≤ N ∧ i = .int .i64 k ∧ v = .int .i64 (bestV zs n room k) ∧ Below w.heap.size w wr) (fun i _ _ => N - (intOf i).toNat)
    case atStart => exact ⟨0, Nat.zero_le _, rfl, rfl, hB⟩
    case round =>
      clear hB
      obtain ⟨k, hk, rfl, rfl, hB⟩ := hrel
      have hbv := bestV_bd HIN.out room k
      by_cases hlt : k < N
      · have hw := wt_bd HIN.out k n (Nat.le_refl _)
        have hv := wo_bd HIN.out k n (Nat.le_refl _)
        have hs1 : bestV zs n room (k + 1) = if cf (wt zs) k n ≤ room then max (bestV zs n room k) (cf (wo zs) k n) else bestV zs n room k := rfl
        obtain ⟨x, hx⟩ : ∃ x, cf (wt zs) k n = x := ⟨_, rfl⟩
        obtain ⟨y, hy⟩ : ∃ y, cf (wo zs) k n = y := ⟨_, rfl⟩
        obtain ⟨s, hs⟩ : ∃ s, bestV zs n room k = s := ⟨_, rfl⟩
        rw [hx, hy, hs] at hs1
        rw [hx] at hw
        rw [hy] at hv
        rw [hs] at hbv ⊢
        have HS1 := Lib.hid hs1
        have HX := Lib.hid hx
        have HY := Lib.hid hy
        have hsz := hB.size
        have HB := Lib.hid hB
        clear hx hy hs hs1 hB
        by_cases q1 : x ≤ room
        · go_wp2_with (go_at_call 42; refine (load_any _ _ _ _ _ zs _ (by omega) HIN.out hz (hr.behind HB.out)).mono ?_; rw [HX.out, HY.out]; rintro e w' ⟨rfl, hB2⟩)
          go_roundw
          case rel => exact ⟨k + 1, by omega, by go_num, by rw [HS1.out, if_pos q1]; congr 1; rw [max_if]; try omega, HB.out.trans (hB2.mono hsz)⟩
          case measure => simp [intOf]; omega
        · go_wp2_with (go_at_call 42; refine (load_any _ _ _ _ _ zs _ (by omega) HIN.out hz (hr.behind HB.out)).mono ?_; rw [HX.out, HY.out]; rintro e w' ⟨rfl, hB2⟩)
          go_roundw
          case rel => exact ⟨k + 1, by omega, by go_num, by rw [HS1.out, if_neg (by omega)], HB.out.trans (hB2.mono hsz)⟩
          case measure => simp [intOf]; omega
      · obtain rfl : k = N := by omega
        go_wp2
        go_ret2
        exact ⟨rfl, hB⟩


end Go.Proofs.Ytfcnlfcjcmpkcaa
