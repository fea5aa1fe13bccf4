/- Contracts of the small functions: each returns what is said, in the world as it was. -/
import Derived.Test.YtdkhgpcfbdekeaaHold
import Derived.BigQuiet
import Derived.Deep.QuietTactic
namespace Go.Proofs.Ytdkhgpcfbdekeaa
open Go.RowKit

set_option maxHeartbeats 400000
theorem l6In_any (n lo hi : Int) (w : World) :
    Calls Try.prog 52 #[.int .i64 n, .int .i64 lo, .int .i64 hi] w fun e w' => e = .returned (.bool (decide (lo ≤ n) && decide (n ≤ hi))) ∧ w = w' := by
  by_cases h1 : lo ≤ n <;> by_cases h2 : n ≤ hi
  all_goals
    go_enter Try.func52, Try.ntmps52
    go_wp2
    go_ret
    exact ⟨by simp [h1, h2], rfl⟩

theorem okNum_iff (x : Int) : okNum x = true ↔ 1 ≤ x ∧ x ≤ 60 := by unfold okNum; simp
theorem okNum_no (x : Int) : okNum x = false ↔ (x < 1 ∨ 60 < x) := by unfold okNum; simp; omega


theorem implSumIn_any (b off c : Nat) (zs : List Int) (w : World) (hn : zs.length ≤ 1152921504606846976) (hr : Row w b off zs) :
    Calls Try.prog 40 #[.slice (some ⟨b, off, none⟩) zs.length c] w fun e w' => e = .returned (.bool (isIn zs)) ∧ w = w' := by
  by_cases h10 : 10 < zs.length
  · go_enter Try.func40, Try.ntmps40
    go_wp2
    go_ret
    exact ⟨ret_bool (isIn_long h10).symm, rfl⟩
  · go_enter Try.func40, Try.ntmps40
    go_wp2
    go_loop [10] (fun i => ∃ k : Nat, k ≤ zs.length ∧ i = .int .i64 k ∧ ∀ j, j < k → okNum (zs[j]?.getD 0) = true) (fun i => zs.length - (intOf i).toNat)
    case atStart => exact ⟨0, Nat.zero_le _, rfl, fun j h => by omega⟩
    case round =>
      obtain ⟨k, hk, rfl, ha⟩ := hrel
      have HA := Lib.hid ha
      clear ha
      by_cases hlt : k < zs.length
      · have hcell := hr.2 k hlt
        obtain ⟨x, hx⟩ : ∃ x, zs[k]?.getD 0 = x := ⟨_, rfl⟩
        rw [hx] at hcell
        have HX := Lib.hid hx
        clear hx
        by_cases hb1 : 1 ≤ x
        · by_cases hb2 : x ≤ 60
          · go_wp2
            go_round
            case rel => exact ⟨k + 1, by omega, by go_num, fun j hj => by rcases Nat.lt_succ_iff_lt_or_eq.1 hj with h | rfl; exact HA.out j h; rw [HX.out]; exact (okNum_iff _).2 ⟨hb1, hb2⟩⟩
            case measure => simp [intOf]; omega
          · go_wp2
            go_ret
            exact ⟨ret_bool (isIn_no hlt (by rw [HX.out]; exact (okNum_no _).2 (by omega))).symm, rfl⟩
        · go_wp2
          go_ret
          exact ⟨ret_bool (isIn_no hlt (by rw [HX.out]; exact (okNum_no _).2 (by omega))).symm, rfl⟩
      · obtain rfl : k = zs.length := by omega
        go_wp2
        go_ret
        exact ⟨ret_bool (by rw [isIn_yes HA.out]; simp; omega), rfl⟩

theorem specSumIn_any (b off c : Nat) (zs : List Int) (w : World) (hn : zs.length ≤ 1152921504606846976) (hr : Row w b off zs) :
    Calls Try.prog 38 #[.slice (some ⟨b, off, none⟩) zs.length c] w fun e w' => e = .returned (.bool (isIn zs)) ∧ w = w' := by
  go_enter Try.func38, Try.ntmps38
  go_wp2
  go_loop [3] (fun i => ∃ k : Nat, k ≤ zs.length ∧ i = .int .i64 k ∧ ∀ j, j < k → okNum (zs[j]?.getD 0) = true) (fun i => zs.length - (intOf i).toNat)
  case atStart => exact ⟨0, Nat.zero_le _, rfl, fun j h => by omega⟩
  case round =>
    obtain ⟨k, hk, rfl, ha⟩ := hrel
    have HA := Lib.hid ha
    clear ha
    by_cases hlt : k < zs.length
    · have hcell := hr.2 k hlt
      obtain ⟨x, hx⟩ : ∃ x, zs[k]?.getD 0 = x := ⟨_, rfl⟩
      rw [hx] at hcell
      have HX := Lib.hid hx
      clear hx
      by_cases hb : okNum x = true
      · have hq : (decide (1 ≤ x) && decide (x ≤ 60)) = true := hb
        have HB := Lib.hid hb
        clear hb
        go_wp2_with (go_at_call 52; refine (l6In_any _ _ _ _).mono ?_; rintro e w' ⟨rfl, rfl⟩)
        go_round
        case rel => exact ⟨k + 1, by omega, by go_num, fun j hj => by rcases Nat.lt_succ_iff_lt_or_eq.1 hj with h | rfl; exact HA.out j h; rw [HX.out]; exact HB.out⟩
        case measure => simp [intOf]; omega
      · have hb' := Bool.not_eq_true _ ▸ hb
        have hq : (decide (1 ≤ x) && decide (x ≤ 60)) = false := hb'
        have HB := Lib.hid hb'
        clear hb hb'
        go_wp2_with (go_at_call 52; refine (l6In_any _ _ _ _).mono ?_; rintro e w' ⟨rfl, rfl⟩)
        go_ret
        exact ⟨ret_bool (isIn_no hlt (by rw [HX.out]; exact HB.out)).symm, rfl⟩
    · obtain rfl : k = zs.length := by omega
      go_wp2
      go_ret
      exact ⟨ret_bool (by rw [isIn_yes HA.out]; simp; omega), rfl⟩

theorem ofInt_i64 (a : Nat) (ha : a < 9223372036854775808) : (BitVec.ofInt 64 (a : Int)).toNat = a := by
  rw [BitVec.ofInt_natCast, BitVec.toNat_ofNat]; exact Nat.mod_eq_of_lt (by omega)
theorem i64_and_nat (a b : Nat) (ha : a < 9223372036854775808) (hb : b < 9223372036854775808) : bits .and .i64 (a : Int) (b : Int) = ((a &&& b : Nat) : Int) := by
  have hx : a &&& b < 2 ^ 63 := Nat.and_lt_two_pow _ (by omega)
  show IntKind.i64.wrap ((BitVec.ofInt 64 (a : Int) &&& BitVec.ofInt 64 (b : Int)).toNat : Int) = _
  rw [BitVec.toNat_and, ofInt_i64 a ha, ofInt_i64 b hb, IntKind.wrap_i64]
  omega
theorem div_pow_cast (c p : Nat) : (c : Int) / 2 ^ p = ((c / 2 ^ p : Nat) : Int) := by
  rw [Int.natCast_ediv]; congr 1
theorem bit_walk (c p : Nat) (hc : c < 4294967296) : bits .and .i64 ((c : Int) / 2 ^ p) 1 = (bitAt c p : Int) := by
  have h1 : c / 2 ^ p ≤ c := Nat.div_le_self _ _
  rw [div_pow_cast]
  have := i64_and_nat (c / 2 ^ p) 1 (by omega) (by omega)
  rw [show ((1 : Nat) : Int) = 1 from rfl] at this
  rw [this, Nat.and_one_is_mod]; rfl

theorem has_any (k p : Nat) (hk : k < 4294967296) (hp : p < 40) (w : World) :
    Calls Try.prog 59 #[.int .i64 k, .int .i64 p] w fun e w' => e = .returned (.bool (decide (bitAt k p = 1))) ∧ w = w' := by
  go_enter Try.func59, Try.ntmps59
  go_wp2
  go_ret
  refine ⟨ret_bool ?_, rfl⟩
  rw [bit_walk k p hk]
  rcases bitAt_01 k p with e | e <;> simp [e]

theorem sum_any (k b off c : Nat) (zs : List Int) (w : World) (hk : k < 4294967296) (hin : isIn zs = true) (hr : Row w b off zs) :
    Calls Try.prog 53 #[.int .i64 k, .slice (some ⟨b, off, none⟩) zs.length c] w fun e w' => e = .returned (.int .i64 (cs zs k zs.length)) ∧ w = w' := by
  have hlen := isIn_len hin
  have HIN := Lib.hid hin
  clear hin
  go_enter Try.func53, Try.ntmps53
  go_wp2
  go_loop [10, 5] (fun i s => ∃ j : Nat, j ≤ zs.length ∧ i = .int .i64 j ∧ s = .int .i64 (cs zs k j)) (fun i _ => zs.length - (intOf i).toNat)
  case atStart => exact ⟨0, Nat.zero_le _, rfl, rfl⟩
  case round =>
    obtain ⟨j, hj, rfl, rfl⟩ := hrel
    have hb1 := cs_bd HIN.out k j
    have hb2 := tot_bd HIN.out j
    by_cases hlt : j < zs.length
    · have hcell := hr.2 j hlt
      have hx0 := getD_bd HIN.out j
      have hst : cs zs k (j + 1) = cs zs k j + if bitAt k j = 1 then zs[j]?.getD 0 else 0 := by rw [← bit_mul]; rfl
      obtain ⟨x, hx⟩ : ∃ x, zs[j]?.getD 0 = x := ⟨_, rfl⟩
      obtain ⟨s, hs⟩ : ∃ s, cs zs k j = s := ⟨_, rfl⟩
      rw [hx, hs] at hst
      rw [hx] at hcell hx0
      rw [hs] at hb1 ⊢
      have HS := Lib.hid hst
      clear hx hs hst
      by_cases hb : bitAt k j = 1
      · have hd : decide (bitAt k j = 1) = true := by simp [hb]
        have HB := Lib.hid hb
        clear hb
        go_wp2_with (go_at_call 59; refine (has_any _ _ hk (by omega) _).mono ?_; rintro e w' ⟨rfl, rfl⟩)
        go_round
        case rel => exact ⟨j + 1, by omega, by go_num, by rw [HS.out, if_pos HB.out]⟩
        case measure => simp [intOf]; omega
      · have hd : decide (bitAt k j = 1) = false := by simp [hb]
        have HB := Lib.hid hb
        clear hb
        go_wp2_with (go_at_call 59; refine (has_any _ _ hk (by omega) _).mono ?_; rintro e w' ⟨rfl, rfl⟩)
        go_round
        case rel => exact ⟨j + 1, by omega, by go_num, by rw [HS.out, if_neg HB.out]; simp⟩
        case measure => simp [intOf]; omega
    · obtain rfl : j = zs.length := by omega
      go_wp2
      go_ret
      exact ⟨rfl, rfl⟩

theorem l1Sum_any (k b off c : Nat) (zs : List Int) (w : World) (hk : k < 4294967296) (hin : isIn zs = true) (hr : Row w b off zs) :
    Calls Try.prog 47 #[.slice (some ⟨b, off, none⟩) zs.length c, .int .i64 k] w fun e w' => e = .returned (.int .i64 (cs zs k zs.length)) ∧ ∃ n, w' = w.drewN n := by
  have hlen := isIn_len hin
  have HIN := Lib.hid hin
  clear hin
  go_enter Try.func47, Try.ntmps47
  go_wp2
  go_loopw [6, 5] (fun i s wr => ∃ j n : Nat, j ≤ zs.length ∧ i = .int .i64 j ∧ s = .int .i64 (cs zs k j) ∧ wr = w.drewN n) (fun i _ _ => zs.length - (intOf i).toNat)
  case atStart => exact ⟨0, 0, Nat.zero_le _, rfl, rfl, rfl⟩
  case round =>
    obtain ⟨j, n, hj, rfl, rfl, rfl⟩ := hrel
    have hb1 := cs_bd HIN.out k j
    have hb2 := tot_bd HIN.out j
    by_cases hlt : j < zs.length
    · have hcell := hr.2 j hlt
      have hx0 := getD_bd HIN.out j
      have hst : cs zs k (j + 1) = cs zs k j + (bitAt k j : Int) * (zs[j]?.getD 0) := rfl
      have hb01 := bitAt_01 k j
      have hbit := bit_walk k j hk
      obtain ⟨x, hx⟩ : ∃ x, zs[j]?.getD 0 = x := ⟨_, rfl⟩
      obtain ⟨s, hs⟩ : ∃ s, cs zs k j = s := ⟨_, rfl⟩
      rw [hx, hs] at hst
      rw [hx] at hcell hx0
      rw [hs] at hb1 ⊢
      have HS := Lib.hid hst
      have hy : 0 ≤ (bitAt k j : Int) * x ∧ (bitAt k j : Int) * x ≤ 60 := by rcases hb01 with e | e <;> rw [e] <;> omega
      obtain ⟨hy1, hy2⟩ := hy
      clear hx hs hst
      go_wp2
      go_quiet (fail)
      go_wp2
      go_roundw
      case rel => exact ⟨j + 1, _, by omega, by go_num, by rw [HS.out], rfl⟩
      case measure => simp [intOf]; omega
    · obtain rfl : j = zs.length := by omega
      go_wp2
      go_ret
      exact ⟨rfl, n, rfl⟩

theorem totalOf_any (b off c : Nat) (zs : List Int) (w : World) (hin : isIn zs = true) (hr : Row w b off zs) :
    Calls Try.prog 41 #[.slice (some ⟨b, off, none⟩) zs.length c] w fun e w' => e = .returned (.int .i64 (tot zs zs.length)) ∧ w = w' := by
  have hlen := isIn_len hin
  have HIN := Lib.hid hin
  clear hin
  go_enter Try.func41, Try.ntmps41
  go_wp2
  go_loop [8, 3] (fun i s => ∃ j : Nat, j ≤ zs.length ∧ i = .int .i64 j ∧ s = .int .i64 (tot zs j)) (fun i _ => zs.length - (intOf i).toNat)
  case atStart => exact ⟨0, Nat.zero_le _, rfl, rfl⟩
  case round =>
    obtain ⟨j, hj, rfl, rfl⟩ := hrel
    have hb2 := tot_bd HIN.out j
    by_cases hlt : j < zs.length
    · have hcell := hr.2 j hlt
      have hx0 := getD_bd HIN.out j
      have hst : tot zs (j + 1) = tot zs j + zs[j]?.getD 0 := rfl
      obtain ⟨x, hx⟩ : ∃ x, zs[j]?.getD 0 = x := ⟨_, rfl⟩
      obtain ⟨s, hs⟩ : ∃ s, tot zs j = s := ⟨_, rfl⟩
      rw [hx, hs] at hst
      rw [hx] at hcell hx0
      rw [hs] at hb2 ⊢
      have HS := Lib.hid hst
      clear hx hs hst
      go_wp2
      go_round
      case rel => exact ⟨j + 1, by omega, by go_num, by rw [HS.out]⟩
      case measure => simp [intOf]; omega
    · obtain rfl : j = zs.length := by omega
      go_wp2
      go_ret
      exact ⟨rfl, rfl⟩

theorem l1All_any (A : Option Addr) (n c : Nat) (w : World) (hn : n ≤ 20) :
    Calls Try.prog 46 #[.slice A n c] w fun e w' => e = .returned (.int .i64 ((2 ^ n - 1 : Nat) : Int)) ∧ w = w' := by
  go_enter Try.func46, Try.ntmps46
  go_wp2
  go_ret
  obtain ⟨N, h1, h2, h3, h4⟩ := pow_walk n hn
  rw [h4, h1]
  exact ⟨ret_int (by rw [IntWalk.wrap64_in _ ⟨by omega, by omega⟩]; omega), rfl⟩

theorem l1All_N (A : Option Addr) (n c N : Nat) (w : World) (hn : n ≤ 20) (hN : 2 ^ n = N) :
    Calls Try.prog 46 #[.slice A n c] w fun e w' => e = .returned (.int .i64 ((N : Int) - 1)) ∧ w = w' := by
  refine (l1All_any A n c w hn).mono ?_
  rintro e w' ⟨rfl, rfl⟩
  have : 0 < 2 ^ n := Nat.pow_pos (by omega)
  exact ⟨ret_int (by omega), rfl⟩

theorem toIntS_any (A : Option Addr) (c : Nat) (zs : List Int) (w : World) (hn : zs.length * 8 ≤ 140737488351232) (hA : Reads w A zs) :
    Calls Try.prog 13 #[.slice A zs.length c] w fun e w' => e = .returned (.slice (some ⟨w.heap.size, 0, none⟩) zs.length zs.length) ∧ Owns w' w.heap.size w.heap.size zs.length zs ∧ Below w.heap.size w w' := by
  obtain ⟨i0, hi, hz0, hz1, hz2⟩ := info_parts info_int
  go_enter Try.func13, Try.ntmps13
  go_wp2_with (at_make; refine wpList_make_full _ rfl _ _ 22 rfl w.heap.size 3 i0 (.int .i64 0) 1 Try.underlying22 hi hz0 hz1 .i64 .i64 _ _ zs.length rfl rfl rfl rfl (by rw [hz2]; omega) (by unfold maxLen; omega) (Nat.le_refl _) ?_; intro w1 hown hgrow)
  have hO : Owns w1 w.heap.size w.heap.size zs.length (zs.take 0 ++ List.replicate (zs.length - 0) 0) := (Owns.made hown).cast (by simp)
  have hB : Below w.heap.size w w1 := (Below.refl _ w).grown hgrow (Nat.le_refl _) (by simp)
  have HO := Lib.hid hO
  clear hown hgrow hO
  go_loopw [4] (fun i wr => ∃ k : Nat, k ≤ zs.length ∧ i = .int .i64 k ∧ Owns wr w.heap.size w.heap.size zs.length (zs.take k ++ List.replicate (zs.length - k) 0) ∧ Below w.heap.size w wr) (fun i _ => zs.length - (intOf i).toNat)
  case atStart => exact ⟨0, Nat.zero_le _, rfl, HO.out, hB⟩
  case round =>
    obtain ⟨k, hk, rfl, hO, hB⟩ := hrel
    clear HO
    by_cases hlt : k < zs.length
    · obtain ⟨b, off, rfl, hrow⟩ : ∃ b off, A = some ⟨b, off, none⟩ ∧ Row w b off zs := by
        rcases hA with e | h
        · rw [e] at hlt; simp at hlt
        · exact h
      have hcell := (hrow.behind hB).2 k hlt
      have hstep := hO.set_ k (zs[k]?.getD 0)
      rw [fill_step zs k zs.length hlt hlt] at hstep
      have hc2 := hO.row.2 k (by simp; omega)
      rw [Nat.zero_add] at hc2
      have hf2 := hO.free k
      obtain ⟨y, hy⟩ : ∃ y, (zs.take k ++ List.replicate (zs.length - k) 0)[k]?.getD 0 = y := ⟨_, rfl⟩
      rw [hy] at hc2
      obtain ⟨x, hx⟩ : ∃ x, zs[k]?.getD 0 = x := ⟨_, rfl⟩
      rw [hx] at hcell hstep
      have hz := hB.size
      have HS := Lib.hid hstep
      have HB2 := Lib.hid (hB.setCell (p := ⟨w.heap.size, k, none⟩) (Nat.le_refl _) (.int .i64 x))
      clear hx hy hO hB hstep hA hrow
      go_wp2
      go_roundw
      case rel => exact ⟨k + 1, by omega, by go_num, HS.out, HB2.out⟩
      case measure => simp [intOf]; omega
    · obtain rfl : k = zs.length := by omega
      go_wp2
      go_ret
      exact ⟨rfl, hO.cast (by simp), hB⟩

theorem eqIntS_any (b off c b' off' c' : Nat) (xs ys : List Int) (w : World) (_hx : xs.length ≤ 1152921504606846976) (hy : ys.length ≤ 1152921504606846976) (h1 : Row w b off xs) (h2 : Row w b' off' ys) :
    Calls Try.prog 15 #[.slice (some ⟨b, off, none⟩) xs.length c, .slice (some ⟨b', off', none⟩) ys.length c'] w fun e w' => e = .returned (.bool (decide (xs = ys))) ∧ ∃ n, w' = w.drewN n := by
  by_cases hl : xs.length = ys.length
  · obtain ⟨L, hL⟩ : ∃ L, ys.length = L := ⟨_, rfl⟩
    rw [hL] at hl hy ⊢
    rw [hl]
    have HL := Lib.hid hl
    have HL2 := Lib.hid hL
    clear hl hL
    go_enter Try.func15, Try.ntmps15
    go_wp2
    go_loopw [5] (fun i wr => ∃ k n : Nat, k ≤ L ∧ i = .int .i64 k ∧ (∀ j, j < k → xs[j]?.getD 0 = ys[j]?.getD 0) ∧ wr = w.drewN n) (fun i _ => L - (intOf i).toNat)
    case atStart => exact ⟨0, 0, Nat.zero_le _, rfl, fun j hj => by omega, rfl⟩
    case round =>
      obtain ⟨k, n, hk, rfl, ha, rfl⟩ := hrel
      have HA := Lib.hid ha
      clear ha
      by_cases hlt : k < L
      · have hcx := h1.2 k (by rw [HL.out]; exact hlt)
        have hcy := h2.2 k (by rw [HL2.out]; exact hlt)
        obtain ⟨x, hx⟩ : ∃ x, xs[k]?.getD 0 = x := ⟨_, rfl⟩
        obtain ⟨y, hy⟩ : ∃ y, ys[k]?.getD 0 = y := ⟨_, rfl⟩
        rw [hx] at hcx
        rw [hy] at hcy
        have HX := Lib.hid hx
        have HY := Lib.hid hy
        clear hx hy h1 h2
        by_cases hxy : x = y
        · subst hxy
          go_wp2
          go_quiet (fail)
          go_wp2
          go_roundw
          case rel => exact ⟨k + 1, _, by omega, by go_num, fun j hj => by rcases Nat.lt_succ_iff_lt_or_eq.1 hj with h | rfl; exact HA.out j h; rw [HX.out, HY.out], rfl⟩
          case measure => simp [intOf]; omega
        · have hq : (x != y) = true := by simp [hxy]
          have HXY := Lib.hid hxy
          clear hxy
          go_wp2
          go_quiet (fail)
          go_wp2
          go_ret
          exact ⟨ret_bool (by symm; rw [decide_eq_false_iff_not]; rintro rfl; exact HXY.out (HX.out.symm.trans HY.out)), _, World.drewN_drewN _ _ _⟩
      · obtain rfl : k = L := by omega
        go_wp2
        go_ret
        exact ⟨ret_bool (by symm; rw [decide_eq_true_iff]; exact eq_of_get (HL.out.trans HL2.out.symm) (fun j hj => HA.out j (by rw [HL2.out] at hj; exact hj))), n, rfl⟩
  · have hne : ((xs.length : Int) != (ys.length : Int)) = true := by simp; omega
    go_enter Try.func15, Try.ntmps15
    go_wp2
    go_ret
    exact ⟨ret_bool (by symm; rw [decide_eq_false_iff_not]; rintro rfl; exact hl rfl), 0, rfl⟩

theorem markIntS_any (B g c m : Nat) (zs : List Int) (w : World) (hm : m ≤ 1152921504606846976) (hn : zs.length ≤ 1152921504606846976) (hO : Owns w B g c zs) :
    Calls Try.prog 16 #[.slice (some ⟨g, 0, none⟩) zs.length c, .int .i64 m] w fun e w' => e = .returned (.int .i64 ((m : Int) + (zs.length : Int))) ∧ Owns w' B g c (marked m zs.length) ∧ w.grownBy w' (some g) := by
  obtain ⟨L, hL⟩ : ∃ L, zs.length = L := ⟨_, rfl⟩
  rw [hL] at hn ⊢
  have hO0 : Owns w B g c (marked m 0 ++ zs.drop 0) := hO.cast (by simp [marked])
  have HO := Lib.hid hO0
  have HL := Lib.hid hL
  clear hL hO hO0
  go_enter Try.func16, Try.ntmps16
  go_wp2
  go_loopw [5, 1] (fun i v wr => ∃ k : Nat, k ≤ L ∧ i = .int .i64 k ∧ v = .int .i64 ((m : Int) + (k : Int)) ∧ Owns wr B g c (marked m k ++ zs.drop k) ∧ w.grownBy wr (some g)) (fun i _ _ => L - (intOf i).toNat)
  case atStart => exact ⟨0, Nat.zero_le _, rfl, by simp, HO.out, World.grownBy.refl _ _⟩
  case round =>
    clear HO
    obtain ⟨k, hk, rfl, rfl, hO, hB⟩ := hrel
    by_cases hlt : k < L
    · have hlz : k < zs.length := by rw [HL.out]; exact hlt
      have hc2 := hO.row.2 k (by simp [marked]; omega)
      rw [Nat.zero_add] at hc2
      have hf2 := hO.free k
      obtain ⟨y, hy⟩ : ∃ y, (marked m k ++ zs.drop k)[k]?.getD 0 = y := ⟨_, rfl⟩
      rw [hy] at hc2
      have hstep := hO.set_ k ((m : Int) + (k : Int))
      rw [mark_step m zs k hlz] at hstep
      have HS := Lib.hid hstep
      have HB2 := Lib.hid (grown_trans hB (grown_set wr g k (.int .i64 ((m : Int) + (k : Int)))))
      clear hy hO hB hstep
      go_wp2
      go_roundw
      case rel => exact ⟨k + 1, by omega, by go_num, by go_num, HS.out, HB2.out⟩
      case measure => simp [intOf]; omega
    · obtain rfl : k = L := by omega
      go_wp2
      go_ret
      exact ⟨rfl, hO.cast (by rw [← HL.out]; simp), hB⟩

theorem heldIntS_any (b c m n : Nat) (w : World) (hm : m ≤ 1152921504606846976) (hn : n ≤ 1152921504606846976) (hr : Row w b 0 (marked m n)) :
    Calls Try.prog 17 #[.slice (some ⟨b, 0, none⟩) n c, .int .i64 m] w fun e w' => e = .returned (.int .i64 ((m : Int) + (n : Int))) ∧ w = w' := by
  go_enter Try.func17, Try.ntmps17
  go_wp2
  go_loop [5, 1] (fun i v => ∃ k : Nat, k ≤ n ∧ i = .int .i64 k ∧ v = .int .i64 ((m : Int) + (k : Int))) (fun i _ => n - (intOf i).toNat)
  case atStart => exact ⟨0, Nat.zero_le _, rfl, by simp⟩
  case round =>
    obtain ⟨k, hk, rfl, rfl⟩ := hrel
    by_cases hlt : k < n
    · have hc := hr.2 k (by rw [marked_length]; exact hlt)
      rw [Nat.zero_add, marked_get m n k hlt] at hc
      have hq : ((m : Int) + (k : Int) != (m : Int) + (k : Int)) = false := by simp
      clear hr
      go_wp2
      go_round
      case rel => exact ⟨k + 1, by omega, by go_num, by go_num⟩
      case measure => simp [intOf]; omega
    · obtain rfl : k = n := by omega
      go_wp2
      go_ret
      exact ⟨rfl, rfl⟩

end Go.Proofs.Ytdkhgpcfbdekeaa
