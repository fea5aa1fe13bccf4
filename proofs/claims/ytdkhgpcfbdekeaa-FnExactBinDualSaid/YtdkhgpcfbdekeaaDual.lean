/- BinDual: contracts: both go the same way. -/
import Derived.Test.YtdkhgpcfbdekeaaLeaf
import Derived.BigRegion
import Derived.RegionTactic
import Derived.ChangeAlike
namespace Go.Proofs.Ytdkhgpcfbdekeaa
open Go.RowKit

theorem i64_andNot_nat (a b : Nat) (ha : a < 4294967296) (hb : b < 4294967296) : bits .andNot .i64 (a : Int) (b : Int) = ((a ^^^ (a &&& b) : Nat) : Int) := by
  have hx : a ^^^ (a &&& b) < 2 ^ 32 := Nat.xor_lt_two_pow (by omega) (Nat.and_lt_two_pow _ (by omega))
  have e : ∀ x y : BitVec 64, x &&& ~~~y = x ^^^ (x &&& y) := fun x y => by
    apply BitVec.eq_of_getLsbD_eq
    intro i hi
    simp only [BitVec.getLsbD_and, BitVec.getLsbD_not, BitVec.getLsbD_xor, hi, decide_true, Bool.true_and]
    cases x.getLsbD i <;> cases y.getLsbD i <;> rfl
  show IntKind.i64.wrap ((BitVec.ofInt 64 (a : Int) &&& ~~~(BitVec.ofInt 64 (b : Int))).toNat : Int) = _
  rw [e, BitVec.toNat_xor, BitVec.toNat_and, ofInt_i64 a (by omega), ofInt_i64 b (by omega), IntKind.wrap_i64]
  omega
theorem and_pred (p c : Nat) (hp : 0 < p) (hp2 : p < 4294967296) (hc : c < 4294967296) : bits .and .i64 ((p : Int) - 1) (c : Int) = ((p - 1 &&& c : Nat) : Int) := by
  have := i64_and_nat (p - 1) c (by omega) (by omega)
  rw [show (((p - 1 : Nat)) : Int) = (p : Int) - 1 by omega] at this
  exact this

/-- What the rounds over the parts of c, from p on, make of the list. -/
def dualIn (zs : List Int) (s : Int) (c p : Nat) (L : List Int) : List Int :=
  if 0 < p then dualIn zs s c (p - 1 &&& c) (if s ≤ cs zs p zs.length then L.set c (max (L[c]?.getD 0) (wrap64 (1 + L[c ^^^ (c &&& p)]?.getD 0))) else L) else L
termination_by p
decreasing_by
  have := @Nat.and_le_left (p - 1) c
  omega
theorem dualIn_zero (zs : List Int) (s : Int) (c : Nat) (L : List Int) : dualIn zs s c 0 L = L := by rw [dualIn]; simp
theorem dualIn_pos (zs : List Int) (s : Int) (c p : Nat) (L : List Int) (hp : 0 < p) :
    dualIn zs s c p L = dualIn zs s c (p - 1 &&& c) (if s ≤ cs zs p zs.length then L.set c (max (L[c]?.getD 0) (wrap64 (1 + L[c ^^^ (c &&& p)]?.getD 0))) else L) := by rw [dualIn, if_pos hp]
def dualOut (zs : List Int) (s : Int) (N : Nat) : Nat → List Int
  | 0 => List.replicate N 0
  | k + 1 => dualIn zs s k k (dualOut zs s N k)
theorem dualOut_one (zs : List Int) (s : Int) (N : Nat) : dualOut zs s N 1 = List.replicate N 0 := by simp only [dualOut]; exact dualIn_zero _ _ _ _
theorem dualIn_length (zs : List Int) (s : Int) (c p : Nat) (L : List Int) : (dualIn zs s c p L).length = L.length := by
  induction p using Nat.strongRecOn generalizing L with
  | ind p ih =>
    by_cases hp : 0 < p
    · rw [dualIn_pos zs s c p L hp, ih _ (by have := @Nat.and_le_left (p - 1) c; omega)]
      split <;> simp
    · have : p = 0 := by omega
      subst this
      rw [dualIn_zero]
theorem dualOut_length (zs : List Int) (s : Int) (N k : Nat) : (dualOut zs s N k).length = N := by
  induction k with
  | zero => simp [dualOut]
  | succ k ih => simp only [dualOut]; rw [dualIn_length, ih]
def dualB (zs : List Int) (s : Int) : Bool := isIn zs && decide (zs.length ≤ 8) && (decide (1 ≤ s) && decide (s ≤ 100))
def dualV (zs : List Int) (s : Int) : Int := if dualB zs s then (dualOut zs s (2 ^ zs.length) (2 ^ zs.length))[2 ^ zs.length - 1]?.getD 0 else 0
theorem dualV_out {zs : List Int} {s : Int} (h : dualB zs s = false) : dualV zs s = 0 := by unfold dualV; rw [h]; rfl
theorem dualV_in {zs : List Int} {s : Int} (h : dualB zs s = true) : dualV zs s = (dualOut zs s (2 ^ zs.length) (2 ^ zs.length))[2 ^ zs.length - 1]?.getD 0 := by unfold dualV; rw [h]; rfl

set_option maxHeartbeats 1000000
theorem implBinDual_no (b off c : Nat) (s : Int) (zs : List Int) (w : World) (hn : zs.length ≤ 1152921504606846976) (hr : Row w b off zs) (h : dualB zs s = false) :
    Calls Try.prog 27 #[.slice (some ⟨b, off, none⟩) zs.length c, .int .i64 s] w fun e w' => e = .returned (.tuple #[.int .i64 0, .bool false]) ∧ Below w.heap.size w w' := by
  have h0 : isIn zs = false ∨ (isIn zs = true ∧ 8 < zs.length) ∨ (isIn zs = true ∧ zs.length ≤ 8 ∧ s < 1) ∨ (isIn zs = true ∧ zs.length ≤ 8 ∧ 1 ≤ s ∧ 100 < s) := by
    unfold dualB at h
    cases hin : isIn zs with
    | false => exact .inl rfl
    | true =>
      rw [hin] at h
      by_cases h1 : zs.length ≤ 8 <;> by_cases h2 : 1 ≤ s <;> by_cases h3 : s ≤ 100 <;> simp [h1, h2, h3] at h ⊢ <;> omega
  rcases h0 with h1 | ⟨h1, h2⟩ | ⟨h1, h2, h3⟩ | ⟨h1, h2, h3, h4⟩
  all_goals
    go_enter Try.func27, Try.ntmps27
    go_wp2_with (go_at_call 40; refine (implSumIn_any _ _ _ _ _ hn hr).mono ?_; rintro e w' ⟨rfl, rfl⟩)
    go_ret2
    exact ⟨rfl, Below.refl _ _⟩

theorem specBinDual_no (b off c : Nat) (s : Int) (zs : List Int) (w : World) (hn : zs.length ≤ 1152921504606846976) (hr : Row w b off zs) (h : dualB zs s = false) :
    Calls Try.prog 26 #[.slice (some ⟨b, off, none⟩) zs.length c, .int .i64 s] w fun e w' => e = .returned (.tuple #[.int .i64 0, .bool false]) ∧ Below w.heap.size w w' := by
  have h0 : isIn zs = false ∨ (isIn zs = true ∧ 8 < zs.length) ∨ (isIn zs = true ∧ zs.length ≤ 8 ∧ (decide (1 ≤ s) && decide (s ≤ 100)) = false) := by
    unfold dualB at h
    cases hin : isIn zs with
    | false => exact .inl rfl
    | true =>
      rw [hin] at h
      by_cases h1 : zs.length ≤ 8
      · rw [decide_eq_true h1] at h
        exact .inr (.inr ⟨rfl, h1, h⟩)
      · exact .inr (.inl ⟨rfl, by omega⟩)
  rcases h0 with h1 | ⟨h1, h2⟩ | ⟨h1, h2, h3⟩
  all_goals
    go_enter Try.func26, Try.ntmps26
    go_wp2_with (first | (go_at_call 38; refine (specSumIn_any _ _ _ _ _ hn hr).mono ?_; rintro e w' ⟨rfl, rfl⟩) | (go_at_call 52; refine (l6In_any _ _ _ _).mono ?_; rintro e w' ⟨rfl, rfl⟩))
    go_ret2
    exact ⟨rfl, Below.refl _ _⟩

theorem dualB_parts {zs : List Int} {s : Int} (h : dualB zs s = true) : isIn zs = true ∧ zs.length ≤ 8 ∧ 1 ≤ s ∧ s ≤ 100 := by
  unfold dualB at h
  simp only [Bool.and_eq_true, decide_eq_true_eq] at h
  exact ⟨h.1.1, h.1.2, h.2.1, h.2.2⟩

set_option maxRecDepth 100000 in
theorem implBinDual_yes (b off c : Nat) (s : Int) (zs : List Int) (w : World) (hn : zs.length ≤ 1152921504606846976) (hr : Row w b off zs) (h : dualB zs s = true) :
    Calls Try.prog 27 #[.slice (some ⟨b, off, none⟩) zs.length c, .int .i64 s] w fun e w' => e = .returned (.tuple #[.int .i64 (dualV zs s), .bool true]) ∧ Below w.heap.size w w' := by
  obtain ⟨hin, h8, hs1, hs2⟩ := dualB_parts h
  obtain ⟨N, hN, hN1, hN2, hN3⟩ := pow_walk zs.length (by omega)
  have hN4 : N ≤ 256 := by rw [← hN]; exact Nat.pow_le_pow_right (n := 2) (by omega) h8
  have hv := dualV_in h
  rw [hN] at hv
  rw [hv]
  have hmk := run_zeros N (N : Int) rfl (by omega)
  have HN := Lib.hid hN
  have hb := hr.1
  clear h hv hN
  go_enter Try.func27, Try.ntmps27
  go_wp2_with (go_at_call 40; refine (implSumIn_any _ _ _ _ _ hn hr).mono ?_; rintro e w' ⟨rfl, rfl⟩)
  clear hmk hN3
  have HIN := Lib.hid hin
  clear hin
  have hO0 : Owns (w.alloc (.cells (zeroCells N) 3)) w.heap.size w.heap.size N (dualOut zs s N 0) := owns_zeros w w.heap.size N (Nat.le_refl _) (by unfold maxLen; omega)
  have hB0 : Below w.heap.size w (w.alloc (.cells (zeroCells N) 3)) := by go_grown
  have HO0 := Lib.hid hO0
  clear hO0
  go_loopw [31] (fun i wr => ∃ k : Nat, k ≤ N ∧ i = .int .i64 k ∧ Owns wr w.heap.size w.heap.size N (dualOut zs s N k) ∧ Below w.heap.size w wr) (fun i _ => N - (intOf i).toNat)
  case atStart => exact ⟨0, Nat.zero_le _, rfl, HO0.out, hB0⟩
  case round =>
    obtain ⟨wo, rfl⟩ : ∃ wo : World, wo = wr := ⟨_, rfl⟩
    clear HO0 hB0
    obtain ⟨k, hk, rfl, hO, hB⟩ := hrel
    by_cases hlt : k < N
    · have hl := dualOut_length zs s N k
      have hd : dualOut zs s N (k + 1) = dualIn zs s k k (dualOut zs s N k) := rfl
      have HD := Lib.hid hd
      have HL := Lib.hid hl
      have HO := Lib.hid hO
      clear hl hO hd
      go_wp2
      go_loopw [8] (fun q wi => ∃ (p : Nat) (L : List Int), p ≤ k ∧ q = .int .i64 p ∧ L.length = N ∧ dualIn zs s k p L = dualOut zs s N (k + 1) ∧ Owns wi w.heap.size w.heap.size N L ∧ Below w.heap.size w wi) (fun q _ => (intOf q).toNat)
      case atStart => exact ⟨k, _, Nat.le_refl _, rfl, HL.out, HD.out.symm, HO.out, hB⟩
      case round =>
        clear HO HD HL hB
        obtain ⟨p, L, hp, rfl, hl, hd, hO, hB⟩ := hrel
        have hrr := hr.behind hB
        by_cases hp0 : 0 < p
        · have hstep := dualIn_pos zs s k p L hp0
          rw [hd] at hstep
          have hand := and_pred p k hp0 (by omega) (by omega)
          have hnot := i64_andNot_nat k p (by omega) (by omega)
          have hpq : p - 1 &&& k ≤ p - 1 := Nat.and_le_left
          have hxn : k ^^^ (k &&& p) < N := by
            have := Nat.xor_lt_two_pow (n := zs.length) (x := k) (y := k &&& p) (by rw [HN.out]; exact hlt) (Nat.lt_of_le_of_lt Nat.and_le_left (by rw [HN.out]; exact hlt))
            rwa [HN.out] at this
          obtain ⟨q, hq⟩ : ∃ q, p - 1 &&& k = q := ⟨_, rfl⟩
          obtain ⟨x, hx⟩ : ∃ x, k ^^^ (k &&& p) = x := ⟨_, rfl⟩
          rw [hq] at hand hpq hstep
          rw [hx] at hnot hxn hstep
          have hcellc := hO.row.2 k (by rw [hl]; exact hlt)
          rw [Nat.zero_add] at hcellc
          have hcellx := hO.row.2 x (by rw [hl]; exact hxn)
          rw [Nat.zero_add] at hcellx
          have hf := hO.free k
          obtain ⟨y, hy⟩ : ∃ y, L[k]?.getD 0 = y := ⟨_, rfl⟩
          obtain ⟨z, hz⟩ : ∃ z, L[x]?.getD 0 = z := ⟨_, rfl⟩
          rw [hy] at hcellc hstep
          rw [hz] at hcellx hstep
          have hif := max_if y (wrap64 (1 + z))
          obtain ⟨m, hm⟩ : ∃ m, max y (wrap64 (1 + z)) = m := ⟨_, rfl⟩
          rw [hm] at hif hstep
          have hset := hO.set_ k m
          have hBs := hB.setCell (p := ⟨w.heap.size, k, none⟩) (Nat.le_refl _) (.int .i64 m)
          obtain ⟨t, ht⟩ : ∃ t, cs zs p zs.length = t := ⟨_, rfl⟩
          rw [ht] at hstep
          have hln : (L.set k m).length = N := by rw [List.length_set]; exact hl
          have HT := Lib.hid ht
          have HST := Lib.hid hstep
          have HSET := Lib.hid hset
          have HBS := Lib.hid hBs
          have HL := Lib.hid hl
          have HLN := Lib.hid hln
          have HO := Lib.hid hO
          clear hstep hq hx hy hz hm hset hBs ht hl hln hd hO
          by_cases hts : s ≤ t
          · go_wp2_with (go_at_call 53; refine (sum_any _ _ _ _ _ _ (by omega) HIN.out hrr).mono ?_; rw [HT.out]; rintro e w' ⟨rfl, rfl⟩)
            go_region
            all_goals
              go_wp2
              go_roundw
              case rel => exact ⟨q, _, by omega, rfl, HLN.out, by rw [HST.out, if_pos hts], HSET.out, ⟨HBS.out.os, HBS.out.tape, HBS.out.output, HBS.out.size, HBS.out.block⟩⟩
              case measure => simp [intOf]; omega
          · go_wp2_with (go_at_call 53; refine (sum_any _ _ _ _ _ _ (by omega) HIN.out hrr).mono ?_; rw [HT.out]; rintro e w' ⟨rfl, rfl⟩)
            go_roundw
            case rel => exact ⟨q, _, by omega, rfl, HL.out, by rw [HST.out, if_neg (by omega)], HO.out, hB⟩
            case measure => simp [intOf]; omega
        · obtain rfl : p = 0 := by omega
          rw [dualIn_zero] at hd
          have HD := Lib.hid hd
          clear hd
          go_wp2
          go_roundw
          case rel => exact ⟨k + 1, by omega, by go_num, by rw [← HD.out]; exact hO, hB⟩
          case measure => simp [intOf]; omega
    · obtain rfl : k = N := by omega
      have hcell := hO.row.2 (k - 1) (by rw [dualOut_length]; omega)
      rw [Nat.zero_add] at hcell
      go_wp2
      go_ret2
      exact ⟨rfl, hB⟩

set_option maxRecDepth 100000 in
theorem specBinDual_yes (b off c : Nat) (s : Int) (zs : List Int) (w : World) (hn : zs.length ≤ 1152921504606846976) (hr : Row w b off zs) (h : dualB zs s = true) :
    Calls Try.prog 26 #[.slice (some ⟨b, off, none⟩) zs.length c, .int .i64 s] w fun e w' => e = .returned (.tuple #[.int .i64 (dualV zs s), .bool true]) ∧ Below w.heap.size w w' := by
  obtain ⟨hin, h8, hs1, hs2⟩ := dualB_parts h
  have hq8 : (decide (1 ≤ s) && decide (s ≤ 100)) = true := by simp; omega
  obtain ⟨N, hN, hN1, hN2, hN3⟩ := pow_walk zs.length (by omega)
  have hN4 : N ≤ 256 := by rw [← hN]; exact Nat.pow_le_pow_right (n := 2) (by omega) h8
  have hv := dualV_in h
  rw [hN] at hv
  rw [hv]
  have hmk := run_zeros N (N : Int) rfl (by omega)
  have HN := Lib.hid hN
  have hb := hr.1
  clear h hv hN
  go_enter Try.func26, Try.ntmps26
  go_wp2_with (first | (go_at_call 38; refine (specSumIn_any _ _ _ _ _ hn hr).mono ?_; rintro e w' ⟨rfl, rfl⟩) | (go_at_call 52; refine (l6In_any _ _ _ _).mono ?_; rintro e w' ⟨rfl, rfl⟩))
  clear hmk
  have HIN := Lib.hid hin
  clear hin
  have hO0 : Owns (w.alloc (.cells (zeroCells N) 3)) w.heap.size w.heap.size N (dualOut zs s N 0) := owns_zeros w w.heap.size N (Nat.le_refl _) (by unfold maxLen; omega)
  have hB0 : Below w.heap.size w (w.alloc (.cells (zeroCells N) 3)) := by go_grown
  have HO0 := Lib.hid hO0
  clear hO0
  try simp only [hN3]
  go_loopw [7] (fun i wr => ∃ k : Nat, 1 ≤ k ∧ k ≤ N ∧ i = .int .i64 k ∧ Owns wr w.heap.size w.heap.size N (dualOut zs s N k) ∧ Below w.heap.size w wr) (fun i _ => N - (intOf i).toNat)
  case atStart => exact ⟨1, Nat.le_refl _, hN1, rfl, by rw [dualOut_one]; exact HO0.out, hB0⟩
  case round =>
    obtain ⟨wo, rfl⟩ : ∃ wo : World, wo = wr := ⟨_, rfl⟩
    clear HO0 hB0
    obtain ⟨k, hk1, hk, rfl, hO, hB⟩ := hrel
    by_cases hlt : k < N
    · have hl := dualOut_length zs s N k
      have hd : dualOut zs s N (k + 1) = dualIn zs s k k (dualOut zs s N k) := rfl
      have HD := Lib.hid hd
      have HL := Lib.hid hl
      have HO := Lib.hid hO
      clear hl hO hd
      go_wp2
      try simp only [hN3]
      go_loopw [8] (fun q wi => ∃ (p : Nat) (L : List Int), p ≤ k ∧ q = .int .i64 p ∧ L.length = N ∧ dualIn zs s k p L = dualOut zs s N (k + 1) ∧ Owns wi w.heap.size w.heap.size N L ∧ Below w.heap.size w wi) (fun q _ => (intOf q).toNat)
      case atStart => exact ⟨k, _, Nat.le_refl _, rfl, HL.out, HD.out.symm, HO.out, hB⟩
      case round =>
        clear HO HD HL hB
        obtain ⟨p, L, hp, rfl, hl, hd, hO, hB⟩ := hrel
        have hrr := hr.behind hB
        by_cases hp0 : 0 < p
        · have hstep := dualIn_pos zs s k p L hp0
          rw [hd] at hstep
          have hand := and_pred p k hp0 (by omega) (by omega)
          have hnot := i64_andNot_nat k p (by omega) (by omega)
          have hpq : p - 1 &&& k ≤ p - 1 := Nat.and_le_left
          have hxn : k ^^^ (k &&& p) < N := by
            have := Nat.xor_lt_two_pow (n := zs.length) (x := k) (y := k &&& p) (by rw [HN.out]; exact hlt) (Nat.lt_of_le_of_lt Nat.and_le_left (by rw [HN.out]; exact hlt))
            rwa [HN.out] at this
          obtain ⟨q, hq⟩ : ∃ q, p - 1 &&& k = q := ⟨_, rfl⟩
          obtain ⟨x, hx⟩ : ∃ x, k ^^^ (k &&& p) = x := ⟨_, rfl⟩
          rw [hq] at hand hpq hstep
          rw [hx] at hnot hxn hstep
          have hcellc := hO.row.2 k (by rw [hl]; exact hlt)
          rw [Nat.zero_add] at hcellc
          have hcellx := hO.row.2 x (by rw [hl]; exact hxn)
          rw [Nat.zero_add] at hcellx
          have hf := hO.free k
          obtain ⟨y, hy⟩ : ∃ y, L[k]?.getD 0 = y := ⟨_, rfl⟩
          obtain ⟨z, hz⟩ : ∃ z, L[x]?.getD 0 = z := ⟨_, rfl⟩
          rw [hy] at hcellc hstep
          rw [hz] at hcellx hstep
          have hif := max_if y (wrap64 (1 + z))
          obtain ⟨m, hm⟩ : ∃ m, max y (wrap64 (1 + z)) = m := ⟨_, rfl⟩
          rw [hm] at hif hstep
          have hset := hO.set_ k m
          have hBs := hB.setCell (p := ⟨w.heap.size, k, none⟩) (Nat.le_refl _) (.int .i64 m)
          obtain ⟨t, ht⟩ : ∃ t, cs zs p zs.length = t := ⟨_, rfl⟩
          rw [ht] at hstep
          have hln : (L.set k m).length = N := by rw [List.length_set]; exact hl
          have HT := Lib.hid ht
          have HST := Lib.hid hstep
          have HSET := Lib.hid hset
          have HBS := Lib.hid hBs
          have HL := Lib.hid hl
          have HLN := Lib.hid hln
          have HO := Lib.hid hO
          clear hstep hq hx hy hz hm hset hBs ht hl hln hd hO
          by_cases hts : s ≤ t
          · go_wp2_with (go_at_call 47; refine (l1Sum_any _ _ _ _ _ _ (by omega) HIN.out hrr).mono ?_; rw [HT.out]; rintro e w' ⟨rfl, n2, rfl⟩)
            go_region
            all_goals
              go_wp2
              go_roundw
              case rel => exact ⟨q, _, by omega, rfl, HLN.out, by rw [HST.out, if_pos hts], HSET.out, ⟨HBS.out.os, HBS.out.tape, HBS.out.output, HBS.out.size, HBS.out.block⟩⟩
              case measure => simp [intOf]; omega
          · go_wp2_with (go_at_call 47; refine (l1Sum_any _ _ _ _ _ _ (by omega) HIN.out hrr).mono ?_; rw [HT.out]; rintro e w' ⟨rfl, n2, rfl⟩)
            go_roundw
            case rel => exact ⟨q, _, by omega, rfl, HL.out, by rw [HST.out, if_neg (by omega)], HO.out.drewN _, below_drewN hB _⟩
            case measure => simp [intOf]; omega
        · obtain rfl : p = 0 := by omega
          rw [dualIn_zero] at hd
          have HD := Lib.hid hd
          clear hd
          go_wp2
          go_roundw
          case rel => exact ⟨k + 1, by omega, by omega, by go_num, by rw [← HD.out]; exact hO, hB⟩
          case measure => simp [intOf]; omega
    · obtain rfl : k = N := by omega
      have hcell := hO.row.2 (k - 1) (by rw [dualOut_length]; omega)
      rw [Nat.zero_add] at hcell
      go_wp2
      go_ret2
      exact ⟨rfl, hB⟩

theorem implBinDual_any (b off c : Nat) (s : Int) (zs : List Int) (w : World) (hn : zs.length ≤ 1152921504606846976) (hr : Row w b off zs) :
    Calls Try.prog 27 #[.slice (some ⟨b, off, none⟩) zs.length c, .int .i64 s] w fun e w' => e = .returned (.tuple #[.int .i64 (dualV zs s), .bool (dualB zs s)]) ∧ Below w.heap.size w w' := by
  cases h : dualB zs s with
  | false => rw [dualV_out h]; exact implBinDual_no b off c s zs w hn hr h
  | true => exact implBinDual_yes b off c s zs w hn hr h
theorem specBinDual_any (b off c : Nat) (s : Int) (zs : List Int) (w : World) (hn : zs.length ≤ 1152921504606846976) (hr : Row w b off zs) :
    Calls Try.prog 26 #[.slice (some ⟨b, off, none⟩) zs.length c, .int .i64 s] w fun e w' => e = .returned (.tuple #[.int .i64 (dualV zs s), .bool (dualB zs s)]) ∧ Below w.heap.size w w' := by
  cases h : dualB zs s with
  | false => rw [dualV_out h]; exact specBinDual_no b off c s zs w hn hr h
  | true => exact specBinDual_yes b off c s zs w hn hr h

end Go.Proofs.Ytdkhgpcfbdekeaa
