/- SumGrown, SumOf: contracts of the program's and the reference's functions. -/
import Derived.Test.YtbechpbfefdmgaaLeaf
namespace Go.Proofs.Ytbechpbfefdmgaa
open Go.RowKit

/-- Each number is greater than the sum of those ahead of it. -/
def grownB (zs : List Int) : Bool := isIn zs && (List.range zs.length).all fun j => decide (tot zs j < zs[j]?.getD 0)

theorem grown_no {zs : List Int} {j : Nat} (hj : j < zs.length) (h : zs[j]?.getD 0 ≤ tot zs j) : grownB zs = false := by
  unfold grownB
  have : (List.range zs.length).all (fun j => decide (tot zs j < zs[j]?.getD 0)) = false := by
    rw [List.all_eq_false]
    exact ⟨j, List.mem_range.2 hj, by simp; omega⟩
  rw [this, Bool.and_false]
theorem grown_yes {zs : List Int} (h : ∀ j, j < zs.length → tot zs j < zs[j]?.getD 0) : grownB zs = isIn zs := by
  unfold grownB
  have : (List.range zs.length).all (fun j => decide (tot zs j < zs[j]?.getD 0)) = true := by
    rw [List.all_eq_true]
    intro j hj
    have := h j (List.mem_range.1 hj)
    simp; omega
  rw [this, Bool.and_true]
theorem grown_out {zs : List Int} (h : isIn zs = false) : grownB zs = false := by unfold grownB; rw [h]; rfl

set_option maxHeartbeats 400000
theorem implSumGrown_any (b off c : Nat) (zs : List Int) (w : World) (hn : zs.length ≤ 1152921504606846976) (hr : Row w b off zs) :
    Calls Try.prog 22 #[.slice (some ⟨b, off, none⟩) zs.length c] w fun e w' => e = .returned (.bool (grownB zs)) ∧ Below w.heap.size w w' := by
  cases hin : isIn zs with
  | false =>
    have HG := Lib.hid (grown_out hin)
    go_enter Try.func22, Try.ntmps22
    go_wp2_with (go_at_call 35; refine (implSumIn_any _ _ _ _ _ hn hr).mono ?_; rintro e w' ⟨rfl, rfl⟩)
    go_ret
    exact ⟨ret_bool HG.out.symm, Below.refl _ _⟩
  | true =>
    have hlen := isIn_len hin
    go_enter Try.func22, Try.ntmps22
    go_wp2_with (go_at_call 35; refine (implSumIn_any _ _ _ _ _ hn hr).mono ?_; rintro e w' ⟨rfl, rfl⟩)
    have HIN := Lib.hid hin
    clear hin
    go_loop [11, 3] (fun i s => ∃ j : Nat, j ≤ zs.length ∧ i = .int .i64 j ∧ s = .int .i64 (tot zs j) ∧ ∀ m, m < j → tot zs m < zs[m]?.getD 0) (fun i _ => zs.length - (intOf i).toNat)
    case atStart => exact ⟨0, Nat.zero_le _, rfl, rfl, fun m hm => by omega⟩
    case round =>
      obtain ⟨j, hj, rfl, rfl, ha⟩ := hrel
      have HA := Lib.hid ha
      clear ha
      have hb2 := tot_bd HIN.out j
      by_cases hlt : j < zs.length
      · have hcell := hr.2 j hlt
        have hx0 := getD_bd HIN.out j
        have hst : tot zs (j + 1) = tot zs j + zs[j]?.getD 0 := rfl
        have hno := fun h => grown_no hlt h
        have hgo : tot zs j < zs[j]?.getD 0 → ∀ m, m < j + 1 → tot zs m < zs[m]?.getD 0 := fun h m hm => by rcases Nat.lt_succ_iff_lt_or_eq.1 hm with h' | rfl; exact HA.out m h'; exact h
        obtain ⟨x, hx⟩ : ∃ x, zs[j]?.getD 0 = x := ⟨_, rfl⟩
        obtain ⟨s, hs⟩ : ∃ s, tot zs j = s := ⟨_, rfl⟩
        rw [hx, hs] at hst hno hgo
        rw [hx] at hcell hx0
        rw [hs] at hb2 ⊢
        have HS := Lib.hid hst
        have HNO := Lib.hid hno
        have HGO := Lib.hid hgo
        clear hx hs hst hno hgo
        by_cases hle : x ≤ s
        · go_wp2
          go_ret
          exact ⟨ret_bool (HNO.out hle).symm, Below.refl _ _⟩
        · go_wp2
          go_round
          case rel => exact ⟨j + 1, by omega, by go_num, by rw [HS.out], HGO.out (by omega)⟩
          case measure => simp [intOf]; omega
      · obtain rfl : j = zs.length := by omega
        go_wp2
        go_ret
        exact ⟨ret_bool (by rw [grown_yes HA.out, HIN.out]), Below.refl _ _⟩

theorem specSumGrown_any (b off c : Nat) (zs : List Int) (w : World) (hn : zs.length ≤ 1152921504606846976) (hr : Row w b off zs) :
    Calls Try.prog 23 #[.slice (some ⟨b, off, none⟩) zs.length c] w fun e w' => e = .returned (.bool (grownB zs)) ∧ Below w.heap.size w w' := by
  cases hin : isIn zs with
  | false =>
    have HG := Lib.hid (grown_out hin)
    go_enter Try.func23, Try.ntmps23
    go_wp2
    go_loop [4, 3] (fun i s => ∃ (j : Nat) (v : Int), j ≤ zs.length ∧ i = .int .i64 j ∧ s = .int .i64 v) (fun i _ => zs.length - (intOf i).toNat)
    case atStart => exact ⟨0, 0, Nat.zero_le _, rfl, rfl⟩
    case round =>
      obtain ⟨j, s, hj, rfl, rfl⟩ := hrel
      by_cases hlt : j < zs.length
      · have hcell := hr.2 j hlt
        obtain ⟨x, hx⟩ : ∃ x, zs[j]?.getD 0 = x := ⟨_, rfl⟩
        rw [hx] at hcell
        clear hx
        by_cases hle : x ≤ s
        · go_wp2
          go_ret
          exact ⟨ret_bool HG.out.symm, Below.refl _ _⟩
        · go_wp2
          go_round
          case rel => exact ⟨j + 1, _, by omega, by go_num, rfl⟩
          case measure => simp [intOf]; omega
      · obtain rfl : j = zs.length := by omega
        go_wp2_with (go_at_call 33; refine (specSumIn_any _ _ _ _ _ hn hr).mono ?_; rintro e w' ⟨rfl, rfl⟩)
        go_ret
        exact ⟨ret_bool (HG.out ▸ rfl), Below.refl _ _⟩
  | true =>
    have hlen := isIn_len hin
    have HIN := Lib.hid hin
    clear hin
    go_enter Try.func23, Try.ntmps23
    go_wp2
    go_loop [4, 3] (fun i s => ∃ j : Nat, j ≤ zs.length ∧ i = .int .i64 j ∧ s = .int .i64 (tot zs j) ∧ ∀ m, m < j → tot zs m < zs[m]?.getD 0) (fun i _ => zs.length - (intOf i).toNat)
    case atStart => exact ⟨0, Nat.zero_le _, rfl, rfl, fun m hm => by omega⟩
    case round =>
      obtain ⟨j, hj, rfl, rfl, ha⟩ := hrel
      have HA := Lib.hid ha
      clear ha
      have hb2 := tot_bd HIN.out j
      by_cases hlt : j < zs.length
      · have hcell := hr.2 j hlt
        have hx0 := getD_bd HIN.out j
        have hst : tot zs (j + 1) = tot zs j + zs[j]?.getD 0 := rfl
        have hno := fun h => grown_no hlt h
        have hgo : tot zs j < zs[j]?.getD 0 → ∀ m, m < j + 1 → tot zs m < zs[m]?.getD 0 := fun h m hm => by rcases Nat.lt_succ_iff_lt_or_eq.1 hm with h' | rfl; exact HA.out m h'; exact h
        obtain ⟨x, hx⟩ : ∃ x, zs[j]?.getD 0 = x := ⟨_, rfl⟩
        obtain ⟨s, hs⟩ : ∃ s, tot zs j = s := ⟨_, rfl⟩
        rw [hx, hs] at hst hno hgo
        rw [hx] at hcell hx0
        rw [hs] at hb2 ⊢
        have HS := Lib.hid hst
        have HNO := Lib.hid hno
        have HGO := Lib.hid hgo
        clear hx hs hst hno hgo
        by_cases hle : x ≤ s
        · go_wp2
          go_ret
          exact ⟨ret_bool (HNO.out hle).symm, Below.refl _ _⟩
        · go_wp2
          go_round
          case rel => exact ⟨j + 1, by omega, by go_num, by rw [HS.out], HGO.out (by omega)⟩
          case measure => simp [intOf]; omega
      · obtain rfl : j = zs.length := by omega
        go_wp2_with (go_at_call 33; refine (specSumIn_any _ _ _ _ _ hn hr).mono ?_; rintro e w' ⟨rfl, rfl⟩)
        go_ret
        exact ⟨ret_bool (by rw [grown_yes HA.out]), Below.refl _ _⟩

/-- What SumOf hands back. -/
def sumOfB (zs : List Int) (v : Int) : Bool := isIn zs && (decide (0 ≤ v) && decide (v ≤ ((2 ^ zs.length - 1 : Nat) : Int)))
def sumOfV (zs : List Int) (v : Int) : Int := if sumOfB zs v then cs zs v.toNat zs.length else 0

theorem ret_ib {a b : Int} {p q : Bool} (h : a = b) (k : p = q) : Ending.returned (.tuple #[.int .i64 a, .bool p]) = .returned (.tuple #[.int .i64 b, .bool q]) := by rw [h, k]



end Go.Proofs.Ytbechpbfefdmgaa
