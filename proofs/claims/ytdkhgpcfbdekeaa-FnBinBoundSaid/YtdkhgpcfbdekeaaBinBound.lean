/- BinBound: contracts. -/
import Derived.Test.YtdkhgpcfbdekeaaLeaf
namespace Go.Proofs.Ytdkhgpcfbdekeaa
open Go.RowKit

/-- A list and the size of its bins are as told. -/
def binIn (zs : List Int) (s : Int) : Bool := isIn zs && (decide (1 ≤ s) && decide (s ≤ 100)) && zs.all fun x => decide (x ≤ s)
theorem binIn_no {zs : List Int} {s : Int} {k : Nat} (hk : k < zs.length) (h : s < zs[k]?.getD 0) : binIn zs s = false := by
  have : zs.all (fun x => decide (x ≤ s)) = false := by
    rw [List.all_eq_false]
    refine ⟨zs[k], List.getElem_mem hk, ?_⟩
    rw [List.getElem?_eq_getElem hk] at h
    simp at h ⊢; exact h
  unfold binIn; rw [this, Bool.and_false]
theorem binIn_all {zs : List Int} {s : Int} (h : ∀ j, j < zs.length → zs[j]?.getD 0 ≤ s) : binIn zs s = (isIn zs && (decide (1 ≤ s) && decide (s ≤ 100))) := by
  have : zs.all (fun x => decide (x ≤ s)) = true := by
    rw [List.all_eq_true]
    intro x hx
    obtain ⟨j, hj, rfl⟩ := List.getElem_of_mem hx
    have := h j hj
    rw [List.getElem?_eq_getElem hj] at this
    simpa using this
  unfold binIn; rw [this, Bool.and_true]
theorem binIn_parts {zs : List Int} {s : Int} (h : binIn zs s = true) : isIn zs = true ∧ 1 ≤ s ∧ s ≤ 100 := by
  unfold binIn at h
  simp only [Bool.and_eq_true, decide_eq_true_eq] at h
  exact ⟨h.1.1, h.1.2.1, h.1.2.2⟩

/-- How many of the first k numbers are more than half of s. -/
def greatTo (zs : List Int) (s : Int) : Nat → Nat
  | 0 => 0
  | k + 1 => greatTo zs s k + if s < 2 * (zs[k]?.getD 0) then 1 else 0
theorem greatTo_le (zs : List Int) (s : Int) (k : Nat) : greatTo zs s k ≤ k := by
  induction k with
  | zero => simp [greatTo]
  | succ k ih => simp only [greatTo]; split <;> omega
def boundV (zs : List Int) (s : Int) : Int := if binIn zs s then max ((tot zs zs.length + s - 1) / s) (greatTo zs s zs.length : Int) else 0
theorem boundV_out {zs : List Int} {s : Int} (h : binIn zs s = false) : boundV zs s = 0 := by unfold boundV; rw [h]; rfl
theorem boundV_in {zs : List Int} {s : Int} (h : binIn zs s = true) : boundV zs s = max ((tot zs zs.length + s - 1) / s) (greatTo zs s zs.length : Int) := by unfold boundV; rw [h]; rfl

set_option maxHeartbeats 1000000
theorem binsTold_any (b off c : Nat) (s : Int) (zs : List Int) (w : World) (hn : zs.length ≤ 1152921504606846976) (hr : Row w b off zs) :
    Calls Try.prog 51 #[.slice (some ⟨b, off, none⟩) zs.length c, .int .i64 s] w fun e w' => e = .returned (.bool (binIn zs s)) ∧ w = w' := by
  by_cases h0 : isIn zs = true ∧ 1 ≤ s ∧ s ≤ 100
  · obtain ⟨hin, hs1, hs2⟩ := h0
    have hlen := isIn_len hin
    go_enter Try.func51, Try.ntmps51
    go_wp2_with (go_at_call 40; refine (implSumIn_any _ _ _ _ _ hn hr).mono ?_; rintro e w' ⟨rfl, rfl⟩)
    have HIN := Lib.hid hin
    clear hin
    go_loop [20] (fun i => ∃ k : Nat, k ≤ zs.length ∧ i = .int .i64 k ∧ ∀ j, j < k → zs[j]?.getD 0 ≤ s) (fun i => zs.length - (intOf i).toNat)
    case atStart => exact ⟨0, Nat.zero_le _, rfl, fun j hj => by omega⟩
    case round =>
      obtain ⟨k, hk, rfl, ha⟩ := hrel
      have HA := Lib.hid ha
      clear ha
      by_cases hlt : k < zs.length
      · have hcell := hr.2 k hlt
        have hno := fun h => binIn_no (s := s) hlt h
        obtain ⟨x, hx⟩ : ∃ x, zs[k]?.getD 0 = x := ⟨_, rfl⟩
        rw [hx] at hcell hno
        have HX := Lib.hid hx
        have HNO := Lib.hid hno
        clear hx hno
        by_cases hxs : s < x
        · go_wp2
          go_ret
          exact ⟨ret_bool (HNO.out hxs).symm, rfl⟩
        · go_wp2
          go_round
          case rel => exact ⟨k + 1, by omega, by go_num, fun j hj => by rcases Nat.lt_succ_iff_lt_or_eq.1 hj with h | rfl; exact HA.out j h; rw [HX.out]; omega⟩
          case measure => simp [intOf]; omega
      · obtain rfl : k = zs.length := by omega
        go_wp2
        go_ret
        exact ⟨ret_bool (by rw [binIn_all HA.out, HIN.out]; simp; omega), rfl⟩
  · have hf : binIn zs s = false := by
      cases h : binIn zs s with
      | false => rfl
      | true => exact absurd (binIn_parts h) h0
    have HF := Lib.hid hf
    clear hf
    cases hin : isIn zs with
    | false =>
      go_enter Try.func51, Try.ntmps51
      go_wp2_with (go_at_call 40; refine (implSumIn_any _ _ _ _ _ hn hr).mono ?_; rintro e w' ⟨rfl, rfl⟩)
      go_ret
      exact ⟨ret_bool HF.out.symm, rfl⟩
    | true =>
      by_cases hs : s < 1
      · clear h0
        go_enter Try.func51, Try.ntmps51
        go_wp2_with (go_at_call 40; refine (implSumIn_any _ _ _ _ _ hn hr).mono ?_; rintro e w' ⟨rfl, rfl⟩)
        go_ret
        exact ⟨ret_bool HF.out.symm, rfl⟩
      · have hs2 : 100 < s := by
          rcases Int.lt_or_le 100 s with h | h
          · exact h
          · exact absurd ⟨hin, by omega, h⟩ h0
        clear h0
        go_enter Try.func51, Try.ntmps51
        go_wp2_with (go_at_call 40; refine (implSumIn_any _ _ _ _ _ hn hr).mono ?_; rintro e w' ⟨rfl, rfl⟩)
        go_ret
        exact ⟨ret_bool HF.out.symm, rfl⟩

theorem l4Given_any (b off c : Nat) (s : Int) (zs : List Int) (w : World) (hn : zs.length ≤ 1152921504606846976) (hr : Row w b off zs) :
    Calls Try.prog 49 #[.slice (some ⟨b, off, none⟩) zs.length c, .int .i64 s] w fun e w' => e = .returned (.bool (binIn zs s)) ∧ w = w' := by
  go_enter Try.func49, Try.ntmps49
  go_wp2
  go_loop [5] (fun i => ∃ k : Nat, k ≤ zs.length ∧ i = .int .i64 k ∧ ∀ j, j < k → zs[j]?.getD 0 ≤ s) (fun i => zs.length - (intOf i).toNat)
  case atStart => exact ⟨0, Nat.zero_le _, rfl, fun j hj => by omega⟩
  case round =>
    obtain ⟨k, hk, rfl, ha⟩ := hrel
    have HA := Lib.hid ha
    clear ha
    by_cases hlt : k < zs.length
    · have hcell := hr.2 k hlt
      have hno := fun h => binIn_no (s := s) hlt h
      obtain ⟨x, hx⟩ : ∃ x, zs[k]?.getD 0 = x := ⟨_, rfl⟩
      rw [hx] at hcell hno
      have HX := Lib.hid hx
      have HNO := Lib.hid hno
      clear hx hno
      by_cases hxs : s < x
      · go_wp2
        go_ret
        exact ⟨ret_bool (HNO.out hxs).symm, rfl⟩
      · go_wp2
        go_round
        case rel => exact ⟨k + 1, by omega, by go_num, fun j hj => by rcases Nat.lt_succ_iff_lt_or_eq.1 hj with h | rfl; exact HA.out j h; rw [HX.out]; omega⟩
        case measure => simp [intOf]; omega
    · obtain rfl : k = zs.length := by omega
      have hf := binIn_all HA.out
      cases hin : isIn zs with
      | false =>
        rw [hin] at hf
        have HF := Lib.hid hf
        clear hf
        go_wp2_with (go_at_call 38; refine (specSumIn_any _ _ _ _ _ hn hr).mono ?_; rintro e w' ⟨rfl, rfl⟩)
        go_ret
        exact ⟨ret_bool (by rw [HF.out]; rfl), rfl⟩
      | true =>
        rw [hin] at hf
        have HF := Lib.hid hf
        clear hf
        go_wp2_with (first | (go_at_call 38; refine (specSumIn_any _ _ _ _ _ hn hr).mono ?_; rintro e w' ⟨rfl, rfl⟩) | (go_at_call 52; refine (l6In_any _ _ _ _).mono ?_; rintro e w' ⟨rfl, rfl⟩))
        go_ret
        exact ⟨ret_bool (by rw [HF.out]; simp), rfl⟩

theorem l4Total_any (b off c : Nat) (zs : List Int) (w : World) (hin : isIn zs = true) (hr : Row w b off zs) :
    Calls Try.prog 50 #[.slice (some ⟨b, off, none⟩) zs.length c] w fun e w' => e = .returned (.int .i64 (tot zs zs.length)) ∧ w = w' := by
  have hlen := isIn_len hin
  have HIN := Lib.hid hin
  clear hin
  go_enter Try.func50, Try.ntmps50
  go_wp2
  go_loop [4, 3] (fun i s => ∃ j : Nat, j ≤ zs.length ∧ i = .int .i64 j ∧ s = .int .i64 (tot zs j)) (fun i _ => zs.length - (intOf i).toNat)
  case atStart => exact ⟨0, Nat.zero_le _, rfl, rfl⟩
  case round =>
    obtain ⟨j, hj, rfl, rfl⟩ := hrel
    have hb2 := tot_bd HIN.out j
    by_cases hlt : j < zs.length
    · have hcell := hr.2 j hlt
      have hx0 := getD_bd HIN.out j
      have hst : tot zs (j + 1) = tot zs j + zs[j]?.getD 0 := rfl
      obtain ⟨x, hx⟩ : ∃ x, zs[j]?.getD 0 = x := ⟨_, rfl⟩
      obtain ⟨s, hs⟩ : ∃ s, tot zs j = s := ⟨_, rfl⟩
      rw [hx, hs] at hst
      rw [hx] at hcell hx0
      rw [hs] at hb2 ⊢
      have HS := Lib.hid hst
      clear hx hs hst
      go_wp2
      go_round
      case rel => exact ⟨j + 1, by omega, by go_num, by rw [HS.out]⟩
      case measure => simp [intOf]; omega
    · obtain rfl : j = zs.length := by omega
      go_wp2
      go_ret
      exact ⟨rfl, rfl⟩

theorem ret_ib2 {a b : Int} {p : Bool} (h : a = b) : Ending.returned (.tuple #[.int .i64 a, .bool p]) = .returned (.tuple #[.int .i64 b, .bool p]) := by rw [h]

theorem implBinBound_any (b off c : Nat) (s : Int) (zs : List Int) (w : World) (hn : zs.length ≤ 1152921504606846976) (hr : Row w b off zs) :
    Calls Try.prog 25 #[.slice (some ⟨b, off, none⟩) zs.length c, .int .i64 s] w fun e w' => e = .returned (.tuple #[.int .i64 (boundV zs s), .bool (binIn zs s)]) ∧ Below w.heap.size w w' := by
  cases hbin : binIn zs s with
  | false =>
    rw [boundV_out hbin]
    go_enter Try.func25, Try.ntmps25
    go_wp2_with (go_at_call 51; refine (binsTold_any _ _ _ _ _ _ hn hr).mono ?_; rintro e w' ⟨rfl, rfl⟩)
    go_ret2
    exact ⟨rfl, Below.refl _ _⟩
  | true =>
    rw [boundV_in hbin]
    obtain ⟨hin, hs1, hs2⟩ := binIn_parts hbin
    have hlen := isIn_len hin
    have htb := tot_bd hin zs.length
    obtain ⟨T, hT⟩ : ∃ T, tot zs zs.length = T := ⟨_, rfl⟩
    rw [hT] at htb ⊢
    have HT := Lib.hid hT
    have HIN := Lib.hid hin
    clear hT hin
    go_enter Try.func25, Try.ntmps25
    go_wp2_with (go_at_call 51; refine (binsTold_any _ _ _ _ _ _ hn hr).mono ?_; rintro e w' ⟨rfl, rfl⟩)
    clear hbin
    go_loop [15, 6] (fun i g => ∃ j : Nat, j ≤ zs.length ∧ i = .int .i64 j ∧ g = .int .i64 (greatTo zs s j : Int)) (fun i _ => zs.length - (intOf i).toNat)
    case atStart => exact ⟨0, Nat.zero_le _, rfl, rfl⟩
    case round =>
      obtain ⟨j, hj, rfl, rfl⟩ := hrel
      have hgl := greatTo_le zs s j
      by_cases hlt : j < zs.length
      · have hcell := hr.2 j hlt
        have hx0 := getD_bd HIN.out j
        have hst : greatTo zs s (j + 1) = greatTo zs s j + if s < 2 * (zs[j]?.getD 0) then 1 else 0 := rfl
        obtain ⟨x, hx⟩ : ∃ x, zs[j]?.getD 0 = x := ⟨_, rfl⟩
        obtain ⟨g, hg⟩ : ∃ g, greatTo zs s j = g := ⟨_, rfl⟩
        rw [hx, hg] at hst
        rw [hx] at hcell hx0
        rw [hg] at hgl ⊢
        have HS := Lib.hid hst
        clear hx hg hst
        by_cases hq : s < 2 * x
        · go_wp2
          go_round
          case rel => exact ⟨j + 1, by omega, by go_num, by rw [HS.out, if_pos hq]; rfl⟩
          case measure => simp [intOf]; omega
        · go_wp2
          go_round
          case rel => exact ⟨j + 1, by omega, by go_num, by rw [HS.out, if_neg (by omega)]; rfl⟩
          case measure => simp [intOf]; omega
      · obtain rfl : j = zs.length := by omega
        obtain ⟨g, hg⟩ : ∃ g, greatTo zs s zs.length = g := ⟨_, rfl⟩
        rw [hg]
        have HG := Lib.hid hg
        clear hg
        obtain ⟨q, hq⟩ : ∃ q, (T + s - 1) / s = q := ⟨_, rfl⟩
        have HQ := Lib.hid hq
        have hif := max_if q (g : Int)
        obtain ⟨z, hz⟩ : ∃ z, max q (g : Int) = z := ⟨_, rfl⟩
        rw [hz] at hif
        have HZ := Lib.hid hz
        clear hz
        go_wp2_with (go_at_call 41; refine (totalOf_any _ _ _ _ _ HIN.out hr).mono ?_; rw [HT.out]; rintro e w' ⟨rfl, rfl⟩)
        go_ret2
        exact ⟨by rw [HQ.out, HG.out, HZ.out]; rfl, Below.refl _ _⟩

theorem specBinBound_any (b off c : Nat) (s : Int) (zs : List Int) (w : World) (hn : zs.length ≤ 1152921504606846976) (hr : Row w b off zs) :
    Calls Try.prog 24 #[.slice (some ⟨b, off, none⟩) zs.length c, .int .i64 s] w fun e w' => e = .returned (.tuple #[.int .i64 (boundV zs s), .bool (binIn zs s)]) ∧ Below w.heap.size w w' := by
  cases hbin : binIn zs s with
  | false =>
    rw [boundV_out hbin]
    go_enter Try.func24, Try.ntmps24
    go_wp2_with (go_at_call 49; refine (l4Given_any _ _ _ _ _ _ hn hr).mono ?_; rintro e w' ⟨rfl, rfl⟩)
    go_ret2
    exact ⟨rfl, Below.refl _ _⟩
  | true =>
    rw [boundV_in hbin]
    obtain ⟨hin, hs1, hs2⟩ := binIn_parts hbin
    have hlen := isIn_len hin
    have htb := tot_bd hin zs.length
    obtain ⟨T, hT⟩ : ∃ T, tot zs zs.length = T := ⟨_, rfl⟩
    rw [hT] at htb ⊢
    have HT := Lib.hid hT
    have HIN := Lib.hid hin
    clear hT hin
    go_enter Try.func24, Try.ntmps24
    go_wp2_with (go_at_call 49; refine (l4Given_any _ _ _ _ _ _ hn hr).mono ?_; rintro e w' ⟨rfl, rfl⟩)
    clear hbin
    go_loop [7, 6] (fun i g => ∃ j : Nat, j ≤ zs.length ∧ i = .int .i64 j ∧ g = .int .i64 (greatTo zs s j : Int)) (fun i _ => zs.length - (intOf i).toNat)
    case atStart => exact ⟨0, Nat.zero_le _, rfl, rfl⟩
    case round =>
      obtain ⟨j, hj, rfl, rfl⟩ := hrel
      have hgl := greatTo_le zs s j
      by_cases hlt : j < zs.length
      · have hcell := hr.2 j hlt
        have hx0 := getD_bd HIN.out j
        have hst : greatTo zs s (j + 1) = greatTo zs s j + if s < 2 * (zs[j]?.getD 0) then 1 else 0 := rfl
        obtain ⟨x, hx⟩ : ∃ x, zs[j]?.getD 0 = x := ⟨_, rfl⟩
        obtain ⟨g, hg⟩ : ∃ g, greatTo zs s j = g := ⟨_, rfl⟩
        rw [hx, hg] at hst
        rw [hx] at hcell hx0
        rw [hg] at hgl ⊢
        have HS := Lib.hid hst
        clear hx hg hst
        by_cases hq : s < 2 * x
        · go_wp2
          go_round
          case rel => exact ⟨j + 1, by omega, by go_num, by rw [HS.out, if_pos hq]; rfl⟩
          case measure => simp [intOf]; omega
        · go_wp2
          go_round
          case rel => exact ⟨j + 1, by omega, by go_num, by rw [HS.out, if_neg (by omega)]; rfl⟩
          case measure => simp [intOf]; omega
      · obtain rfl : j = zs.length := by omega
        obtain ⟨g, hg⟩ : ∃ g, greatTo zs s zs.length = g := ⟨_, rfl⟩
        rw [hg]
        have HG := Lib.hid hg
        clear hg
        obtain ⟨q, hq⟩ : ∃ q, (T + s - 1) / s = q := ⟨_, rfl⟩
        have HQ := Lib.hid hq
        have hif := max_if (g : Int) q
        obtain ⟨z, hz⟩ : ∃ z, max (g : Int) q = z := ⟨_, rfl⟩
        rw [hz] at hif
        have HZ : Hid (max q (g : Int) = z) := Lib.hid (by omega)
        clear hz
        go_wp2_with (go_at_call 50; refine (l4Total_any _ _ _ _ _ HIN.out hr).mono ?_; rw [HT.out]; rintro e w' ⟨rfl, rfl⟩)
        go_ret2
        exact ⟨by rw [HQ.out, HG.out, HZ.out]; rfl, Below.refl _ _⟩

end Go.Proofs.Ytdkhgpcfbdekeaa
