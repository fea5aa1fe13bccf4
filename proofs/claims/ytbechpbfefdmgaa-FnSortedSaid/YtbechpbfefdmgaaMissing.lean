/- SumCounts of the reference; SumMissing, SumApart, SumReach, SumGap: contracts. -/
import Derived.Test.YtbechpbfefdmgaaL1Counts
import Derived.Test.YtbechpbfefdmgaaCounts
import Derived.BigQuiet
import Derived.Deep.QuietTactic
namespace Go.Proofs.Ytbechpbfefdmgaa
open Go.RowKit

theorem counts_bd (zs : List Int) (u : Nat) (h : isIn zs = true) : 0 ≤ (counts zs)[u]?.getD 0 ∧ (counts zs)[u]?.getD 0 ≤ 1024 := countsTo_bd zs zs.length u (isIn_len h)

set_option maxHeartbeats 1000000

/-- The first place with a zero, or the length. -/
def missOf (C : List Int) : Nat := ((List.range C.length).find? fun k => decide (C[k]?.getD 0 = 0)).getD C.length
theorem miss_hit {C : List Int} {k : Nat} (hk : k < C.length) (h : C[k]?.getD 0 = 0) (h0 : ∀ j, j < k → C[j]?.getD 0 ≠ 0) : missOf C = k := by
  unfold missOf
  have : (List.range C.length).find? (fun k => decide (C[k]?.getD 0 = 0)) = some k := by
    rw [List.find?_range_eq_some]
    exact ⟨by simpa using h, List.mem_range.2 hk, fun j hj => by simpa using h0 j hj⟩
  rw [this]; rfl
theorem miss_none {C : List Int} (h0 : ∀ j, j < C.length → C[j]?.getD 0 ≠ 0) : missOf C = C.length := by
  unfold missOf
  have : (List.range C.length).find? (fun k => decide (C[k]?.getD 0 = 0)) = none := by
    rw [List.find?_eq_none]
    intro j hj
    simpa using h0 j (List.mem_range.1 hj)
  rw [this]; rfl
def missV (zs : List Int) : Int := if isIn zs then (missOf (counts zs) : Int) else 0
theorem missV_out {zs : List Int} (h : isIn zs = false) : missV zs = 0 := by unfold missV; rw [h]; rfl
theorem missV_in {zs : List Int} (h : isIn zs = true) : missV zs = (missOf (counts zs) : Int) := by unfold missV; rw [h]; rfl
theorem counts_len {zs : List Int} (h : isIn zs = true) : (counts zs).length ≤ 601 := by have := countsOf_len zs; rwa [countsOf_in h] at this



def apartB (zs : List Int) : Bool := isIn zs && (List.range (counts zs).length).all fun j => decide ((counts zs)[j]?.getD 0 ≤ 1)
def lowB (C : List Int) : Bool := (List.range C.length).all fun j => decide (C[j]?.getD 0 ≤ 1)
theorem apart_out {zs : List Int} (h : isIn zs = false) : apartB zs = false := by unfold apartB; rw [h]; rfl
theorem apart_in {zs : List Int} (h : isIn zs = true) : apartB zs = lowB (counts zs) := by unfold apartB lowB; rw [h]; rfl
theorem low_no {C : List Int} {k : Nat} (hk : k < C.length) (h : 1 < C[k]?.getD 0) : lowB C = false := by
  unfold lowB
  rw [List.all_eq_false]
  exact ⟨k, List.mem_range.2 hk, by simp; omega⟩
theorem low_yes {C : List Int} (h : ∀ j, j < C.length → C[j]?.getD 0 ≤ 1) : lowB C = true := by
  unfold lowB
  rw [List.all_eq_true]
  intro j hj
  have := h j (List.mem_range.1 hj)
  simpa using this

theorem implSumApart_any (b off c : Nat) (zs : List Int) (w : World) (hn : zs.length ≤ 1152921504606846976) (hr : Row w b off zs) :
    Calls Try.prog 24 #[.slice (some ⟨b, off, none⟩) zs.length c] w fun e w' => e = .returned (.bool (apartB zs)) ∧ Below w.heap.size w w' := by
  have hC := implSumCounts_any b off c zs w hn hr
  cases hin : isIn zs with
  | false =>
    have HG := Lib.hid (apart_out hin)
    rw [hin] at hC
    have HC := Lib.hid hC
    clear hC hin
    go_enter Try.func24, Try.ntmps24
    go_wp2_with (go_at_call 20; refine HC.out.mono ?_; rintro e w' ⟨g, c', rfl, hO, hB⟩)
    go_ret
    exact ⟨ret_bool HG.out.symm, hB⟩
  | true =>
    have hA := apart_in hin
    rw [hin, countsOf_in hin] at hC
    have hln := counts_len hin
    obtain ⟨C, hCd⟩ : ∃ C, counts zs = C := ⟨_, rfl⟩
    rw [hCd] at hC hA hln
    have HC := Lib.hid hC
    have HAP := Lib.hid hA
    clear hC hCd hA
    clear hin
    go_enter Try.func24, Try.ntmps24
    go_wp2_with (go_at_call 20; refine HC.out.mono ?_; rintro e w1 ⟨g, c', rfl, hO, hB⟩)
    go_loop [16] (fun i => ∃ k : Nat, k ≤ C.length ∧ i = .int .i64 k ∧ ∀ j, j < k → C[j]?.getD 0 ≤ 1) (fun i => C.length - (intOf i).toNat)
    case atStart => exact ⟨0, Nat.zero_le _, rfl, fun j hj => by omega⟩
    case round =>
      obtain ⟨k, hk, rfl, ha⟩ := hrel
      have HA := Lib.hid ha
      clear ha
      by_cases hlt : k < C.length
      · have hcell := hO.row.2 k hlt
        rw [Nat.zero_add] at hcell
        obtain ⟨x, hx⟩ : ∃ x, C[k]?.getD 0 = x := ⟨_, rfl⟩
        rw [hx] at hcell
        have HX := Lib.hid hx
        clear hx
        by_cases h1 : 1 < x
        · go_wp2
          go_ret
          exact ⟨ret_bool (by rw [HAP.out]; exact (low_no hlt (by rw [HX.out]; exact h1)).symm), hB⟩
        · go_wp2
          go_round
          case rel => exact ⟨k + 1, by omega, by go_num, fun j hj => by rcases Nat.lt_succ_iff_lt_or_eq.1 hj with h | rfl; exact HA.out j h; rw [HX.out]; omega⟩
          case measure => simp [intOf]; omega
      · obtain rfl : k = C.length := by omega
        go_wp2
        go_ret
        exact ⟨ret_bool (by rw [HAP.out]; exact (low_yes HA.out).symm), hB⟩


end Go.Proofs.Ytbechpbfefdmgaa
