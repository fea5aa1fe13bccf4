/- SumCounts of the reference; SumMissing, SumApart, SumReach, SumGap: contracts. -/
import Derived.Test.YtdkhgpcfbdekeaaL1Counts
import Derived.Test.YtdkhgpcfbdekeaaCounts
import Derived.BigQuiet
import Derived.Deep.QuietTactic
namespace Go.Proofs.Ytdkhgpcfbdekeaa
open Go.RowKit

theorem counts_bd (zs : List Int) (u : Nat) (h : isIn zs = true) : 0 ≤ (counts zs)[u]?.getD 0 ∧ (counts zs)[u]?.getD 0 ≤ 1024 := countsTo_bd zs zs.length u (isIn_len h)

set_option maxHeartbeats 1000000

/-- The first place with a zero, or the length. -/
def missOf (C : List Int) : Nat := ((List.range C.length).find? fun k => decide (C[k]?.getD 0 = 0)).getD C.length
theorem miss_hit {C : List Int} {k : Nat} (hk : k < C.length) (h : C[k]?.getD 0 = 0) (h0 : ∀ j, j < k → C[j]?.getD 0 ≠ 0) : missOf C = k := by
  unfold missOf
  have : (List.range C.length).find? (fun k => decide (C[k]?.getD 0 = 0)) = some k := by
    rw [List.find?_range_eq_some]
    exact ⟨by simpa using h, List.mem_range.2 hk, fun j hj => by simpa using h0 j hj⟩
  rw [this]; rfl
theorem miss_none {C : List Int} (h0 : ∀ j, j < C.length → C[j]?.getD 0 ≠ 0) : missOf C = C.length := by
  unfold missOf
  have : (List.range C.length).find? (fun k => decide (C[k]?.getD 0 = 0)) = none := by
    rw [List.find?_eq_none]
    intro j hj
    simpa using h0 j (List.mem_range.1 hj)
  rw [this]; rfl
def missV (zs : List Int) : Int := if isIn zs then (missOf (counts zs) : Int) else 0
theorem missV_out {zs : List Int} (h : isIn zs = false) : missV zs = 0 := by unfold missV; rw [h]; rfl
theorem missV_in {zs : List Int} (h : isIn zs = true) : missV zs = (missOf (counts zs) : Int) := by unfold missV; rw [h]; rfl
theorem counts_len {zs : List Int} (h : isIn zs = true) : (counts zs).length ≤ 601 := by have := countsOf_len zs; rwa [countsOf_in h] at this



def apartB (zs : List Int) : Bool := isIn zs && (List.range (counts zs).length).all fun j => decide ((counts zs)[j]?.getD 0 ≤ 1)
def lowB (C : List Int) : Bool := (List.range C.length).all fun j => decide (C[j]?.getD 0 ≤ 1)
theorem apart_out {zs : List Int} (h : isIn zs = false) : apartB zs = false := by unfold apartB; rw [h]; rfl
theorem apart_in {zs : List Int} (h : isIn zs = true) : apartB zs = lowB (counts zs) := by unfold apartB lowB; rw [h]; rfl
theorem low_no {C : List Int} {k : Nat} (hk : k < C.length) (h : 1 < C[k]?.getD 0) : lowB C = false := by
  unfold lowB
  rw [List.all_eq_false]
  exact ⟨k, List.mem_range.2 hk, by simp; omega⟩
theorem low_yes {C : List Int} (h : ∀ j, j < C.length → C[j]?.getD 0 ≤ 1) : lowB C = true := by
  unfold lowB
  rw [List.all_eq_true]
  intro j hj
  have := h j (List.mem_range.1 hj)
  simpa using this



end Go.Proofs.Ytdkhgpcfbdekeaa
