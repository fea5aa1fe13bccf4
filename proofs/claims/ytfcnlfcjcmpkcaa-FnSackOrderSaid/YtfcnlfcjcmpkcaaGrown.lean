/- SumGrown, SumOf: contracts of the program's and the reference's functions. -/
import Derived.Test.YtfcnlfcjcmpkcaaLeaf
namespace Go.Proofs.Ytfcnlfcjcmpkcaa
open Go.RowKit

/-- Each number is greater than the sum of those ahead of it. -/
def grownB (zs : List Int) : Bool := isIn zs && (List.range zs.length).all fun j => decide (tot zs j < zs[j]?.getD 0)

theorem grown_no {zs : List Int} {j : Nat} (hj : j < zs.length) (h : zs[j]?.getD 0 ≤ tot zs j) : grownB zs = false := by
  unfold grownB
  have : (List.range zs.length).all (fun j => decide (tot zs j < zs[j]?.getD 0)) = false := by
    rw [List.all_eq_false]
    exact ⟨j, List.mem_range.2 hj, by simp; omega⟩
  rw [this, Bool.and_false]
theorem grown_yes {zs : List Int} (h : ∀ j, j < zs.length → tot zs j < zs[j]?.getD 0) : grownB zs = isIn zs := by
  unfold grownB
  have : (List.range zs.length).all (fun j => decide (tot zs j < zs[j]?.getD 0)) = true := by
    rw [List.all_eq_true]
    intro j hj
    have := h j (List.mem_range.1 hj)
    simp; omega
  rw [this, Bool.and_true]
theorem grown_out {zs : List Int} (h : isIn zs = false) : grownB zs = false := by unfold grownB; rw [h]; rfl

set_option maxHeartbeats 400000


/-- What SumOf hands back. -/
def sumOfB (zs : List Int) (v : Int) : Bool := isIn zs && (decide (0 ≤ v) && decide (v ≤ ((2 ^ zs.length - 1 : Nat) : Int)))
def sumOfV (zs : List Int) (v : Int) : Int := if sumOfB zs v then cs zs v.toNat zs.length else 0

theorem ret_ib {a b : Int} {p q : Bool} (h : a = b) (k : p = q) : Ending.returned (.tuple #[.int .i64 a, .bool p]) = .returned (.tuple #[.int .i64 b, .bool q]) := by rw [h, k]



end Go.Proofs.Ytfcnlfcjcmpkcaa
