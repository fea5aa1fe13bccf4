/- SumGrown, SumOf: contracts of the program's and the reference's functions. -/
import Derived.Test.YtdkhgpcfbdekeaaLeaf
namespace Go.Proofs.Ytdkhgpcfbdekeaa
open Go.RowKit

/-- Each number is greater than the sum of those ahead of it. -/
def grownB (zs : List Int) : Bool := isIn zs && (List.range zs.length).all fun j => decide (tot zs j < zs[j]?.getD 0)

theorem grown_no {zs : List Int} {j : Nat} (hj : j < zs.length) (h : zs[j]?.getD 0 ≤ tot zs j) : grownB zs = false := by
  unfold grownB
  have : (List.range zs.length).all (fun j => decide (tot zs j < zs[j]?.getD 0)) = false := by
    rw [List.all_eq_false]
    exact ⟨j, List.mem_range.2 hj, by simp; omega⟩
  rw [this, Bool.and_false]
theorem grown_yes {zs : List Int} (h : ∀ j, j < zs.length → tot zs j < zs[j]?.getD 0) : grownB zs = isIn zs := by
  unfold grownB
  have : (List.range zs.length).all (fun j => decide (tot zs j < zs[j]?.getD 0)) = true := by
    rw [List.all_eq_true]
    intro j hj
    have := h j (List.mem_range.1 hj)
    simp; omega
  rw [this, Bool.and_true]
theorem grown_out {zs : List Int} (h : isIn zs = false) : grownB zs = false := by unfold grownB; rw [h]; rfl

set_option maxHeartbeats 400000


/-- What SumOf hands back. -/
def sumOfB (zs : List Int) (v : Int) : Bool := isIn zs && (decide (0 ≤ v) && decide (v ≤ ((2 ^ zs.length - 1 : Nat) : Int)))
def sumOfV (zs : List Int) (v : Int) : Int := if sumOfB zs v then cs zs v.toNat zs.length else 0

theorem ret_ib {a b : Int} {p q : Bool} (h : a = b) (k : p = q) : Ending.returned (.tuple #[.int .i64 a, .bool p]) = .returned (.tuple #[.int .i64 b, .bool q]) := by rw [h, k]


theorem implSumOf_any (b off c : Nat) (v : Int) (zs : List Int) (w : World) (hn : zs.length ≤ 1152921504606846976) (hr : Row w b off zs) :
    Calls Try.prog 32 #[.slice (some ⟨b, off, none⟩) zs.length c, .int .i64 v] w fun e w' => e = .returned (.tuple #[.int .i64 (sumOfV zs v), .bool (sumOfB zs v)]) ∧ Below w.heap.size w w' := by
  cases hin : isIn zs with
  | false =>
    have h1 : sumOfB zs v = false := by unfold sumOfB; rw [hin]; rfl
    have h2 : sumOfV zs v = 0 := by unfold sumOfV; rw [h1]; rfl
    have H1 := Lib.hid h1
    have H2 := Lib.hid h2
    clear h1 h2
    go_enter Try.func32, Try.ntmps32
    go_wp2_with (go_at_call 40; refine (implSumIn_any _ _ _ _ _ hn hr).mono ?_; rintro e w' ⟨rfl, rfl⟩)
    go_ret2
    exact ⟨ret_ib H2.out.symm H1.out.symm, Below.refl _ _⟩
  | true =>
    have hlen := isIn_len hin
    obtain ⟨N, hN, hN1, hN2, hN3⟩ := pow_walk zs.length (by omega)
    by_cases hv1 : v < 0
    · have h1 : sumOfB zs v = false := by unfold sumOfB; rw [show decide (0 ≤ v) = false by simp; omega]; simp
      have h2 : sumOfV zs v = 0 := by unfold sumOfV; rw [h1]; rfl
      have H1 := Lib.hid h1
      have H2 := Lib.hid h2
      have HN := Lib.hid hN
      clear h1 h2 hN
      go_enter Try.func32, Try.ntmps32
      go_wp2_with (go_at_call 40; refine (implSumIn_any _ _ _ _ _ hn hr).mono ?_; rintro e w' ⟨rfl, rfl⟩)
      go_ret2
      exact ⟨ret_ib H2.out.symm H1.out.symm, Below.refl _ _⟩
    · obtain ⟨k, rfl⟩ := Int.eq_ofNat_of_zero_le (show 0 ≤ v by omega)
      clear hv1
      by_cases hv2 : N ≤ k
      · have h1 : sumOfB zs (k : Int) = false := by unfold sumOfB; rw [show decide ((k : Int) ≤ ((2 ^ zs.length - 1 : Nat) : Int)) = false by simp; omega]; simp
        have h2 : sumOfV zs (k : Int) = 0 := by unfold sumOfV; rw [h1]; rfl
        have H1 := Lib.hid h1
        have H2 := Lib.hid h2
        have HN := Lib.hid hN
        clear h1 h2 hN
        go_enter Try.func32, Try.ntmps32
        go_wp2_with (go_at_call 40; refine (implSumIn_any _ _ _ _ _ hn hr).mono ?_; rintro e w' ⟨rfl, rfl⟩)
        go_ret2
        exact ⟨ret_ib H2.out.symm H1.out.symm, Below.refl _ _⟩
      · have h1 : sumOfB zs (k : Int) = true := by unfold sumOfB; rw [hin, show decide ((k : Int) ≤ ((2 ^ zs.length - 1 : Nat) : Int)) = true by simp; omega]; simp
        have h2 : sumOfV zs (k : Int) = cs zs k zs.length := by unfold sumOfV; rw [h1]; rfl
        have H1 := Lib.hid h1
        have H2 := Lib.hid h2
        have HN := Lib.hid hN
        clear h1 h2 hN
        have HIN := Lib.hid hin
        go_enter Try.func32, Try.ntmps32
        go_wp2_with (first | (go_at_call 40; refine (implSumIn_any _ _ _ _ _ hn hr).mono ?_; rintro e w' ⟨rfl, rfl⟩) | (go_at_call 53; refine (sum_any _ _ _ _ _ _ (by omega) HIN.out hr).mono ?_; rintro e w' ⟨rfl, rfl⟩))
        go_ret2
        exact ⟨ret_ib H2.out.symm H1.out.symm, Below.refl _ _⟩

end Go.Proofs.Ytdkhgpcfbdekeaa
