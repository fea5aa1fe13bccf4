/- HalfGreedy, the program's and the reference's. -/
import Derived.Test.YtbechpbfefdmgaaInOrder
import Derived.Test.YtbechpbfefdmgaaGrown
namespace Go.Proofs.Ytbechpbfefdmgaa
open Go.RowKit Go.Sort
set_option maxHeartbeats 1000000

theorem sizeOf2_any (d : Int) (w : World) (h1 : -1152921504606846976 ≤ d) (h2 : d ≤ 1152921504606846976) :
    Calls Try.prog 48 #[.int .i64 d] w fun e w' => e = .returned (.int .i64 (max d (-d))) ∧ w = w' := by
  have hif := max_if d (-d)
  go_enter Try.func48, Try.ntmps48
  go_wp2
  go_ret
  exact ⟨rfl, rfl⟩

/-- The two sides, behind the first k numbers. -/
def sides (D : List Int) : Nat → Int × Int
  | 0 => (0, 0)
  | k + 1 => if (sides D k).1 ≤ (sides D k).2 then ((sides D k).1 + D[k]?.getD 0, (sides D k).2) else ((sides D k).1, (sides D k).2 + D[k]?.getD 0)
theorem sides_bd {D : List Int} (h : isIn D = true) (k : Nat) : 0 ≤ (sides D k).1 ∧ (sides D k).1 ≤ 60 * k ∧ 0 ≤ (sides D k).2 ∧ (sides D k).2 ≤ 60 * k := by
  induction k with
  | zero => simp [sides]
  | succ k ih =>
    have := getD_bd h k
    simp only [sides]
    split <;> simp only <;> omega
theorem sides_le {D : List Int} {k : Nat} (h : (sides D k).1 ≤ (sides D k).2) : sides D (k + 1) = ((sides D k).1 + D[k]?.getD 0, (sides D k).2) := by simp only [sides]; rw [if_pos h]
theorem sides_gt {D : List Int} {k : Nat} (h : ¬ (sides D k).1 ≤ (sides D k).2) : sides D (k + 1) = ((sides D k).1, (sides D k).2 + D[k]?.getD 0) := by simp only [sides]; rw [if_neg h]
theorem fallen_in {zs : List Int} (h : isIn zs = true) : isIn (fallen zs) = true := by rw [isIn_perm (fallen_perm zs)]; exact h

def restV (D : List Int) : Int := max ((sides D D.length).1 - (sides D D.length).2) ((sides D D.length).2 - (sides D D.length).1)
def halfGreedyV (zs : List Int) : Int := if isIn zs then restV (fallen zs) else 0

theorem implHalfGreedy_any (b off c : Nat) (zs : List Int) (w : World) (hn : zs.length ≤ 1152921504606846976) (hr : Row w b off zs) :
    Calls Try.prog 32 #[.slice (some ⟨b, off, none⟩) zs.length c] w fun e w' => e = .returned (.tuple #[.int .i64 (halfGreedyV zs), .bool (isIn zs)]) ∧ Below w.heap.size w w' := by
  unfold halfGreedyV
  cases hin : isIn zs with
  | false =>
    go_enter Try.func32, Try.ntmps32
    go_wp2_with (go_at_call 35; refine (implSumIn_any _ _ _ _ _ hn hr).mono ?_; rw [hin]; rintro e w' ⟨rfl, rfl⟩)
    go_ret2
    exact ⟨rfl, Below.refl _ _⟩
  | true =>
    have hlen := isIn_len hin
    have hDi := fallen_in hin
    have hDl := fallen_length zs
    have HIN := Lib.hid hin
    clear hin
    simp only [if_true]
    unfold restV
    go_enter Try.func32, Try.ntmps32
    go_wp2_with fail
    refine (implSumIn_any _ _ _ _ _ hn hr).mono ?_
    rw [HIN.out]
    rintro e w' ⟨rfl, rfl⟩
    go_wp2_with fail
    refine (inOrder_any _ _ _ zs _ (by omega) hr).mono ?_
    rintro e w2 ⟨g, c2, rfl, hO, hB⟩
    have hrow := hO.row
    obtain ⟨D, hD⟩ : ∃ D, fallen zs = D := ⟨_, rfl⟩
    rw [hD] at hDi hDl hrow
    have HDI := Lib.hid hDi
    have HB := Lib.hid hB
    have HD := Lib.hid hD
    have HDL := Lib.hid hDl
    obtain ⟨n, hnn⟩ : ∃ n, zs.length = n := ⟨_, rfl⟩
    rw [hnn] at hlen hDl ⊢
    clear hD hO hB hr hDi hn
    clear HDL
    have HDL := Lib.hid hDl
    clear hDl hnn
    go_wp2
    go_loop [14, 4, 5] (fun i x y => ∃ j : Nat, j ≤ n ∧ i = .int .i64 j ∧ x = .int .i64 (sides D j).1 ∧ y = .int .i64 (sides D j).2) (fun i _ _ => n - (intOf i).toNat)
    case atStart => exact ⟨0, Nat.zero_le _, rfl, rfl, rfl⟩
    case round =>
      obtain ⟨j, hj, rfl, rfl, rfl⟩ := hrel
      have hb := sides_bd HDI.out j
      by_cases hlt : j < n
      · have hcell := hrow.2 j (by rw [HDL.out]; exact hlt)
        have hx0 := getD_bd HDI.out j
        have hle := fun h => sides_le (D := D) (k := j) h
        have hgt := fun h => sides_gt (D := D) (k := j) h
        obtain ⟨z, hz⟩ : ∃ z, D[j]?.getD 0 = z := ⟨_, rfl⟩
        obtain ⟨x, hx⟩ : ∃ x, (sides D j).1 = x := ⟨_, rfl⟩
        obtain ⟨y, hy⟩ : ∃ y, (sides D j).2 = y := ⟨_, rfl⟩
        rw [hz, hx, hy] at hle hgt
        rw [hz] at hcell hx0
        rw [hx, hy] at hb
        rw [hx, hy]
        rw [Nat.zero_add] at hcell
        have HLE := Lib.hid hle
        have HGT := Lib.hid hgt
        clear hz hx hy hle hgt hrow
        by_cases hxy : x ≤ y
        · go_wp2
          go_round
          case rel => exact ⟨j + 1, by omega, by go_num, by rw [HLE.out hxy], by rw [HLE.out hxy]⟩
          case measure => simp [intOf]; omega
        · go_wp2
          go_round
          case rel => exact ⟨j + 1, by omega, by go_num, by rw [HGT.out hxy], by rw [HGT.out hxy]⟩
          case measure => simp [intOf]; omega
      · obtain rfl : j = n := by omega
        obtain ⟨x, hx⟩ : ∃ x, (sides D j).1 = x := ⟨_, rfl⟩
        obtain ⟨y, hy⟩ : ∃ y, (sides D j).2 = y := ⟨_, rfl⟩
        rw [hx, hy] at hb ⊢
        have HX := Lib.hid hx
        have HY := Lib.hid hy
        clear hx hy hrow
        go_wp2_with fail
        refine (sizeOf2_any (x - y) _ (by omega) (by omega)).mono ?_
        rintro e w3 ⟨rfl, rfl⟩
        go_wp2
        go_ret2
        exact ⟨ret_ib (by rw [HD.out, HDL.out, HX.out, HY.out]; omega) rfl, HB.out⟩

theorem fallen_at (zs : List Int) (j : Nat) (hj : j < zs.length) : (fallen zs)[j]?.getD 0 = (sorted zs)[zs.length - 1 - j]?.getD 0 := by
  rw [fallen_rev, List.getElem?_reverse (by rw [sorted_length]; exact hj), sorted_length]

theorem specHalfGreedy_any (b off c : Nat) (zs : List Int) (w : World) (hn : zs.length ≤ 1152921504606846976) (hr : Row w b off zs) :
    Calls Try.prog 31 #[.slice (some ⟨b, off, none⟩) zs.length c] w fun e w' => e = .returned (.tuple #[.int .i64 (halfGreedyV zs), .bool (isIn zs)]) ∧ Below w.heap.size w w' := by
  unfold halfGreedyV
  cases hin : isIn zs with
  | false =>
    go_enter Try.func31, Try.ntmps31
    go_wp2_with (go_at_call 33; refine (specSumIn_any _ _ _ _ _ hn hr).mono ?_; rw [hin]; rintro e w' ⟨rfl, rfl⟩)
    go_ret2
    exact ⟨rfl, Below.refl _ _⟩
  | true =>
    have hlen := isIn_len hin
    have hDi := fallen_in hin
    have hDl := fallen_length zs
    have hSl := sorted_length zs
    have hat := fallen_at zs
    have HIN := Lib.hid hin
    clear hin
    simp only [if_true]
    unfold restV
    go_enter Try.func31, Try.ntmps31
    go_wp2_with fail
    refine (specSumIn_any _ _ _ _ _ hn hr).mono ?_
    rw [HIN.out]
    rintro e w' ⟨rfl, rfl⟩
    go_wp2_with fail
    refine (l1Sorted_any _ _ _ zs _ (by omega) hr).mono ?_
    rintro e w2 ⟨g, c2, rfl, hO, hB⟩
    have hrow := hO.row
    obtain ⟨D, hD⟩ : ∃ D, fallen zs = D := ⟨_, rfl⟩
    obtain ⟨S, hS⟩ : ∃ S, sorted zs = S := ⟨_, rfl⟩
    rw [hD] at hDi hDl hat
    rw [hS] at hSl hrow hat
    obtain ⟨n, hnn⟩ : ∃ n, zs.length = n := ⟨_, rfl⟩
    rw [hnn] at hlen hDl hSl hat ⊢
    have HDI := Lib.hid hDi
    have HB := Lib.hid hB
    have HD := Lib.hid hD
    have HDL := Lib.hid hDl
    have HSL := Lib.hid hSl
    have HAT := Lib.hid hat
    clear hD hO hB hr hDi hn hDl hSl hS hat hnn
    go_wp2
    go_loop [7, 5, 6] (fun i x y => ∃ (j : Nat) (I : Int), j ≤ n ∧ i = .int .i64 I ∧ I = (n : Int) - 1 - (j : Int) ∧ x = .int .i64 (sides D j).1 ∧ y = .int .i64 (sides D j).2) (fun i _ _ => (intOf i + 1).toNat)
    case atStart => exact ⟨0, _, Nat.zero_le _, rfl, by omega, rfl, rfl⟩
    case round =>
      obtain ⟨j, I, hj, rfl, hI, rfl, rfl⟩ := hrel
      have hb := sides_bd HDI.out j
      by_cases hlt : j < n
      · obtain ⟨m, hm⟩ : ∃ m : Nat, n - 1 - j = m := ⟨_, rfl⟩
        obtain rfl : I = (m : Int) := by omega
        have hmn : m < n := by omega
        have hjm : (m : Int) - 1 = (n : Int) - 1 - ((j + 1 : Nat) : Int) := by omega
        have HJM := Lib.hid hjm
        have hcell := hrow.2 m (by rw [HSL.out]; exact hmn)
        have hz2 := HAT.out j hlt
        rw [hm] at hz2
        have hx0 := getD_bd HDI.out j
        have hle := fun h => sides_le (D := D) (k := j) h
        have hgt := fun h => sides_gt (D := D) (k := j) h
        obtain ⟨z, hz⟩ : ∃ z, D[j]?.getD 0 = z := ⟨_, rfl⟩
        obtain ⟨x, hx⟩ : ∃ x, (sides D j).1 = x := ⟨_, rfl⟩
        obtain ⟨y, hy⟩ : ∃ y, (sides D j).2 = y := ⟨_, rfl⟩
        rw [hz] at hz2
        rw [hz, hx, hy] at hle hgt
        rw [← hz2] at hcell
        rw [hz] at hx0
        rw [hx, hy] at hb
        rw [hx, hy]
        rw [Nat.zero_add] at hcell
        have HLE := Lib.hid hle
        have HGT := Lib.hid hgt
        clear hz hx hy hle hgt hrow hz2 hm hjm hI
        by_cases hxy : x ≤ y
        · go_wp2
          go_round
          case rel => exact ⟨j + 1, _, by omega, rfl, HJM.out, by rw [HLE.out hxy], by rw [HLE.out hxy]⟩
          case measure => simp [intOf]
        · go_wp2
          go_round
          case rel => exact ⟨j + 1, _, by omega, rfl, HJM.out, by rw [HGT.out hxy], by rw [HGT.out hxy]⟩
          case measure => simp [intOf]
      · obtain rfl : j = n := by omega
        obtain rfl : I = -1 := by omega
        obtain ⟨x, hx⟩ : ∃ x, (sides D j).1 = x := ⟨_, rfl⟩
        obtain ⟨y, hy⟩ : ∃ y, (sides D j).2 = y := ⟨_, rfl⟩
        rw [hx, hy] at hb ⊢
        have HX := Lib.hid hx
        have HY := Lib.hid hy
        have hmx : (if x - y < y - x then y - x else x - y) = max (x - y) (y - x) := max_if _ _
        clear hx hy hrow hI
        by_cases hxy : x - y < y - x
        · go_wp2
          go_ret2
          exact ⟨ret_ib (by rw [HD.out, HDL.out, HX.out, HY.out]) rfl, HB.out⟩
        · go_wp2
          go_ret2
          exact ⟨ret_ib (by rw [HD.out, HDL.out, HX.out, HY.out]) rfl, HB.out⟩

end Go.Proofs.Ytbechpbfefdmgaa
