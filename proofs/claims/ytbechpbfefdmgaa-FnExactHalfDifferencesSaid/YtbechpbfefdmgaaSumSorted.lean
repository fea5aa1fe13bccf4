/- SumSorted, the program's and the reference's. -/
import Derived.Test.YtbechpbfefdmgaaL1Sorted
import Derived.Test.YtbechpbfefdmgaaShelf
import Derived.Sort.OwnSortedInts
namespace Go.Proofs.Ytbechpbfefdmgaa
open Go.RowKit Go.Sort
set_option maxHeartbeats 1000000

theorem ret_sb {g n c : Nat} {p q : Bool} (h : p = q) : Ending.returned (.tuple #[.slice (some ⟨g, 0, none⟩) n c, .bool p]) = .returned (.tuple #[.slice (some ⟨g, 0, none⟩) n c, .bool q]) := by rw [h]

/-- A copy of a list. -/
theorem clone_any (b off c : Nat) (zs : List Int) (w : World) (hlen : zs.length ≤ 1000) (hr : Row w b off zs) :
    Calls Try.prog 36 #[.slice (some ⟨b, off, none⟩) zs.length c] w fun e w' => ∃ g c', e = .returned (.slice (some ⟨g, 0, none⟩) zs.length c') ∧ Owns w' w.heap.size g c' zs ∧ Below w.heap.size w w' := by
  refine (Try.slices_Clone_int b off zs.length c zs w (Nat.le_refl _) (by omega) (fun j hj => hr.2 j hj)).mono ?_
  rintro e w' ⟨v', rfl, hown, hne, hB⟩
  rw [List.take_length] at hown
  obtain ⟨g, c', rfl, hl⟩ := owns_form hown hne
  exact ⟨g, c', rfl, hown, hB⟩

/-- The library's sort of a list of the call's own. -/
theorem sort_any (B g c : Nat) (zs : List Int) (w : World) (hlen : zs.length ≤ 1000) (hO : Owns w B g c zs) :
    Calls Try.prog 37 #[.slice (some ⟨g, 0, none⟩) zs.length c] w fun e w' => e = .returned (.tuple #[]) ∧ Owns w' B g c (sorted zs) ∧ w.grownBy w' (some g) := by
  obtain ⟨cur, hb, hg, h1, h2, h3, h4⟩ := hO.parts
  refine (Try.slices_Sort_int g 0 c zs w (holds_of_blockI hg h4) hO.lt (by omega)).mono ?_
  rintro e w' ⟨rfl, n, os, rfl⟩
  rw [sorted_merge]
  refine ⟨rfl, ?_, grownBy_sortedI _⟩
  have := ownsRow_sortedI (n := n) (os := os) (base := B) (ts := sorted zs) (ss := zs) (sorted_length zs) hb hg h1 h2 (by omega)
  unfold Owns
  rw [sorted_length]
  exact this

def sortedOf (zs : List Int) : List Int := if isIn zs then sorted zs else []
theorem sortedOf_out {zs : List Int} (h : isIn zs = false) : sortedOf zs = [] := by unfold sortedOf; rw [h]; rfl
theorem sortedOf_in {zs : List Int} (h : isIn zs = true) : sortedOf zs = sorted zs := by unfold sortedOf; rw [h]; rfl
theorem sortedOf_len (zs : List Int) : (sortedOf zs).length ≤ 10 := by
  cases h : isIn zs with
  | false => rw [sortedOf_out h]; simp
  | true => rw [sortedOf_in h, sorted_length]; exact isIn_len h

theorem implSumSorted_any (b off c : Nat) (zs : List Int) (w : World) (hn : zs.length ≤ 1152921504606846976) (hr : Row w b off zs) :
    Calls Try.prog 12 #[.slice (some ⟨b, off, none⟩) zs.length c] w fun e w' => ∃ g c', e = .returned (.tuple #[.slice (some ⟨g, 0, none⟩) (sortedOf zs).length c', .bool (isIn zs)]) ∧ Owns w' w.heap.size g c' (sortedOf zs) ∧ Below w.heap.size w w' := by
  cases hin : isIn zs with
  | false =>
    rw [sortedOf_out hin]
    go_enter Try.func12, Try.ntmps12
    go_wp2_with (go_at_call 35; refine (implSumIn_any _ _ _ _ _ hn hr).mono ?_; rw [hin]; rintro e w' ⟨rfl, rfl⟩)
    go_ret2
    exact ⟨_, _, rfl, owns_empty _ _ (Nat.le_refl _), by go_grown⟩
  | true =>
    have hlen := isIn_len hin
    rw [sortedOf_in hin]
    have HIN := Lib.hid hin
    clear hin
    go_enter Try.func12, Try.ntmps12
    go_wp2_with fail
    refine (implSumIn_any _ _ _ _ _ hn hr).mono ?_
    rw [HIN.out]
    rintro e w' ⟨rfl, rfl⟩
    go_wp2_with fail
    refine (clone_any _ _ _ zs _ (by omega) hr).mono ?_
    rintro e w2 ⟨g, c2, rfl, hO2, hB2⟩
    go_wp2_with fail
    refine (sort_any _ _ _ zs _ (by omega) hO2).mono ?_
    rintro e w3 ⟨rfl, hO3, hG3⟩
    have hB3 := hB2.grown hG3 hB2.size (fun j e => by cases e; exact hO2.ge)
    go_wp2
    go_ret2
    rw [sorted_length]
    exact ⟨g, c2, rfl, hO3, hB3⟩

theorem specSumSorted_any (b off c : Nat) (zs : List Int) (w : World) (hn : zs.length ≤ 1152921504606846976) (hr : Row w b off zs) :
    Calls Try.prog 10 #[.slice (some ⟨b, off, none⟩) zs.length c] w fun e w' => ∃ g c', e = .returned (.tuple #[.slice (some ⟨g, 0, none⟩) (sortedOf zs).length c', .bool (isIn zs)]) ∧ Owns w' w.heap.size g c' (sortedOf zs) ∧ Below w.heap.size w w' := by
  cases hin : isIn zs with
  | false =>
    rw [sortedOf_out hin]
    go_enter Try.func10, Try.ntmps10
    go_wp2_with (go_at_call 33; refine (specSumIn_any _ _ _ _ _ hn hr).mono ?_; rw [hin]; rintro e w' ⟨rfl, rfl⟩)
    go_ret2
    exact ⟨_, _, rfl, owns_empty _ _ (Nat.le_refl _), by go_grown⟩
  | true =>
    have hlen := isIn_len hin
    rw [sortedOf_in hin]
    have HIN := Lib.hid hin
    clear hin
    go_enter Try.func10, Try.ntmps10
    go_wp2_with fail
    refine (specSumIn_any _ _ _ _ _ hn hr).mono ?_
    rw [HIN.out]
    rintro e w' ⟨rfl, rfl⟩
    go_wp2_with fail
    refine (l1Sorted_any _ _ _ zs _ (by omega) hr).mono ?_
    rintro e w2 ⟨g, c2, rfl, hO2, hB2⟩
    go_wp2
    go_ret2
    rw [sorted_length]
    exact ⟨g, c2, rfl, hO2, hB2⟩

/-- No number is greater than the sum of those ahead of it, and one. -/
def wholeTo (S : List Int) (k : Nat) : Bool := (List.range k).all fun j => decide (S[j]?.getD 0 ≤ tot S j + 1)
def wholeB (zs : List Int) : Bool := isIn zs && wholeTo (sorted zs) (sorted zs).length
theorem whole_no {S : List Int} {k j : Nat} (hj : j < k) (h : tot S j + 1 < S[j]?.getD 0) : wholeTo S k = false := by
  unfold wholeTo
  rw [List.all_eq_false]
  exact ⟨j, List.mem_range.2 hj, by simp; omega⟩
theorem whole_yes {S : List Int} {k : Nat} (h : ∀ j, j < k → S[j]?.getD 0 ≤ tot S j + 1) : wholeTo S k = true := by
  unfold wholeTo
  rw [List.all_eq_true]
  intro j hj
  have := h j (List.mem_range.1 hj)
  simp; omega
theorem sorted_in {zs : List Int} (h : isIn zs = true) : isIn (sorted zs) = true := by rw [isIn_perm (sorted_perm zs)]; exact h

theorem implSumWhole_any (b off c : Nat) (zs : List Int) (w : World) (hn : zs.length ≤ 1152921504606846976) (hr : Row w b off zs) :
    Calls Try.prog 17 #[.slice (some ⟨b, off, none⟩) zs.length c] w fun e w' => e = .returned (.bool (wholeB zs)) ∧ Below w.heap.size w w' := by
  unfold wholeB
  cases hin : isIn zs with
  | false =>
    go_enter Try.func17, Try.ntmps17
    go_wp2_with fail
    refine (implSumSorted_any _ _ _ zs _ hn hr).mono ?_
    rw [hin]
    rintro e w2 ⟨g, c2, rfl, hO, hB⟩
    go_wp2
    go_ret
    exact ⟨rfl, hB⟩
  | true =>
    have hlen := isIn_len hin
    have hSl := sorted_length zs
    have hSi := sorted_in hin
    go_enter Try.func17, Try.ntmps17
    go_wp2_with fail
    refine (implSumSorted_any _ _ _ zs _ hn hr).mono ?_
    rw [hin, sortedOf_in hin]
    rintro e w2 ⟨g, c2, rfl, hO, hB⟩
    have hrow := hO.row
    obtain ⟨S, hS⟩ : ∃ S, sorted zs = S := ⟨_, rfl⟩
    rw [hS] at hSl hSi hrow ⊢
    have HSI := Lib.hid hSi
    have HB := Lib.hid hB
    have HSS := Lib.hid hS
    clear hin hS hO hB hr hSi
    go_wp2
    go_loop [17, 5] (fun i s => ∃ j : Nat, j ≤ S.length ∧ i = .int .i64 j ∧ s = .int .i64 (tot S j) ∧ ∀ m, m < j → S[m]?.getD 0 ≤ tot S m + 1) (fun i _ => S.length - (intOf i).toNat)
    case atStart => exact ⟨0, Nat.zero_le _, rfl, rfl, fun m hm => by omega⟩
    case round =>
      obtain ⟨j, hj, rfl, rfl, ha⟩ := hrel
      have HA := Lib.hid ha
      clear ha
      have hb2 := tot_bd HSI.out j
      by_cases hlt : j < S.length
      · have hcell := hrow.2 j hlt
        have hx0 := getD_bd HSI.out j
        have hst : tot S (j + 1) = tot S j + S[j]?.getD 0 := rfl
        have hno := fun h => whole_no (S := S) (k := S.length) hlt h
        have hgo : S[j]?.getD 0 ≤ tot S j + 1 → ∀ m, m < j + 1 → S[m]?.getD 0 ≤ tot S m + 1 := fun h m hm => by rcases Nat.lt_succ_iff_lt_or_eq.1 hm with h' | rfl; exact HA.out m h'; exact h
        obtain ⟨x, hx⟩ : ∃ x, S[j]?.getD 0 = x := ⟨_, rfl⟩
        obtain ⟨s, hs⟩ : ∃ s, tot S j = s := ⟨_, rfl⟩
        rw [hx, hs] at hst hno hgo
        rw [hx] at hcell hx0
        rw [hs] at hb2 ⊢
        rw [Nat.zero_add] at hcell
        have HS := Lib.hid hst
        have HNO := Lib.hid hno
        have HGO := Lib.hid hgo
        clear hx hs hst hno hgo hrow
        by_cases hle : x ≤ s + 1
        · go_wp2
          go_round
          case rel => exact ⟨j + 1, by omega, by go_num, by rw [HS.out], HGO.out hle⟩
          case measure => simp [intOf]; omega
        · go_wp2
          go_ret
          exact ⟨ret_bool (by rw [HSS.out, HNO.out (by omega)]), HB.out⟩
      · obtain rfl : j = S.length := by omega
        go_wp2
        go_ret
        exact ⟨ret_bool (by rw [HSS.out, whole_yes HA.out]), HB.out⟩

theorem specSumWhole_any (b off c : Nat) (zs : List Int) (w : World) (hn : zs.length ≤ 1152921504606846976) (hr : Row w b off zs) :
    Calls Try.prog 16 #[.slice (some ⟨b, off, none⟩) zs.length c] w fun e w' => e = .returned (.bool (wholeB zs)) ∧ Below w.heap.size w w' := by
  unfold wholeB
  cases hin : isIn zs with
  | false =>
    go_enter Try.func16, Try.ntmps16
    go_wp2_with fail
    refine (specSumIn_any _ _ _ zs _ hn hr).mono ?_
    rw [hin]
    rintro e w2 ⟨rfl, rfl⟩
    go_wp2
    go_ret
    exact ⟨rfl, Below.refl _ _⟩
  | true =>
    have hlen := isIn_len hin
    have hSl := sorted_length zs
    have hSi := sorted_in hin
    go_enter Try.func16, Try.ntmps16
    go_wp2_with fail
    refine (specSumIn_any _ _ _ zs _ hn hr).mono ?_
    rw [hin]
    rintro e w2 ⟨rfl, rfl⟩
    go_wp2_with fail
    refine (l1Sorted_any _ _ _ zs _ (by omega) hr).mono ?_
    rintro e w2 ⟨g, c2, rfl, hO, hB⟩
    have hrow := hO.row
    obtain ⟨S, hS⟩ : ∃ S, sorted zs = S := ⟨_, rfl⟩
    rw [← hSl]
    rw [hS] at hSl hSi hrow ⊢
    have HSI := Lib.hid hSi
    have HB := Lib.hid hB
    have HSS := Lib.hid hS
    have HSL := Lib.hid hSl
    clear hin hS hO hB hr hSi
    go_wp2
    go_loop [5, 4] (fun i s => ∃ j : Nat, j ≤ S.length ∧ i = .int .i64 j ∧ s = .int .i64 (tot S j) ∧ ∀ m, m < j → S[m]?.getD 0 ≤ tot S m + 1) (fun i _ => S.length - (intOf i).toNat)
    case atStart => exact ⟨0, Nat.zero_le _, rfl, rfl, fun m hm => by omega⟩
    case round =>
      obtain ⟨j, hj, rfl, rfl, ha⟩ := hrel
      have HA := Lib.hid ha
      clear ha
      have hb2 := tot_bd HSI.out j
      by_cases hlt : j < S.length
      · have hcell := hrow.2 j hlt
        have hx0 := getD_bd HSI.out j
        have hst : tot S (j + 1) = tot S j + S[j]?.getD 0 := rfl
        have hno := fun h => whole_no (S := S) (k := S.length) hlt h
        have hgo : S[j]?.getD 0 ≤ tot S j + 1 → ∀ m, m < j + 1 → S[m]?.getD 0 ≤ tot S m + 1 := fun h m hm => by rcases Nat.lt_succ_iff_lt_or_eq.1 hm with h' | rfl; exact HA.out m h'; exact h
        obtain ⟨x, hx⟩ : ∃ x, S[j]?.getD 0 = x := ⟨_, rfl⟩
        obtain ⟨s, hs⟩ : ∃ s, tot S j = s := ⟨_, rfl⟩
        rw [hx, hs] at hst hno hgo
        rw [hx] at hcell hx0
        rw [hs] at hb2 ⊢
        rw [Nat.zero_add] at hcell
        have HS := Lib.hid hst
        have HNO := Lib.hid hno
        have HGO := Lib.hid hgo
        clear hx hs hst hno hgo hrow
        by_cases hle : x ≤ s + 1
        · go_wp2
          go_round
          case rel => exact ⟨j + 1, by omega, by go_num, by rw [HS.out], HGO.out hle⟩
          case measure => simp [intOf]; omega
        · go_wp2
          go_ret
          exact ⟨ret_bool (by rw [HSS.out, HNO.out (by omega)]), HB.out⟩
      · obtain rfl : j = S.length := by omega
        go_wp2
        go_ret
        exact ⟨ret_bool (by rw [HSS.out, whole_yes HA.out]), HB.out⟩

end Go.Proofs.Ytbechpbfefdmgaa
