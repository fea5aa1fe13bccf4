/- Places as bits of one number; every place of a dense order is seen. No program in sight. -/
import Derived.Test.YtfcnlfcjcmpkcaaDense
namespace Go.Proofs.Ytfcnlfcjcmpkcaa

/-- The first k places of D, as bits. -/
def seenTo (D : List Int) : Nat → Nat
  | 0 => 0
  | k + 1 => seenTo D k ||| 2 ^ (D[k]?.getD 0).toNat
theorem seenTo_lt {D : List Int} {n : Nat} (h : ∀ j, j < D.length → (D[j]?.getD 0).toNat < n) (k : Nat) (hk : k ≤ D.length) : seenTo D k < 2 ^ n := by
  induction k with
  | zero => exact Nat.pow_pos (by omega)
  | succ k ih => exact Nat.or_lt_two_pow (ih (by omega)) (Nat.pow_lt_pow_right (by omega) (h k (by omega)))
theorem seenTo_bit (D : List Int) (k i : Nat) : (seenTo D k).testBit i = true ↔ ∃ j, j < k ∧ (D[j]?.getD 0).toNat = i := by
  induction k with
  | zero => simp [seenTo]
  | succ k ih =>
    simp only [seenTo, Nat.testBit_or, Bool.or_eq_true, ih, Nat.testBit_two_pow, decide_eq_true_eq]
    constructor
    · rintro (⟨j, hj, e⟩ | e)
      · exact ⟨j, by omega, e⟩
      · exact ⟨k, by omega, e⟩
    · rintro ⟨j, hj, e⟩
      by_cases h : j = k
      · subst h; exact .inr e
      · exact .inl ⟨j, by omega, e⟩
theorem dense_place {zs : List Int} {n j : Nat} (h : j < n) : ((dense zs n)[j]?.getD 0).toNat < n := by
  obtain ⟨i, hi, e⟩ := dense_at (zs := zs) h
  rw [e]; omega
theorem dense_seen (zs : List Int) (n : Nat) : seenTo (dense zs n) n = 2 ^ n - 1 := by
  refine Nat.eq_of_testBit_eq fun i => ?_
  rw [Nat.testBit_two_pow_sub_one]
  by_cases hi : i < n
  · rw [decide_eq_true hi, seenTo_bit]
    obtain ⟨j, hj, e⟩ := List.getElem_of_mem (mem_dense (zs := zs) hi)
    rw [dense_length] at hj
    refine ⟨j, hj, ?_⟩
    rw [List.getElem?_eq_getElem (by rw [dense_length]; exact hj)]
    show ((dense zs n)[j]).toNat = i
    rw [e]; omega
  · rw [decide_eq_false hi]
    refine Bool.eq_false_iff.2 fun h => ?_
    obtain ⟨j, hj, e⟩ := (seenTo_bit _ _ _).1 h
    have := dense_place (zs := zs) hj
    omega
theorem dense_next {zs : List Int} {n : Nat} (h : itemsIn zs n = true) (j : Nat) (hj : j + 1 < n) : Ahead zs ((dense zs n)[j]?.getD 0) ((dense zs n)[j + 1]?.getD 0) := by
  have hl := dense_length zs n
  have := List.pairwise_iff_getElem.1 (dense_ahead h) j (j + 1) (by omega) (by omega) (by omega)
  rwa [List.getElem?_eq_getElem (by omega), List.getElem?_eq_getElem (by omega)]
end Go.Proofs.Ytfcnlfcjcmpkcaa
