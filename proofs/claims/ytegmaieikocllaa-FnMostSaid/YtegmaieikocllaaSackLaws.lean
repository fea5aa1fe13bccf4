/- Plain facts for the laws over drawn items: no room, all the room, fronts that do not fall, items taken again. No program in sight. -/
import Derived.Test.YtegmaieikocllaaFrontLaw
import Derived.Test.YtegmaieikocllaaAgainLaw
namespace Go.Proofs.Ytegmaieikocllaa

theorem cf_nothing {zs : List Int} {n : Nat} (h : itemsIn zs n = true) (c k : Nat) (hk : k ≤ n) (h0 : cf (wt zs) c k ≤ 0) : cf (wo zs) c k = 0 := by
  induction k with
  | zero => rfl
  | succ k ih =>
    have h1 := wt_bd h c k (by omega)
    have h2 := itemsIn_get h k (by omega)
    simp only [cf, bit_mul] at h0 ⊢
    by_cases hb : bitAt c k = 1
    · rw [if_pos hb] at h0; omega
    · rw [if_neg hb] at h0 ⊢
      rw [ih (by omega) (by omega)]; rfl

theorem best_zero {zs : List Int} {n : Nat} (h : itemsIn zs n = true) (m : Nat) : bestV zs n 0 m = 0 := by
  induction m with
  | zero => rfl
  | succ m ih =>
    simp only [bestV]
    split
    · rename_i hw
      rw [ih, cf_nothing h m n (Nat.le_refl _) hw]; rfl
    · exact ih

/-- The sum of f over the places below k. -/
def sumI (f : Nat → Int) : Nat → Int
  | 0 => 0
  | k + 1 => sumI f k + f k
theorem cf_full (f : Nat → Int) (k : Nat) : cf f (2 ^ k - 1) k = sumI f k := by
  induction k with
  | zero => rfl
  | succ k ih =>
    have hp := Nat.pow_pos (n := k) (show 0 < 2 by omega)
    have h1 : 2 ^ (k + 1) - 1 = 2 ^ k + (2 ^ k - 1) := by rw [Nat.pow_succ]; omega
    rw [h1, cf_top f _ k (by omega), ih]; rfl
theorem cf_le_sum {f : Nat → Int} {n : Nat} (h : ∀ i, i < n → 0 ≤ f i) (c k : Nat) (hk : k ≤ n) : cf f c k ≤ sumI f k := by
  induction k with
  | zero => exact Int.le_refl _
  | succ k ih =>
    have h1 := ih (by omega)
    have h2 := h k (by omega)
    simp only [cf, sumI, bit_mul]
    split <;> omega
theorem sumI_bd {f : Nat → Int} {n : Nat} {B : Int} (h : ∀ i, i < n → 0 ≤ f i ∧ f i ≤ B) (k : Nat) (hk : k ≤ n) : 0 ≤ sumI f k ∧ sumI f k ≤ B * k := by
  rw [← cf_full]; exact cf_bd h _ k hk

/-- All of it fits. -/
theorem best_all {zs : List Int} {n : Nat} (h : itemsIn zs n = true) : bestV zs n 600 (2 ^ n) = sumI (wo zs) n := by
  have hn := itemsIn_len h
  have hp := Nat.pow_pos (n := n) (show 0 < 2 by omega)
  have h1 : sumI (wo zs) n ≤ bestV zs n 600 (2 ^ n) := by
    rw [← cf_full]
    refine bestV_ge (by omega) ?_
    have := wt_bd h (2 ^ n - 1) n (Nat.le_refl _)
    omega
  have h2 : ∀ m, bestV zs n 600 m ≤ sumI (wo zs) n := by
    intro m
    induction m with
    | zero => simp only [bestV]; exact (sumI_bd (f := wo zs) (n := n) (B := 1000) (fun i hi => by have := itemsIn_get h i hi; omega) n (Nat.le_refl _)).1
    | succ m ih =>
      have := cf_le_sum (f := wo zs) (n := n) (fun i hi => (itemsIn_get h i hi).2.2.1) m n (Nat.le_refl _)
      simp only [bestV]
      split <;> omega
  exact Int.le_antisymm (h2 _) h1

/-- More room, no less worth. -/
theorem best_mono (zs : List Int) (n : Nat) {r s : Int} (hrs : r ≤ s) (m : Nat) : bestV zs n r m ≤ bestV zs n s m := by
  induction m with
  | zero => exact Int.le_refl _
  | succ m ih =>
    simp only [bestV]
    by_cases h1 : cf (wt zs) m n ≤ r
    · rw [if_pos h1, if_pos (by omega)]; omega
    · rw [if_neg h1]; split <;> omega

theorem aB_ge {zs : List Int} {T : Nat → Int} {r k j : Nat} (hj : j < k) (hw : wt zs j ≤ (r : Int)) : wo zs j + T (r - (wt zs j).toNat) ≤ aB zs T r k := by
  induction k with
  | zero => omega
  | succ k ih =>
    simp only [aB]
    rcases Nat.lt_succ_iff_lt_or_eq.1 hj with h | rfl
    · have := ih h; split <;> omega
    · rw [if_pos hw]; omega
theorem aB_is (zs : List Int) (T : Nat → Int) (r k : Nat) : aB zs T r k = 0 ∨ ∃ j, j < k ∧ wt zs j ≤ (r : Int) ∧ aB zs T r k = wo zs j + T (r - (wt zs j).toNat) := by
  induction k with
  | zero => exact .inl rfl
  | succ k ih =>
    simp only [aB]
    by_cases hw : wt zs k ≤ (r : Int)
    · rw [if_pos hw]
      rcases Int.le_total (aB zs T r k) (wo zs k + T (r - (wt zs k).toNat)) with h | h
      · exact .inr ⟨k, by omega, hw, by omega⟩
      · rcases ih with e | ⟨j, h1, h2, h3⟩
        · exact .inl (by omega)
        · exact .inr ⟨j, by omega, h2, by omega⟩
    · rw [if_neg hw]
      rcases ih with e | ⟨j, h1, h2, h3⟩
      · exact .inl e
      · exact .inr ⟨j, by omega, h2, h3⟩
theorem aV_ge {zs : List Int} {n : Nat} (h : itemsIn zs n = true) {r j : Nat} (hj : j < n) (hw : wt zs j ≤ (r : Int)) : wo zs j + aV zs n (r - (wt zs j).toNat) ≤ aV zs n r := by
  rw [aV_eq h r]; exact aB_ge hj hw
theorem aV_le {zs : List Int} {n : Nat} (h : itemsIn zs n = true) {r s : Nat} (hrs : r ≤ s) : aV zs n r ≤ aV zs n s := by
  induction s with
  | zero => rw [show r = 0 by omega]; exact Int.le_refl _
  | succ s ih =>
    rcases Nat.lt_or_eq_of_le hrs with h1 | rfl
    · have := ih (by omega); have := aV_mono h s; omega
    · exact Int.le_refl _

theorem again_choice {zs : List Int} {n : Nat} (h : itemsIn zs n = true) (c k : Nat) (hk : k ≤ n) (r : Nat) (hw : cf (wt zs) c k ≤ (r : Int)) : cf (wo zs) c k ≤ aV zs n r := by
  induction k generalizing r with
  | zero => exact (aV_bd h r).1
  | succ k ih =>
    have h1 := wt_bd h c k (by omega)
    have h2 := itemsIn_get h k (by omega)
    simp only [cf, bit_mul] at hw ⊢
    by_cases hb : bitAt c k = 1
    · rw [if_pos hb] at hw ⊢
      have h3 := ih (by omega) (r - (wt zs k).toNat) (by omega)
      have h4 := aV_ge h (r := r) (j := k) (by omega) (by omega)
      omega
    · rw [if_neg hb] at hw ⊢
      have := ih (by omega) r (by omega)
      omega
/-- Items that may be taken again are worth no less. -/
theorem again_best {zs : List Int} {n : Nat} (h : itemsIn zs n = true) (r m : Nat) : bestV zs n (r : Int) m ≤ aV zs n r := by
  induction m with
  | zero => exact (aV_bd h r).1
  | succ m ih =>
    simp only [bestV]
    split
    · rename_i hw
      have := again_choice h m n (Nat.le_refl _) r hw
      omega
    · exact ih
theorem again_add {zs : List Int} {n : Nat} (h : itemsIn zs n = true) (r s : Nat) : aV zs n r + aV zs n s ≤ aV zs n (r + s) := by
  induction r using Nat.strongRecOn with
  | ind r ih =>
    rcases aB_is zs (aV zs n) r n with e | ⟨j, hj, hw, e⟩
    · rw [← aV_eq h r] at e
      have := aV_le h (r := s) (s := r + s) (by omega)
      omega
    · rw [← aV_eq h r] at e
      have h2 := itemsIn_get h j hj
      have h3 := ih (r - (wt zs j).toNat) (by omega)
      have h4 := aV_ge h (r := r + s) hj (by omega)
      rw [show r + s - (wt zs j).toNat = r - (wt zs j).toNat + s by omega] at h4
      omega
theorem again_twice {zs : List Int} {n : Nat} (h : itemsIn zs n = true) (r : Nat) : 2 * aV zs n (r / 2) ≤ aV zs n r := by
  have h1 := again_add h (r / 2) (r / 2)
  have h2 := aV_le h (r := r / 2 + r / 2) (s := r) (by omega)
  omega

end Go.Proofs.Ytegmaieikocllaa
