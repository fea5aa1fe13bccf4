/- Plain facts on the places of items that another one leaves no need of: they ascend, and one item at least is not among them. -/
import Derived.Test.YtegmaieikocllaaWorse
namespace Go.Proofs.Ytegmaieikocllaa

/-- Less for a better item. -/
def rank (zs : List Int) (i : Nat) : Int := 16016 * wt zs i + 16 * (1000 - wo zs i) + (i : Int)

theorem anyW_has {zs : List Int} {x y p : Int} {k : Nat} (h : anyW zs x y p k = true) : ∃ j, j < k ∧ worseB x y p (wt zs j) (wo zs j) j = true := by
  induction k with
  | zero => simp [anyW] at h
  | succ k ih =>
    simp only [anyW, Bool.or_eq_true] at h
    rcases h with h | h
    · obtain ⟨j, hj, e⟩ := ih h; exact ⟨j, by omega, e⟩
    · exact ⟨k, by omega, h⟩

theorem worse_rank {zs : List Int} {n i : Nat} (h : itemsIn zs n = true) (hw : anyW zs (wt zs i) (wo zs i) i n = true) : ∃ j, j < n ∧ rank zs j < rank zs i := by
  obtain ⟨j, hj, e⟩ := anyW_has hw
  refine ⟨j, hj, ?_⟩
  have hn := itemsIn_len h
  unfold worseB at e
  simp only [decide_eq_true_eq] at e
  unfold rank
  omega

theorem least_rank (zs : List Int) (n : Nat) (hn : 0 < n) : ∃ i, i < n ∧ ∀ j, j < n → rank zs i ≤ rank zs j := by
  induction n with
  | zero => omega
  | succ n ih =>
    rcases Nat.eq_zero_or_pos n with rfl | hp
    · exact ⟨0, by omega, fun j hj => by rw [show j = 0 by omega]; exact Int.le_refl _⟩
    · obtain ⟨i, hi, hm⟩ := ih hp
      rcases Int.le_total (rank zs i) (rank zs n) with e | e
      · refine ⟨i, by omega, fun j hj => ?_⟩
        rcases Nat.lt_succ_iff_lt_or_eq.1 hj with h | rfl
        · exact hm j h
        · exact e
      · refine ⟨n, by omega, fun j hj => ?_⟩
        rcases Nat.lt_succ_iff_lt_or_eq.1 hj with h | rfl
        · have := hm j h; omega
        · exact Int.le_refl _

theorem worseTo_lt {zs : List Int} {n i : Nat} (hn : anyW zs (wt zs i) (wo zs i) i n = false) (k : Nat) (hk : i < k) : (worseTo zs n k).length < k := by
  induction k with
  | zero => omega
  | succ k ih =>
    simp only [worseTo]
    rcases Nat.lt_succ_iff_lt_or_eq.1 hk with h | rfl
    · have := ih h
      split
      · simp; omega
      · omega
    · rw [if_neg (by simp [hn])]
      have := worseTo_le zs n i; omega

theorem worse_some {zs : List Int} {n : Nat} (h : itemsIn zs n = true) (hn : 0 < n) : (worseTo zs n n).length < n := by
  obtain ⟨i, hi, hm⟩ := least_rank zs n hn
  refine worseTo_lt (i := i) ?_ n hi
  cases e : anyW zs (wt zs i) (wo zs i) i n with
  | false => rfl
  | true =>
    obtain ⟨j, hj, hl⟩ := worse_rank h e
    have := hm j hj; omega

theorem worseTo_bd (zs : List Int) (n k : Nat) : ∀ i, i < (worseTo zs n k).length → 0 ≤ (worseTo zs n k)[i]?.getD 0 ∧ (worseTo zs n k)[i]?.getD 0 < (k : Int) := by
  induction k with
  | zero => intro i hi; simp [worseTo] at hi
  | succ k ih =>
    intro i hi
    simp only [worseTo] at hi ⊢
    split at hi
    · rename_i hc
      rw [if_pos hc]
      rw [List.length_append] at hi
      simp at hi
      rcases Nat.lt_succ_iff_lt_or_eq.1 hi with h | rfl
      · rw [List.getElem?_append_left h]; have := ih i h; omega
      · simp; omega
    · rename_i hc
      rw [if_neg hc]
      have := ih i hi; omega

theorem worseTo_up (zs : List Int) (n k : Nat) : ∀ i, i + 1 < (worseTo zs n k).length → (worseTo zs n k)[i]?.getD 0 < (worseTo zs n k)[i + 1]?.getD 0 := by
  induction k with
  | zero => intro i hi; simp [worseTo] at hi
  | succ k ih =>
    intro i hi
    simp only [worseTo] at hi ⊢
    split at hi
    · rename_i hc
      rw [if_pos hc]
      rw [List.length_append] at hi
      simp at hi
      rw [List.getElem?_append_left (by omega)]
      rcases Nat.lt_or_eq_of_le (show i + 1 ≤ (worseTo zs n k).length by omega) with h | e
      · rw [List.getElem?_append_left h]; exact ih i h
      · have := worseTo_bd zs n k i (by omega)
        rw [e]; simp; omega
    · rename_i hc
      rw [if_neg hc]
      exact ih i hi

end Go.Proofs.Ytegmaieikocllaa
