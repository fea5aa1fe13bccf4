/- The rest that taking differences of the two greatest leaves. No program in sight. -/
import Derived.Test.YtbechpbfefdmgaaSorting
namespace Go.Proofs.Ytbechpbfefdmgaa

/-- The two greatest of an ascending list give way to their difference. -/
def diffS (S : List Int) : List Int := sorted (S.take (S.length - 2) ++ [S[S.length - 1]?.getD 0 - S[S.length - 2]?.getD 0])
def diffTo (S : List Int) : Nat → List Int
  | 0 => S
  | k + 1 => diffS (diffTo S k)
theorem diffS_len {S : List Int} (h : 2 ≤ S.length) : (diffS S).length = S.length - 1 := by
  unfold diffS; rw [sorted_length]; simp; omega
theorem diffTo_len {S : List Int} (k : Nat) (h : k + 1 ≤ S.length) : (diffTo S k).length = S.length - k := by
  induction k with
  | zero => rfl
  | succ k ih =>
    have := ih (by omega)
    simp only [diffTo]
    rw [diffS_len (by omega), this]; omega
def Fit (S : List Int) : Prop := S.Pairwise (fun a b => a ≤ b) ∧ ∀ x, x ∈ S → 0 ≤ x ∧ x ≤ 60
theorem Fit.at {S : List Int} (h : Fit S) (i : Nat) : 0 ≤ S[i]?.getD 0 ∧ S[i]?.getD 0 ≤ 60 := by
  rcases Nat.lt_or_ge i S.length with hi | hi
  · rw [List.getElem?_eq_getElem hi]
    exact h.2 _ (List.getElem_mem hi)
  · rw [List.getElem?_eq_none hi]; simp
theorem Fit.le {S : List Int} (h : Fit S) (i j : Nat) (hij : i < j) (hj : j < S.length) : S[i]?.getD 0 ≤ S[j]?.getD 0 := by
  have := List.pairwise_iff_getElem.1 h.1 i j (by omega) hj hij
  rwa [List.getElem?_eq_getElem (by omega), List.getElem?_eq_getElem hj]
theorem Fit.step {S : List Int} (h : Fit S) (hl : 2 ≤ S.length) : Fit (diffS S) := by
  refine ⟨sorted_up _, fun x hx => ?_⟩
  have hm := (sorted_perm _).mem_iff.1 hx
  rcases List.mem_append.1 hm with h1 | h1
  · exact h.2 x (List.mem_of_mem_take h1)
  · rw [List.mem_singleton] at h1
    have a := h.at (S.length - 1)
    have b := h.at (S.length - 2)
    have := h.le (S.length - 2) (S.length - 1) (by omega) (by omega)
    omega
theorem diffTo_fit {S : List Int} (h : Fit S) (k : Nat) (hk : k + 1 ≤ S.length) : Fit (diffTo S k) := by
  induction k with
  | zero => exact h
  | succ k ih =>
    have := diffTo_len (S := S) k (by omega)
    exact (ih (by omega)).step (by omega)
theorem sorted_fit {zs : List Int} (h : ∀ x, x ∈ zs → 0 ≤ x ∧ x ≤ 60) : Fit (sorted zs) :=
  ⟨sorted_up _, fun x hx => h x ((sorted_perm _).mem_iff.1 hx)⟩
/-- The same step on the list that falls. -/
theorem diff_rev (S : List Int) (h : 2 ≤ S.length) : fallen (S.reverse.drop 2 ++ [S.reverse[0]?.getD 0 - S.reverse[1]?.getD 0]) = (diffS S).reverse := by
  unfold diffS
  rw [fallen_rev, List.drop_reverse, List.getElem?_reverse (by omega), List.getElem?_reverse (by omega)]
  congr 1
  refine sorted_congr ?_
  exact (List.reverse_perm _).append_right _

end Go.Proofs.Ytbechpbfefdmgaa
