/- Plain facts for the laws over drawn lists of numbers: counts of permuted lists, lists whose sums lie apart, gaps. No program in sight. -/
import Derived.Test.YtbechpbfefdmgaaSorting
namespace Go.Proofs.Ytbechpbfefdmgaa

/-- The counts of a list, from its head on. -/
def cntL : List Int → Int → Nat
  | [], v => if v = 0 then 1 else 0
  | x :: t, v => cntL t v + cntL t (v - x)
theorem cntL_perm {L M : List Int} (h : L.Perm M) : ∀ v, cntL L v = cntL M v := by
  induction h with
  | nil => intro v; rfl
  | cons x _ ih => intro v; simp only [cntL]; rw [ih, ih]
  | swap x y l => intro v; simp only [cntL]; rw [show v - x - y = v - y - x by omega]; omega
  | trans _ _ h1 h2 => intro v; rw [h1, h2]
theorem cnt_cntL (zs : List Int) (k : Nat) (hk : k ≤ zs.length) (v : Int) : cnt zs k v = cntL (zs.take k).reverse v := by
  induction k generalizing v with
  | zero => simp [cnt, cntL]
  | succ k ih =>
    have e : zs[k]?.getD 0 = zs[k]'(by omega) := by simp [show k < zs.length by omega]
    simp only [cnt]
    rw [ih (by omega), ih (by omega), e, List.take_succ_eq_append_getElem (by omega), List.reverse_append]
    rfl
theorem cnt_perm {xs ys : List Int} (h : xs.Perm ys) (v : Int) : cnt xs xs.length v = cnt ys ys.length v := by
  rw [cnt_cntL xs _ (Nat.le_refl _), cnt_cntL ys _ (Nat.le_refl _), List.take_length, List.take_length]
  exact cntL_perm (((List.reverse_perm xs).trans h).trans (List.reverse_perm ys).symm) v
def totL : List Int → Int
  | [] => 0
  | x :: t => totL t + x
theorem totL_perm {L M : List Int} (h : L.Perm M) : totL L = totL M := by
  induction h with
  | nil => rfl
  | cons x _ ih => simp only [totL]; rw [ih]
  | swap x y l => simp only [totL]; omega
  | trans _ _ h1 h2 => rw [h1, h2]
theorem tot_totL (zs : List Int) (k : Nat) (hk : k ≤ zs.length) : tot zs k = totL (zs.take k).reverse := by
  induction k with
  | zero => rfl
  | succ k ih =>
    have e : zs[k]?.getD 0 = zs[k]'(by omega) := by simp [show k < zs.length by omega]
    simp only [tot]
    rw [ih (by omega), e, List.take_succ_eq_append_getElem (by omega), List.reverse_append]
    rfl
theorem tot_perm {xs ys : List Int} (h : xs.Perm ys) : tot xs xs.length = tot ys ys.length := by
  rw [tot_totL xs _ (Nat.le_refl _), tot_totL ys _ (Nat.le_refl _), List.take_length, List.take_length]
  exact totL_perm (((List.reverse_perm xs).trans h).trans (List.reverse_perm ys).symm)
theorem counts_perm {xs ys : List Int} (h : xs.Perm ys) : counts xs = counts ys := by
  unfold counts countsTo
  rw [tot_perm h]
  apply List.map_congr_left
  intro v _
  rw [cnt_perm h]

/-- Where each is greater than the sum of those ahead, each sum is met once at most. -/
theorem cnt_apart {zs : List Int} (h : isIn zs = true) (k : Nat) (hg : ∀ j, j < k → tot zs j < zs[j]?.getD 0) (v : Int) : cnt zs k v ≤ 1 := by
  induction k generalizing v with
  | zero => simp only [cnt]; split <;> omega
  | succ k ih =>
    have h1 := ih (fun j hj => hg j (by omega)) v
    have h2 := ih (fun j hj => hg j (by omega)) (v - zs[k]?.getD 0)
    have h3 := hg k (by omega)
    simp only [cnt]
    by_cases hv : v ≤ tot zs k
    · have := cnt_out h k (v - zs[k]?.getD 0) (.inl (by omega)); omega
    · have := cnt_out h k v (.inr (by omega)); omega
theorem grown_up {zs : List Int} (h : isIn zs = true) (hg : ∀ j, j < zs.length → tot zs j < zs[j]?.getD 0) : zs.Pairwise (fun a b => a ≤ b) := by
  have hle : ∀ k j, j < k → zs[j]?.getD 0 ≤ tot zs k := by
    intro k
    induction k with
    | zero => intro j hj; omega
    | succ k ih =>
      intro j hj
      have h0 := getD_bd h k
      simp only [tot]
      rcases Nat.lt_succ_iff_lt_or_eq.1 hj with h1 | rfl
      · have := ih j h1; omega
      · have := (tot_bd h j).1; omega
  rw [List.pairwise_iff_getElem]
  intro i j hi hj hij
  have h1 := hle j i hij
  have h2 := hg j hj
  rw [List.getElem?_eq_getElem hi] at h1
  rw [List.getElem?_eq_getElem hj] at h2
  simp only [Option.getD_some] at h1 h2
  omega

/-- A sum that is met and is not nothing loses one of the numbers: what is left is met too. -/
theorem cnt_less {zs : List Int} (k : Nat) (v : Int) (hv : 0 < v) (hc : 0 < cnt zs k v) : ∃ j, j < k ∧ 0 < cnt zs k (v - zs[j]?.getD 0) := by
  induction k generalizing v with
  | zero => simp only [cnt] at hc; rw [if_neg (by omega)] at hc; omega
  | succ k ih =>
    simp only [cnt] at hc
    rcases Nat.eq_zero_or_pos (cnt zs k v) with e | e
    · exact ⟨k, by omega, by simp only [cnt]; omega⟩
    · obtain ⟨j, hj, h1⟩ := ih v hv e
      exact ⟨j, by omega, by simp only [cnt]; omega⟩

/-- The greatest of the first k numbers, or 0. -/
def grt (zs : List Int) : Nat → Int
  | 0 => 0
  | k + 1 => max (grt zs k) (zs[k]?.getD 0)
theorem grt_ge (zs : List Int) (k j : Nat) (hj : j < k) : zs[j]?.getD 0 ≤ grt zs k := by
  induction k with
  | zero => omega
  | succ k ih =>
    simp only [grt]
    rcases Nat.lt_succ_iff_lt_or_eq.1 hj with h | rfl
    · have := ih h; omega
    · omega
theorem grt_pos (zs : List Int) (k : Nat) : 0 ≤ grt zs k := by
  induction k with
  | zero => exact Int.le_refl _
  | succ k ih => simp only [grt]; omega

end Go.Proofs.Ytbechpbfefdmgaa
