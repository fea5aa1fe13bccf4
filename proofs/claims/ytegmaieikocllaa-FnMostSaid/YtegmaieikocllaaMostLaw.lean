/- The greatest number of items of a choice: as the best worth where each is worth 1; and least weights first. No program in sight. -/
import Derived.Test.YtegmaieikocllaaSackLaws
import Derived.Test.YtegmaieikocllaaSorting
namespace Go.Proofs.Ytegmaieikocllaa

/-- The same weights, each worth 1. -/
def ones (zs : List Int) : List Int := zs.mapIdx fun j x => if j % 2 = 0 then x else 1
theorem ones_wt (zs : List Int) (i : Nat) : wt (ones zs) i = wt zs i := by
  unfold wt ones
  rw [List.getElem?_mapIdx]
  cases h : zs[2 * i]? with
  | none => rfl
  | some x => simp
theorem ones_wo {zs : List Int} {n : Nat} (hz : zs.length = 2 * n) (i : Nat) (hi : i < n) : wo (ones zs) i = 1 := by
  unfold wo ones
  rw [List.getElem?_mapIdx, List.getElem?_eq_getElem (by omega)]
  simp
theorem ones_in {zs : List Int} {n : Nat} (hz : zs.length = 2 * n) (h : itemsIn zs n = true) : itemsIn (ones zs) n = true := by
  rw [itemsIn_iff]
  refine ⟨itemsIn_len h, fun i hi => (okItem_iff _ _).2 ?_⟩
  have := itemsIn_get h i hi
  rw [ones_wt, ones_wo hz i hi]; omega
/-- How many of the places below k the choice c has. -/
def pop (c : Nat) : Nat → Nat
  | 0 => 0
  | k + 1 => pop c k + bitAt c k
theorem pop_le (c k : Nat) : pop c k ≤ k := by
  induction k with
  | zero => simp [pop]
  | succ k ih => have := bitAt_01 c k; simp only [pop]; omega
theorem ones_cf {zs : List Int} {n : Nat} (hz : zs.length = 2 * n) (c k : Nat) (hk : k ≤ n) : cf (wo (ones zs)) c k = (pop c k : Int) := by
  induction k with
  | zero => rfl
  | succ k ih => simp only [cf, pop]; rw [ih (by omega), ones_wo hz k (by omega)]; simp
theorem ones_wcf (zs : List Int) (c k : Nat) : cf (wt (ones zs)) c k = cf (wt zs) c k := by
  have : wt (ones zs) = wt zs := funext (ones_wt zs)
  rw [this]

/-- The greatest number of items of a choice that the sack takes. -/
def mostTo (zs : List Int) (n : Nat) (room : Int) (m : Nat) : Int := bestV (ones zs) n room m
theorem mostTo_succ {zs : List Int} {n : Nat} (hz : zs.length = 2 * n) (room : Int) (m : Nat) : mostTo zs n room (m + 1) = if cf (wt zs) m n ≤ room then max (mostTo zs n room m) (pop m n : Int) else mostTo zs n room m := by
  unfold mostTo
  simp only [bestV]
  rw [ones_wcf, ones_cf hz _ _ (Nat.le_refl _)]
def most (zs : List Int) (n : Nat) (room : Int) : Int := mostTo zs n room (2 ^ n)
def mostV (zs : List Int) (n : Nat) (room : Int) : Int := if told zs n room then most zs n room else 0
theorem mostTo_bd {zs : List Int} {n : Nat} (hz : zs.length = 2 * n) (room : Int) (m : Nat) : 0 ≤ mostTo zs n room m ∧ mostTo zs n room m ≤ n := by
  induction m with
  | zero => simp [mostTo, bestV]
  | succ m ih =>
    rw [mostTo_succ hz]
    have := pop_le m n
    split <;> omega

/-- The greatest number of numbers of a list with a sum of at most r. -/
def mx : List Int → Int → Int
  | [], _ => 0
  | x :: t, r => if x ≤ r then max (mx t r) (1 + mx t (r - x)) else mx t r
theorem mx_pos (L : List Int) (r : Int) : 0 ≤ mx L r := by
  induction L generalizing r with
  | nil => exact Int.le_refl _
  | cons x t ih => have h1 := ih r; have h2 := ih (r - x); simp only [mx]; split <;> omega
theorem mx_mono (L : List Int) {r s : Int} (h : r ≤ s) : mx L r ≤ mx L s := by
  induction L generalizing r s with
  | nil => exact Int.le_refl _
  | cons x t ih =>
    have h1 := ih h
    have h2 := ih (r := r - x) (s := s - x) (by omega)
    simp only [mx]
    by_cases hx : x ≤ r
    · rw [if_pos hx, if_pos (by omega)]; omega
    · rw [if_neg hx]; split <;> omega
theorem mx_perm {L M : List Int} (h : L.Perm M) (hL : ∀ x, x ∈ L → 0 ≤ x) : ∀ r, mx L r = mx M r := by
  induction h with
  | nil => intro r; rfl
  | cons x _ ih =>
    intro r
    have ih := ih (fun y hy => hL y (by simp [hy]))
    simp only [mx]; rw [ih, ih]
  | swap x y l =>
    intro r
    have hx := hL x (by simp)
    have hy := hL y (by simp)
    have e : mx l (r - x - y) = mx l (r - y - x) := by congr 1; omega
    simp only [mx]
    rw [e]
    have m1 := mx_mono l (r := r - y) (s := r) (by omega)
    have m2 := mx_mono l (r := r - x) (s := r) (by omega)
    by_cases h1 : x ≤ r <;> by_cases h2 : y ≤ r <;> by_cases h3 : x ≤ r - y <;> by_cases h4 : y ≤ r - x <;> simp only [h1, h2, h3, h4, if_true, if_false] <;> omega
  | trans h1 _ i1 i2 =>
    intro r
    rw [i1 hL, i2 (fun y hy => hL y (h1.mem_iff.2 hy))]

/-- Least first. -/
def lsf : List Int → Int → Int
  | [], _ => 0
  | x :: t, r => if x ≤ r then 1 + lsf t (r - x) else 0
theorem mx_one (L : List Int) (x : Int) (hL : ∀ y, y ∈ L → x ≤ y) (r : Int) : mx L r ≤ 1 + mx L (r - x) := by
  induction L generalizing r with
  | nil => simp [mx]
  | cons y t ih =>
    have hy := hL y (by simp)
    have h1 := ih (fun z hz => hL z (by simp [hz])) r
    have h2 := mx_mono t (r := r - y) (s := r - x) (by omega)
    have h3 := ih (fun z hz => hL z (by simp [hz])) (r - y)
    have e : mx t (r - x - y) = mx t (r - y - x) := by congr 1; omega
    simp only [mx]
    rw [e]
    by_cases a : y ≤ r <;> by_cases b : y ≤ r - x <;> simp only [a, b, if_true, if_false] <;> omega
theorem mx_lsf {L : List Int} (hs : L.Pairwise (fun a b => a ≤ b)) (hp : ∀ x, x ∈ L → 0 < x) (r : Int) : mx L r = lsf L r := by
  induction L generalizing r with
  | nil => rfl
  | cons x t ih =>
    have hst := List.pairwise_cons.1 hs
    have hx := hp x (by simp)
    simp only [mx, lsf]
    by_cases h : x ≤ r
    · rw [if_pos h, if_pos h, ← ih hst.2 (fun y hy => hp y (by simp [hy]))]
      have h1 := mx_one t x hst.1 r
      omega
    · rw [if_neg h, if_neg h]
      have : ∀ M : List Int, (∀ y, y ∈ M → r < y) → mx M r = 0 := by
        intro M hM
        induction M with
        | nil => rfl
        | cons y M ihM =>
          have := hM y (by simp)
          simp only [mx]
          rw [if_neg (by omega)]
          exact ihM fun z hz => hM z (by simp [hz])
      exact this t fun y hy => by have := hst.1 y hy; omega

/-- The weights of n items. -/
def weights (zs : List Int) (n : Nat) : List Int := (List.range n).map (wt zs)
theorem weights_length (zs : List Int) (n : Nat) : (weights zs n).length = n := by simp [weights]
theorem weights_succ (zs : List Int) (n : Nat) : weights zs (n + 1) = weights zs n ++ [wt zs n] := by simp [weights, List.range_succ]
theorem most_mx {zs : List Int} {n : Nat} (hz : zs.length = 2 * n) (h : itemsIn zs n = true) (room : Int) (h0 : 0 ≤ room) : most zs n room = mx (weights zs n) room := by
  have ho := ones_in hz h
  unfold most mostTo
  rw [← frontD_eq ho n (Nat.le_refl _) room h0]
  have : ∀ k, k ≤ n → ∀ r, frontD (ones zs) k r = mx (weights zs k).reverse r := by
    intro k
    induction k with
    | zero => intro _ r; rfl
    | succ k ih =>
      intro hk r
      rw [weights_succ, List.reverse_append]
      simp only [frontD, List.reverse_cons, List.reverse_nil, List.nil_append, List.cons_append, mx]
      rw [ih (by omega), ih (by omega), ones_wt, ones_wo hz k (by omega)]
      split
      · omega
      · rfl
  rw [this n (Nat.le_refl _)]
  refine mx_perm (List.reverse_perm _) (fun x hx => ?_) room
  rw [List.mem_reverse] at hx
  unfold weights at hx
  simp only [List.mem_map, List.mem_range] at hx
  obtain ⟨i, hi, rfl⟩ := hx
  have := itemsIn_get h i hi; omega
theorem most_lsf {zs : List Int} {n : Nat} (hz : zs.length = 2 * n) (h : itemsIn zs n = true) (room : Int) (h0 : 0 ≤ room) : most zs n room = lsf (sorted (weights zs n)) room := by
  have hpos : ∀ x, x ∈ weights zs n → 0 < x := by
    intro x hx
    unfold weights at hx
    simp only [List.mem_map, List.mem_range] at hx
    obtain ⟨i, hi, rfl⟩ := hx
    have := itemsIn_get h i hi; omega
  rw [most_mx hz h room h0, mx_perm (sorted_perm (weights zs n)).symm (fun x hx => by have := hpos x hx; omega)]
  exact mx_lsf (sorted_up _) (fun x hx => hpos x ((sorted_perm _).mem_iff.1 hx)) room

/-- All items are taken just where they fit together. -/
theorem most_all {zs : List Int} {n : Nat} (hz : zs.length = 2 * n) (room : Int) (h0 : 0 ≤ room) : most zs n room = (n : Int) ↔ sumI (wt zs) n ≤ room := by
  have hp := Nat.pow_pos (n := n) (show 0 < 2 by omega)
  have hfull : ∀ c, pop c n = n → cf (wt zs) c n = sumI (wt zs) n := by
    intro c
    have : ∀ k, pop c k = k → cf (wt zs) c k = sumI (wt zs) k := by
      intro k
      induction k with
      | zero => intro _; rfl
      | succ k ih =>
        intro e
        have h1 := pop_le c k
        have h2 := bitAt_01 c k
        simp only [pop] at e
        simp only [cf, sumI]
        rw [ih (by omega), show bitAt c k = 1 by omega]; simp
    exact this n
  constructor
  · intro e
    obtain ⟨h1, h2, _⟩ := bestA_spec (zs := ones zs) (n := n) h0 (2 ^ n)
    rw [ones_wcf] at h1
    rw [ones_cf hz _ _ (Nat.le_refl _)] at h2
    unfold most mostTo at e
    rw [e] at h2
    rw [hfull _ (by omega)] at h1
    exact h1
  · intro e
    have h1 : (pop (2 ^ n - 1) n : Int) ≤ bestV (ones zs) n room (2 ^ n) := by
      rw [← ones_cf hz _ _ (Nat.le_refl _)]
      refine bestV_ge (by omega) ?_
      rw [ones_wcf, cf_full]; exact e
    have h2 : ∀ k, pop (2 ^ k - 1) k = k := by
      intro k
      have h3 := cf_full (fun _ => 1) k
      have h4 : ∀ c j, cf (fun _ => (1 : Int)) c j = (pop c j : Int) := by
        intro c j
        induction j with
        | zero => rfl
        | succ j ih => simp only [cf, pop]; rw [ih]; simp
      have h5 : ∀ j, sumI (fun _ => (1 : Int)) j = (j : Int) := by
        intro j
        induction j with
        | zero => rfl
        | succ j ih => simp only [sumI]; rw [ih]; simp
      rw [h4, h5] at h3
      omega
    rw [h2 n] at h1
    have := (mostTo_bd hz room (2 ^ n)).2
    unfold most
    unfold mostTo at this ⊢
    omega

end Go.Proofs.Ytegmaieikocllaa
