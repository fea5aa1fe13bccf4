/- Sorting by insertion: what the program's and the reference's sorts both make. No program in sight. -/
import Derived.Test.YtbechpbfefdmgaaSums
import Derived.Sort.Defs
namespace Go.Proofs.Ytbechpbfefdmgaa

/-- Where x goes among the first k: behind the last one that p does not send behind it. -/
def cutP (p : Int → Bool) (L : List Int) : Nat → Nat
  | 0 => 0
  | k + 1 => if p (L[k]?.getD 0) then cutP p L k else k + 1
def insP (p : Int → Bool) (x : Int) (L : List Int) : List Int := L.take (cutP p L L.length) ++ x :: L.drop (cutP p L L.length)
/-- The first k numbers, put in one by one; lt x y: x goes ahead of y. -/
def insTo (lt : Int → Int → Bool) (zs : List Int) : Nat → List Int
  | 0 => []
  | k + 1 => insP (lt (zs[k]?.getD 0)) (zs[k]?.getD 0) (insTo lt zs k)

theorem cutP_le (p : Int → Bool) (L : List Int) (k : Nat) : cutP p L k ≤ k := by
  induction k with
  | zero => exact Nat.le_refl _
  | succ k ih => simp only [cutP]; split <;> omega
theorem cutP_app (p : Int → Bool) (L M : List Int) (k : Nat) (hk : k ≤ L.length) : cutP p (L ++ M) k = cutP p L k := by
  induction k with
  | zero => rfl
  | succ k ih => simp only [cutP]; rw [List.getElem?_append_left (by omega), ih (by omega)]
theorem cutP_above (p : Int → Bool) (L : List Int) (k j : Nat) (h1 : cutP p L k ≤ j) (h2 : j < k) : p (L[j]?.getD 0) = true := by
  induction k with
  | zero => omega
  | succ k ih =>
    simp only [cutP] at h1
    split at h1
    · rename_i hp
      rcases Nat.lt_succ_iff_lt_or_eq.1 h2 with h | rfl
      · exact ih h1 h
      · exact hp
    · omega
theorem cutP_below (p : Int → Bool) (L : List Int) (k m : Nat) (h : cutP p L k = m + 1) : p (L[m]?.getD 0) = false := by
  induction k with
  | zero => simp [cutP] at h
  | succ k ih =>
    simp only [cutP] at h
    split at h
    · exact ih h
    · rename_i hp
      obtain rfl : k = m := by omega
      simpa using hp
theorem insP_length (p : Int → Bool) (x : Int) (L : List Int) : (insP p x L).length = L.length + 1 := by
  have := cutP_le p L L.length
  unfold insP
  simp; omega
theorem insTo_length (lt : Int → Int → Bool) (zs : List Int) (k : Nat) : (insTo lt zs k).length = k := by
  induction k with
  | zero => rfl
  | succ k ih => simp only [insTo]; rw [insP_length, ih]
theorem insP_perm (p : Int → Bool) (x : Int) (L : List Int) : (insP p x L).Perm (x :: L) := by
  unfold insP
  refine List.perm_middle.trans ?_
  rw [List.take_append_drop]
theorem insTo_perm (lt : Int → Int → Bool) (zs : List Int) (k : Nat) (hk : k ≤ zs.length) : (insTo lt zs k).Perm (zs.take k) := by
  induction k with
  | zero => simp [insTo]
  | succ k ih =>
    simp only [insTo]
    refine (insP_perm _ _ _).trans ?_
    rw [List.take_succ_eq_append_getElem (by omega)]
    have e : zs[k]?.getD 0 = zs[k] := by simp [show k < zs.length by omega]
    rw [e]
    refine ((ih (by omega)).cons _).trans ?_
    exact (List.perm_append_singleton _ _).symm
theorem insTo_all_perm (lt : Int → Int → Bool) (zs : List Int) : (insTo lt zs zs.length).Perm zs := by
  have := insTo_perm lt zs zs.length (Nat.le_refl _)
  rwa [List.take_length] at this

theorem insP_nil (p : Int → Bool) (x : Int) : insP p x [] = [x] := by simp [insP, cutP]
theorem insP_snoc (p : Int → Bool) (x y : Int) (L : List Int) : insP p x (L ++ [y]) = if p y then insP p x L ++ [y] else L ++ [y, x] := by
  unfold insP
  have e : (L ++ [y]).length = L.length + 1 := by simp
  rw [e]
  simp only [cutP]
  rw [List.getElem?_append_right (Nat.le_refl _), Nat.sub_self]
  simp only [List.getElem?_cons_zero, Option.getD_some]
  by_cases hp : p y = true
  · rw [if_pos hp, if_pos hp, cutP_app _ _ _ _ (Nat.le_refl _)]
    have := cutP_le p L L.length
    rw [List.take_append_of_le_length this, List.drop_append_of_le_length this]
    simp
  · rw [if_neg hp, if_neg hp, List.take_of_length_le (by simp), List.drop_of_length_le (by simp)]
    simp

/-- A list of which each stands in the relation to all behind it stays so. -/
theorem insP_pairwise {R : Int → Int → Prop} {p : Int → Bool} {x : Int} {L : List Int} (hL : L.Pairwise R) (h1 : ∀ y, y ∈ L → p y = true → R x y) (h2 : ∀ y, y ∈ L → p y = false → R y x) (ht : ∀ a b, a ∈ L → b ∈ L → R a b → R b x → R a x) : (insP p x L).Pairwise R := by
  have hc := cutP_le p L L.length
  obtain ⟨k, hk⟩ : ∃ k, cutP p L L.length = k := ⟨_, rfl⟩
  unfold insP
  have hab := cutP_above p L L.length
  have hbl := cutP_below p L L.length
  rw [hk] at hc hab hbl ⊢
  have hLs := hL
  rw [← List.take_append_drop k L, List.pairwise_append] at hLs
  obtain ⟨p1, p2, p3⟩ := hLs
  have hd : ∀ b, b ∈ L.drop k → R x b := by
    intro b hb
    obtain ⟨j, hj, rfl⟩ := List.getElem_of_mem hb
    rw [List.length_drop] at hj
    rw [List.getElem_drop]
    have := hab (k + j) (by omega) (by omega)
    rw [List.getElem?_eq_getElem (by omega)] at this
    exact h1 _ (List.getElem_mem _) this
  have hu : ∀ a, a ∈ L.take k → R a x := by
    intro a ha
    obtain ⟨m, rfl⟩ : ∃ m, k = m + 1 := by
      cases k with
      | zero => simp at ha
      | succ m => exact ⟨m, rfl⟩
    have hm := hbl m rfl
    rw [List.getElem?_eq_getElem (by omega)] at hm
    have hmx := h2 _ (List.getElem_mem (by omega)) hm
    obtain ⟨j, hj, rfl⟩ := List.getElem_of_mem ha
    rw [List.length_take] at hj
    rw [List.getElem_take]
    rcases Nat.lt_or_eq_of_le (show j ≤ m by omega) with h | rfl
    · exact ht _ _ (List.getElem_mem _) (List.getElem_mem _) (List.pairwise_iff_getElem.1 hL j m (by omega) (by omega) h) hmx
    · exact hmx
  rw [List.pairwise_append]
  refine ⟨p1, List.pairwise_cons.2 ⟨hd, p2⟩, fun a ha b hb => ?_⟩
  rcases List.mem_cons.1 hb with rfl | hb
  · exact hu a ha
  · exact p3 a ha b hb

/-- The program's insertion sort, in place, makes the same list. -/
theorem insInner_eq (lt : Int → Int → Bool) (x : Int) (m : Nat) : ∀ (L : List Int), L.length = m → ∀ (R : List Int) (d : Array Int), d.toList = L ++ x :: R → (Sort.insInner lt 0 m d).toList = insP (lt x) x L ++ R := by
  induction m with
  | zero =>
    intro L hL R d hd
    obtain rfl := List.eq_nil_of_length_eq_zero hL
    simpa [Sort.insInner, insP_nil] using hd
  | succ j ih =>
    intro L hL R d hd
    obtain ⟨L', y, rfl⟩ : ∃ L' y, L = L' ++ [y] := by
      refine ⟨L.dropLast, L.getLast (by rintro rfl; simp at hL), (List.dropLast_concat_getLast _).symm⟩
    have hl' : L'.length = j := by simpa using hL
    have hd' : d = (L' ++ y :: x :: R).toArray := by rw [← Array.toArray_toList (xs := d), hd]; simp
    subst hd'
    have e1 : (L' ++ y :: x :: R).toArray[j + 1]! = x := by simp [← hl']
    have e2 : (L' ++ y :: x :: R).toArray[j]! = y := by simp [← hl']
    simp only [Sort.insInner]
    rw [e1, e2, insP_snoc]
    by_cases hxy : lt x y = true
    · rw [if_pos (by simp [hxy]), if_pos hxy]
      have hs : (Sort.swp (L' ++ y :: x :: R).toArray (j + 1) j).toList = L' ++ x :: (y :: R) := by
        unfold Sort.swp
        rw [e1, e2]
        simp [← hl']
      rw [ih L' hl' (y :: R) _ hs, List.append_assoc]; rfl
    · rw [if_neg (by simp [hxy]), if_neg hxy]
      simp

theorem insOuter_eq (lt : Int → Int → Bool) (zs : List Int) (g : Nat) : ∀ (i : Nat) (d : Array Int), zs.length - i = g → i ≤ zs.length → d.toList = insTo lt zs i ++ zs.drop i → (Sort.insOuter lt 0 zs.length i d).toList = insTo lt zs zs.length := by
  induction g with
  | zero =>
    intro i d hg hi hd
    obtain rfl : i = zs.length := by omega
    rw [Sort.insOuter, if_neg (Nat.lt_irrefl _), hd]; simp
  | succ g ih =>
    intro i d hg hi hd
    rw [Sort.insOuter, if_pos (by omega)]
    refine ih (i + 1) _ (by omega) (by omega) ?_
    rw [List.drop_eq_getElem_cons (by omega)] at hd
    rw [insInner_eq lt (zs[i]'(by omega)) i (insTo lt zs i) (insTo_length lt zs i) _ d hd]
    have e : zs[i]?.getD 0 = zs[i]'(by omega) := by simp [show i < zs.length by omega]
    simp only [insTo]
    rw [e]

theorem insertionSort_eq (lt : Int → Int → Bool) (zs : List Int) : (Sort.insertionSort lt zs.toArray 0 zs.length).toList = insTo lt zs zs.length := by
  unfold Sort.insertionSort
  cases zs with
  | nil => simp [Sort.insOuter, insTo]
  | cons z t =>
    refine insOuter_eq lt (z :: t) _ (0 + 1) _ rfl (by simp) ?_
    simp [insTo, insP_nil]

/-- In ascending order. -/
def sorted (zs : List Int) : List Int := insTo (fun x y => decide (x < y)) zs zs.length
theorem sorted_perm (zs : List Int) : (sorted zs).Perm zs := insTo_all_perm _ zs
theorem sorted_length (zs : List Int) : (sorted zs).length = zs.length := insTo_length _ _ _
theorem sorted_up (zs : List Int) : (sorted zs).Pairwise (fun a b => a ≤ b) := by
  unfold sorted
  have : ∀ k, (insTo (fun x y => decide (x < y)) zs k).Pairwise (fun a b => a ≤ b) := by
    intro k
    induction k with
    | zero => exact List.Pairwise.nil
    | succ k ih =>
      simp only [insTo]
      refine insP_pairwise ih (fun y _ h => ?_) (fun y _ h => ?_) (fun a b _ _ h1 h2 => ?_)
      · have := of_decide_eq_true h; omega
      · have := of_decide_eq_false h; omega
      · omega
  exact this _
/-- In descending order. -/
def fallen (zs : List Int) : List Int := insTo (fun x y => decide (y < x)) zs zs.length
theorem fallen_perm (zs : List Int) : (fallen zs).Perm zs := insTo_all_perm _ zs
theorem fallen_length (zs : List Int) : (fallen zs).length = zs.length := insTo_length _ _ _
theorem fallen_down (zs : List Int) : (fallen zs).Pairwise (fun a b => b ≤ a) := by
  unfold fallen
  have : ∀ k, (insTo (fun x y => decide (y < x)) zs k).Pairwise (fun a b => b ≤ a) := by
    intro k
    induction k with
    | zero => exact List.Pairwise.nil
    | succ k ih =>
      simp only [insTo]
      refine insP_pairwise ih (fun y _ h => ?_) (fun y _ h => ?_) (fun a b _ _ h1 h2 => ?_)
      · have := of_decide_eq_true h; omega
      · have := of_decide_eq_false h; omega
      · omega
  exact this _
theorem up_unique {xs ys : List Int} (hx : xs.Pairwise (fun a b => a ≤ b)) (hy : ys.Pairwise (fun a b => a ≤ b)) (h : xs.Perm ys) : xs = ys :=
  List.Perm.eq_of_pairwise (fun _ _ _ _ h1 h2 => Int.le_antisymm h1 h2) hx hy h
theorem sorted_merge (zs : List Int) : zs.mergeSort (fun x y => decide (x ≤ y)) = sorted zs := by
  refine up_unique ?_ (sorted_up zs) ((List.mergeSort_perm _ _).trans (sorted_perm zs).symm)
  have := List.pairwise_mergeSort (le := fun x y : Int => decide (x ≤ y)) (fun a b c h1 h2 => by simp at h1 h2 ⊢; omega) (fun a b => by simp; omega) zs
  simpa using this
theorem sorted_congr {xs ys : List Int} (h : xs.Perm ys) : sorted xs = sorted ys :=
  up_unique (sorted_up _) (sorted_up _) (((sorted_perm xs).trans h).trans (sorted_perm ys).symm)
theorem sorted_id {xs : List Int} (h : xs.Pairwise (fun a b => a ≤ b)) : sorted xs = xs := up_unique (sorted_up _) h (sorted_perm xs)
theorem fallen_rev (zs : List Int) : fallen zs = (sorted zs).reverse := by
  have h1 : (fallen zs).reverse = sorted zs := by
    refine up_unique ?_ (sorted_up zs) (((List.reverse_perm _).trans (fallen_perm zs)).trans (sorted_perm zs).symm)
    rw [List.pairwise_reverse]
    exact fallen_down zs
  rw [← h1, List.reverse_reverse]
theorem isIn_perm {xs ys : List Int} (h : xs.Perm ys) : isIn xs = isIn ys := by
  unfold isIn
  rw [h.length_eq]
  congr 1
  rw [Bool.eq_iff_iff, List.all_eq_true, List.all_eq_true]
  exact ⟨fun k x hx => k x (h.mem_iff.2 hx), fun k x hx => k x (h.mem_iff.1 hx)⟩

end Go.Proofs.Ytbechpbfefdmgaa
