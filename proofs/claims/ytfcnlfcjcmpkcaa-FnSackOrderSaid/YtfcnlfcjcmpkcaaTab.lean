/- Lists that are given by a function of the place. -/
namespace Go.Proofs.Ytfcnlfcjcmpkcaa

def tab (L : Nat) (f : Nat → Int) : List Int := (List.range L).map f
theorem tab_length (L : Nat) (f : Nat → Int) : (tab L f).length = L := by simp [tab]
theorem tab_get (L : Nat) (f : Nat → Int) (i : Nat) (hi : i < L) : (tab L f)[i]?.getD 0 = f i := by simp [tab, hi]
theorem tab_set (L : Nat) (f : Nat → Int) (i : Nat) (v : Int) : (tab L f).set i v = tab L (fun x => if x = i then v else f x) := by
  apply List.ext_getElem
  · simp [tab]
  · intro j h1 h2
    simp only [tab, List.getElem_set, List.getElem_map, List.getElem_range]
    by_cases e : i = j
    · rw [if_pos e, if_pos e.symm]
    · rw [if_neg e, if_neg (Ne.symm e)]
theorem tab_congr {L : Nat} {f g : Nat → Int} (h : ∀ i, i < L → f i = g i) : tab L f = tab L g := by
  unfold tab
  apply List.map_congr_left
  intro i hi
  exact h i (List.mem_range.1 hi)
theorem tab_zero (L : Nat) : List.replicate L (0 : Int) = tab L (fun _ => 0) := by
  apply List.ext_getElem
  · simp [tab]
  · intro j h1 h2; simp [tab]
theorem tab_getElem? (L : Nat) (f : Nat → Int) (i : Nat) (hi : i < L) : (tab L f)[i]? = some (f i) := by simp [tab, hi]

end Go.Proofs.Ytfcnlfcjcmpkcaa
