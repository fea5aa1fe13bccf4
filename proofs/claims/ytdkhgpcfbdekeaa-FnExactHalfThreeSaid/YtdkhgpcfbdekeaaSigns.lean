/- Plain facts: the least rest of parting a list, by signs and by choices. -/
import Derived.Test.YtdkhgpcfbdekeaaSums
namespace Go.Proofs.Ytdkhgpcfbdekeaa

/-- The least size of d with all numbers of the list added or taken off. -/
def bestS : List Int → Int → Int
  | [], d => max d (-d)
  | x :: l, d => min (bestS l (d + x)) (bestS l (d - x))
theorem bestS_nonneg (l : List Int) (d : Int) : 0 ≤ bestS l d := by
  induction l generalizing d with
  | nil => simp only [bestS]; omega
  | cons x l ih => simp only [bestS]; have h1 := ih (d + x); have h2 := ih (d - x); omega
theorem bestS_drop (zs : List Int) (p : Nat) (h : p < zs.length) (d : Int) : bestS (zs.drop p) d = min (bestS (zs.drop (p + 1)) (d + zs[p]?.getD 0)) (bestS (zs.drop (p + 1)) (d - zs[p]?.getD 0)) := by
  rw [List.drop_eq_getElem_cons h]
  simp [bestS, h]
theorem bestS_end (zs : List Int) (d : Int) : bestS (zs.drop zs.length) d = max d (-d) := by simp [bestS]

theorem bitAt_half (c k : Nat) : bitAt (c / 2) k = bitAt c (k + 1) := by
  unfold bitAt
  rw [Nat.div_div_eq_div_mul, Nat.pow_succ, Nat.mul_comm]
theorem cs_cons (x : Int) (l : List Int) (c k : Nat) : cs (x :: l) c (k + 1) = (bitAt c 0 : Int) * x + cs l (c / 2) k := by
  induction k with
  | zero => simp [cs]
  | succ k ih =>
    have h1 : cs (x :: l) c (k + 1 + 1) = cs (x :: l) c (k + 1) + (bitAt c (k + 1) : Int) * ((x :: l)[k + 1]?.getD 0) := rfl
    have h2 : cs l (c / 2) (k + 1) = cs l (c / 2) k + (bitAt (c / 2) k : Int) * (l[k]?.getD 0) := rfl
    rw [h1, h2, ih, bitAt_half]
    simp only [List.getElem?_cons_succ]
    omega
theorem tot_cons (x : Int) (l : List Int) (k : Nat) : tot (x :: l) (k + 1) = x + tot l k := by
  induction k with
  | zero => simp [tot]
  | succ k ih =>
    have h1 : tot (x :: l) (k + 1 + 1) = tot (x :: l) (k + 1) + ((x :: l)[k + 1]?.getD 0) := rfl
    have h2 : tot l (k + 1) = tot l k + (l[k]?.getD 0) := rfl
    rw [h1, h2, ih]
    simp only [List.getElem?_cons_succ]
    omega

/-- What the signs come to: d and the total, less twice the sum of a choice. -/
theorem bestS_le (l : List Int) (d : Int) (c : Nat) (hc : c < 2 ^ l.length) :
    bestS l d ≤ max (d + tot l l.length - 2 * cs l c l.length) (-(d + tot l l.length - 2 * cs l c l.length)) := by
  induction l generalizing d c with
  | nil => simp [bestS, tot, cs]
  | cons x l ih =>
    simp only [bestS, List.length_cons]
    rw [cs_cons, tot_cons]
    have hc2 : c / 2 < 2 ^ l.length := by rw [List.length_cons, Nat.pow_succ] at hc; omega
    have h1 := ih (d + x) (c / 2) hc2
    have h2 := ih (d - x) (c / 2) hc2
    rcases bitAt_01 c 0 with e | e <;> rw [e]
    · have e1 : d + x + tot l l.length - 2 * cs l (c / 2) l.length = d + (x + tot l l.length) - 2 * (((0 : Nat) : Int) * x + cs l (c / 2) l.length) := by omega
      rw [e1] at h1
      omega
    · have e1 : d - x + tot l l.length - 2 * cs l (c / 2) l.length = d + (x + tot l l.length) - 2 * (((1 : Nat) : Int) * x + cs l (c / 2) l.length) := by omega
      rw [e1] at h2
      omega
theorem bestS_at (l : List Int) (d : Int) : ∃ c, c < 2 ^ l.length ∧ bestS l d = max (d + tot l l.length - 2 * cs l c l.length) (-(d + tot l l.length - 2 * cs l c l.length)) := by
  induction l generalizing d with
  | nil => exact ⟨0, by simp, by simp [bestS, tot, cs]⟩
  | cons x l ih =>
    simp only [bestS, List.length_cons]
    obtain ⟨c1, h1, e1⟩ := ih (d + x)
    obtain ⟨c2, h2, e2⟩ := ih (d - x)
    by_cases hle : bestS l (d + x) ≤ bestS l (d - x)
    · refine ⟨2 * c1, by rw [Nat.pow_succ]; omega, ?_⟩
      rw [cs_cons, tot_cons, show 2 * c1 / 2 = c1 by omega, show bitAt (2 * c1) 0 = 0 by unfold bitAt; omega]
      have e3 : d + x + tot l l.length - 2 * cs l c1 l.length = d + (x + tot l l.length) - 2 * (((0 : Nat) : Int) * x + cs l c1 l.length) := by omega
      rw [e3] at e1
      omega
    · refine ⟨2 * c2 + 1, by rw [Nat.pow_succ]; omega, ?_⟩
      rw [cs_cons, tot_cons, show (2 * c2 + 1) / 2 = c2 by omega, show bitAt (2 * c2 + 1) 0 = 1 by unfold bitAt; omega]
      have e3 : d - x + tot l l.length - 2 * cs l c2 l.length = d + (x + tot l l.length) - 2 * (((1 : Nat) : Int) * x + cs l c2 l.length) := by omega
      rw [e3] at e2
      omega

/-- The rest of a choice. -/
def restV (zs : List Int) (c : Nat) : Int := max (tot zs zs.length - 2 * cs zs c zs.length) (-(tot zs zs.length - 2 * cs zs c zs.length))
/-- The first place below k with the least value. -/
def argTo (f : Nat → Int) : Nat → Nat
  | 0 => 0
  | k + 1 => if f k < f (argTo f k) then k else argTo f k
theorem argTo_le (f : Nat → Int) (k : Nat) : argTo f k ≤ k := by
  induction k with
  | zero => simp [argTo]
  | succ k ih => simp only [argTo]; split <;> omega
theorem argTo_lt (f : Nat → Int) (k : Nat) (hk : 0 < k) : argTo f k < k := by
  induction k with
  | zero => omega
  | succ k ih =>
    simp only [argTo]
    split
    · omega
    · rcases Nat.eq_zero_or_pos k with h | h
      · subst h; simp [argTo]
      · have := ih h; omega
theorem argTo_min (f : Nat → Int) (k j : Nat) (hj : j < k) : f (argTo f k) ≤ f j := by
  induction k with
  | zero => omega
  | succ k ih =>
    simp only [argTo]
    by_cases e : j = k
    · subst e; split <;> omega
    · have := ih (by omega); split <;> omega
theorem argTo_first (f : Nat → Int) (k j : Nat) (hj : j < argTo f k) : f (argTo f k) < f j := by
  induction k with
  | zero => simp [argTo] at hj
  | succ k ih =>
    simp only [argTo] at hj ⊢
    split
    · rename_i h
      rw [if_pos h] at hj
      have := argTo_min f k j hj; omega
    · rename_i h
      rw [if_neg h] at hj
      exact ih hj
def halfArg (zs : List Int) : Nat := argTo (restV zs) (2 ^ zs.length)
theorem halfArg_lt (zs : List Int) : halfArg zs < 2 ^ zs.length := argTo_lt _ _ (Nat.pow_pos (by omega))
theorem best_is (zs : List Int) : bestS zs 0 = restV zs (halfArg zs) := by
  obtain ⟨c, hc, e⟩ := bestS_at zs 0
  have h1 : restV zs (halfArg zs) ≤ restV zs c := argTo_min (restV zs) (2 ^ zs.length) c hc
  have h2 := bestS_le zs 0 (halfArg zs) (halfArg_lt zs)
  generalize halfArg zs = k at *
  unfold restV at h1 ⊢
  simp only [Int.zero_add] at e h2
  omega
theorem restV_zero {zs : List Int} (h : isIn zs = true) : restV zs 0 = tot zs zs.length := by
  unfold restV; rw [cs_zero]; have := (tot_bd h zs.length).1; omega
theorem restV_bd {zs : List Int} (h : isIn zs = true) (c : Nat) : 0 ≤ restV zs c ∧ restV zs c ≤ tot zs zs.length := by
  unfold restV; have := cs_bd h c zs.length; omega
theorem best_le_tot {zs : List Int} (h : isIn zs = true) : min (tot zs zs.length) (bestS zs 0) = restV zs (halfArg zs) := by
  rw [best_is]; have := restV_bd h (halfArg zs); omega

end Go.Proofs.Ytdkhgpcfbdekeaa
