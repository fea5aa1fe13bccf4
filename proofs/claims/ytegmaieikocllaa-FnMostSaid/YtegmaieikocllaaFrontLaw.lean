/- The fronts of a list of items: the best worths by the room, item by item and choice by choice. No program in sight. -/
import Derived.Test.YtegmaieikocllaaSacks
import Derived.Test.YtegmaieikocllaaTab
namespace Go.Proofs.Ytegmaieikocllaa

theorem cf_low (f : Nat → Int) (c k : Nat) (h : c < 2 ^ k) : cf f c (k + 1) = cf f c k := by
  simp [cf, bitAt_low c k h]
theorem cf_add (f : Nat → Int) (j k i : Nat) (h : i ≤ k) : cf f (2 ^ k + j) i = cf f j i := by
  induction i with
  | zero => rfl
  | succ i ih => simp only [cf]; rw [ih (by omega), bitAt_add j k i (by omega)]
theorem cf_top (f : Nat → Int) (j k : Nat) (h : j < 2 ^ k) : cf f (2 ^ k + j) (k + 1) = cf f j k + f k := by
  simp only [cf]; rw [cf_add f j k k (Nat.le_refl _), bitAt_top j k h]; simp

theorem bestV_low (zs : List Int) (k : Nat) (r : Int) (m : Nat) (h : m ≤ 2 ^ k) : bestV zs (k + 1) r m = bestV zs k r m := by
  induction m with
  | zero => rfl
  | succ m ih => simp only [bestV]; rw [ih (by omega), cf_low _ m k (by omega), cf_low _ m k (by omega)]

theorem bestV_top (zs : List Int) (k : Nat) (r : Int) (hn : ∀ c, 0 ≤ cf (wt zs) c k) (j : Nat) (hj : 1 ≤ j) (h : j ≤ 2 ^ k) :
    bestV zs (k + 1) r (2 ^ k + j) = if wt zs k ≤ r then max (bestV zs k r (2 ^ k)) (bestV zs k (r - wt zs k) j + wo zs k) else bestV zs k r (2 ^ k) := by
  induction j with
  | zero => omega
  | succ j ih =>
    have hst : bestV zs (k + 1) r (2 ^ k + (j + 1)) = if cf (wt zs) (2 ^ k + j) (k + 1) ≤ r then max (bestV zs (k + 1) r (2 ^ k + j)) (cf (wo zs) (2 ^ k + j) (k + 1)) else bestV zs (k + 1) r (2 ^ k + j) := rfl
    rw [hst, cf_top _ j k (by omega), cf_top _ j k (by omega)]
    have hst2 : bestV zs k (r - wt zs k) (j + 1) = if cf (wt zs) j k ≤ r - wt zs k then max (bestV zs k (r - wt zs k) j) (cf (wo zs) j k) else bestV zs k (r - wt zs k) j := rfl
    rw [hst2]
    have hnj := hn j
    rcases Nat.eq_zero_or_pos j with rfl | hp
    · have hz0 : bestV zs (k + 1) r (2 ^ k + 0) = bestV zs k r (2 ^ k) := bestV_low zs k r _ (Nat.le_refl _)
      rw [hz0]
      simp only [cf_zero, bestV]
      by_cases h1 : wt zs k ≤ r
      · rw [if_pos (by omega), if_pos h1, if_pos (by omega)]; simp
      · rw [if_neg (by omega), if_neg h1]
    · rw [ih hp (by omega)]
      by_cases h1 : wt zs k ≤ r
      · rw [if_pos h1, if_pos h1]
        by_cases h2 : cf (wt zs) j k ≤ r - wt zs k
        · rw [if_pos (by omega), if_pos h2]; omega
        · rw [if_neg (by omega), if_neg h2]
      · rw [if_neg h1, if_neg h1, if_neg (by omega)]

/-- Item by item. -/
def frontD (zs : List Int) : Nat → Int → Int
  | 0, _ => 0
  | k + 1, r => if wt zs k ≤ r then max (frontD zs k r) (frontD zs k (r - wt zs k) + wo zs k) else frontD zs k r

theorem frontD_eq {zs : List Int} {n : Nat} (h : itemsIn zs n = true) (k : Nat) (hk : k ≤ n) (r : Int) (hr : 0 ≤ r) : frontD zs k r = bestV zs k r (2 ^ k) := by
  induction k generalizing r with
  | zero => simp [frontD, bestV, cf]
  | succ k ih =>
    have hi := itemsIn_get h k (by omega)
    have hp : 0 < 2 ^ k := Nat.pow_pos (by omega)
    rw [show 2 ^ (k + 1) = 2 ^ k + 2 ^ k by rw [Nat.pow_succ]; omega,
      bestV_top zs k r (fun c => (wt_bd h c k (by omega)).1) _ hp (Nat.le_refl _)]
    simp only [frontD]
    rw [ih (by omega) r hr]
    by_cases h1 : wt zs k ≤ r
    · rw [if_pos h1, if_pos h1, ih (by omega) _ (by omega)]
    · rw [if_neg h1, if_neg h1]

theorem frontD_bd {zs : List Int} {n : Nat} (h : itemsIn zs n = true) (k : Nat) (hk : k ≤ n) (r : Int) : 0 ≤ frontD zs k r ∧ frontD zs k r ≤ 1000 * k := by
  induction k generalizing r with
  | zero => simp [frontD]
  | succ k ih =>
    have hi := itemsIn_get h k (by omega)
    have h1 := ih (by omega) r
    have h2 := ih (by omega) (r - wt zs k)
    simp only [frontD]
    split <;> omega

/-- Choice by choice: the best worth of the choices below m of just this weight, and of those up to it. -/
def exactV (zs : List Int) (n : Nat) : Nat → Nat → Int
  | 0, _ => 0
  | m + 1, r => if cf (wt zs) m n = (r : Int) then max (exactV zs n m r) (cf (wo zs) m n) else exactV zs n m r
def preV (zs : List Int) (n m : Nat) : Nat → Int
  | 0 => exactV zs n m 0
  | r + 1 => max (exactV zs n m (r + 1)) (preV zs n m r)

theorem preV_step {zs : List Int} {n : Nat} (m : Nat) (hw : 0 ≤ cf (wt zs) m n) (r : Nat) :
    preV zs n (m + 1) r = if cf (wt zs) m n ≤ (r : Int) then max (preV zs n m r) (cf (wo zs) m n) else preV zs n m r := by
  induction r with
  | zero =>
    simp only [preV, exactV]
    by_cases h : cf (wt zs) m n = 0
    · rw [if_pos (by simpa using h), if_pos (by simp; omega)]
    · rw [if_neg (by simpa using h), if_neg (by simp; omega)]
  | succ r ih =>
    simp only [preV, exactV, ih]
    by_cases h1 : cf (wt zs) m n = ((r + 1 : Nat) : Int)
    · rw [if_pos h1, if_neg (by omega), if_pos (by omega)]; omega
    · rw [if_neg h1]
      by_cases h2 : cf (wt zs) m n ≤ (r : Int)
      · rw [if_pos h2, if_pos (by omega)]; omega
      · rw [if_neg h2, if_neg (by omega)]
theorem preV_eq {zs : List Int} {n : Nat} (h : itemsIn zs n = true) (m r : Nat) : preV zs n m r = bestV zs n (r : Int) m := by
  induction m with
  | zero =>
    induction r with
    | zero => simp [preV, exactV, bestV]
    | succ r ih => simp only [preV, exactV, ih]; simp [bestV]
  | succ m ih => rw [preV_step m (wt_bd h m n (Nat.le_refl _)).1 r, ih]; rfl

theorem exactV_bd {zs : List Int} {n : Nat} (h : itemsIn zs n = true) (m r : Nat) : 0 ≤ exactV zs n m r ∧ exactV zs n m r ≤ 1000 * n := by
  induction m with
  | zero => simp [exactV]; omega
  | succ m ih =>
    have := wo_bd h m n (Nat.le_refl _)
    simp only [exactV]
    split <;> omega

/-- The front. -/
def frontOf (zs : List Int) (n : Nat) (room : Int) : List Int := if told zs n room then tab (room.toNat + 1) (fun r => bestV zs n (r : Int) (2 ^ n)) else []
theorem frontOf_len (zs : List Int) (n : Nat) (room : Int) : (frontOf zs n room).length ≤ 601 := by
  unfold frontOf
  split
  · rename_i h
    rw [tab_length]
    unfold told at h; simp at h; omega
  · simp

end Go.Proofs.Ytegmaieikocllaa
