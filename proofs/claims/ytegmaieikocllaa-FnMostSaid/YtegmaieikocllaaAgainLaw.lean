/- Items that may be taken again: the greatest worths by the room. No program in sight. -/
import Derived.Test.YtegmaieikocllaaSacks
import Derived.Test.YtegmaieikocllaaTab
namespace Go.Proofs.Ytegmaieikocllaa

/-- The best of the first k items for the room r, the worths of the lesser rooms being T. -/
def aB (zs : List Int) (T : Nat → Int) (r : Nat) : Nat → Int
  | 0 => 0
  | k + 1 => if wt zs k ≤ (r : Int) then max (aB zs T r k) (wo zs k + T (r - (wt zs k).toNat)) else aB zs T r k
def aT (zs : List Int) (n : Nat) : Nat → Nat → Int
  | 0 => fun _ => 0
  | r + 1 => fun x => if x = r then aB zs (aT zs n r) r n else aT zs n r x
/-- The greatest worth for a room. -/
def aV (zs : List Int) (n r : Nat) : Int := aT zs n (r + 1) r

theorem aB_congr {zs : List Int} {n : Nat} (h : itemsIn zs n = true) {T T' : Nat → Int} {r : Nat} (hT : ∀ x, x < r → T x = T' x) (k : Nat) (hk : k ≤ n) : aB zs T r k = aB zs T' r k := by
  induction k with
  | zero => rfl
  | succ k ih =>
    have hi := itemsIn_get h k (by omega)
    simp only [aB]
    rw [ih (by omega)]
    by_cases hw : wt zs k ≤ (r : Int)
    · rw [if_pos hw, if_pos hw, hT _ (by omega)]
    · rw [if_neg hw, if_neg hw]
theorem aT_lt (zs : List Int) (n r x : Nat) (h : x < r) : aT zs n r x = aV zs n x := by
  induction r with
  | zero => omega
  | succ r ih =>
    rcases Nat.lt_succ_iff_lt_or_eq.1 h with h1 | rfl
    · have e : aT zs n (r + 1) x = aT zs n r x := by simp only [aT]; rw [if_neg (by omega)]
      rw [e, ih h1]
    · rfl
theorem aV_eq {zs : List Int} {n : Nat} (h : itemsIn zs n = true) (r : Nat) : aV zs n r = aB zs (aV zs n) r n := by
  have e : aV zs n r = aB zs (aT zs n r) r n := by unfold aV; simp only [aT, if_true]
  rw [e]
  exact aB_congr h (fun x hx => aT_lt zs n r x hx) n (Nat.le_refl _)
theorem aB_bd {zs : List Int} {n : Nat} (h : itemsIn zs n = true) {T : Nat → Int} {r : Nat} (hT : ∀ x, x < r → 0 ≤ T x ∧ T x ≤ 1000 * (x : Int)) (k : Nat) (hk : k ≤ n) : 0 ≤ aB zs T r k ∧ aB zs T r k ≤ 1000 * (r : Int) := by
  induction k with
  | zero => simp [aB]; omega
  | succ k ih =>
    have hi := itemsIn_get h k (by omega)
    have h1 := ih (by omega)
    simp only [aB]
    by_cases hw : wt zs k ≤ (r : Int)
    · have h2 := hT (r - (wt zs k).toNat) (by omega)
      rw [if_pos hw]; omega
    · rw [if_neg hw]; exact h1
theorem aV_bd {zs : List Int} {n : Nat} (h : itemsIn zs n = true) (r : Nat) : 0 ≤ aV zs n r ∧ aV zs n r ≤ 1000 * (r : Int) := by
  induction r using Nat.strongRecOn with
  | ind r ih => rw [aV_eq h]; exact aB_bd h (fun x hx => ih x hx) n (Nat.le_refl _)
theorem aV_mono {zs : List Int} {n : Nat} (h : itemsIn zs n = true) (r : Nat) : aV zs n r ≤ aV zs n (r + 1) := by
  induction r using Nat.strongRecOn with
  | ind r ih =>
    rw [aV_eq h r, aV_eq h (r + 1)]
    have : ∀ k, k ≤ n → aB zs (aV zs n) r k ≤ aB zs (aV zs n) (r + 1) k := by
      intro k hk
      induction k with
      | zero => simp [aB]
      | succ k ihk =>
        have hi := itemsIn_get h k (by omega)
        have h1 := ihk (by omega)
        simp only [aB]
        by_cases hw : wt zs k ≤ (r : Int)
        · have h2 := ih (r - (wt zs k).toNat) (by omega)
          rw [if_pos hw, if_pos (by omega), show r + 1 - (wt zs k).toNat = r - (wt zs k).toNat + 1 by omega]; omega
        · rw [if_neg hw]; split <;> omega
    exact this n (Nat.le_refl _)
theorem aV_zero {zs : List Int} {n : Nat} (h : itemsIn zs n = true) : aV zs n 0 = 0 := by have := aV_bd h 0; omega

/-- The greatest worth if each item may be taken as often as there is room; 0 where items and room are not as told. -/
def againV (zs : List Int) (n : Nat) (room : Int) : Int := if told zs n room then aV zs n room.toNat else 0

end Go.Proofs.Ytegmaieikocllaa
