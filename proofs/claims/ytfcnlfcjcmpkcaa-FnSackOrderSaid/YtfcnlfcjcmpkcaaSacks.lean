/- Plain facts on lists of items (two cells each): no program in sight. -/
import Derived.Test.YtfcnlfcjcmpkcaaSums
namespace Go.Proofs.Ytfcnlfcjcmpkcaa

/-- Weight and worth of the item i in the cells. -/
def wt (zs : List Int) (i : Nat) : Int := zs[2 * i]?.getD 0
def wo (zs : List Int) (i : Nat) : Int := zs[2 * i + 1]?.getD 0

def okItem (a v : Int) : Bool := decide (1 ≤ a) && decide (a ≤ 60) && decide (0 ≤ v) && decide (v ≤ 1000)
/-- A list of n items is as told. -/
def itemsIn (zs : List Int) (n : Nat) : Bool := decide (n ≤ 10) && (List.range n).all fun i => okItem (wt zs i) (wo zs i)

theorem okItem_iff (a v : Int) : okItem a v = true ↔ 1 ≤ a ∧ a ≤ 60 ∧ 0 ≤ v ∧ v ≤ 1000 := by unfold okItem; simp [and_assoc]
theorem itemsIn_iff (zs : List Int) (n : Nat) : itemsIn zs n = true ↔ n ≤ 10 ∧ ∀ i, i < n → okItem (wt zs i) (wo zs i) = true := by
  unfold itemsIn; simp
theorem itemsIn_len {zs : List Int} {n : Nat} (h : itemsIn zs n = true) : n ≤ 10 := ((itemsIn_iff _ _).1 h).1
theorem itemsIn_get {zs : List Int} {n : Nat} (h : itemsIn zs n = true) (i : Nat) (hi : i < n) : 1 ≤ wt zs i ∧ wt zs i ≤ 60 ∧ 0 ≤ wo zs i ∧ wo zs i ≤ 1000 :=
  (okItem_iff _ _).1 (((itemsIn_iff _ _).1 h).2 i hi)
theorem itemsIn_no {zs : List Int} {n k : Nat} (hk : k < n) (h : ¬(1 ≤ wt zs k ∧ wt zs k ≤ 60 ∧ 0 ≤ wo zs k ∧ wo zs k ≤ 1000)) : itemsIn zs n = false := by
  cases e : itemsIn zs n with
  | false => rfl
  | true => exact absurd (itemsIn_get e k hk) h
theorem itemsIn_long {zs : List Int} {n : Nat} (h : 10 < n) : itemsIn zs n = false := by
  cases e : itemsIn zs n with
  | false => rfl
  | true => have := itemsIn_len e; omega
theorem itemsIn_yes {zs : List Int} {n : Nat} (h : ∀ i, i < n → okItem (wt zs i) (wo zs i) = true) : itemsIn zs n = decide (n ≤ 10) := by
  unfold itemsIn
  have : ((List.range n).all fun i => okItem (wt zs i) (wo zs i)) = true := by simp; exact h
  rw [this]; simp

/-- Items and a room are as told. -/
def told (zs : List Int) (n : Nat) (room : Int) : Bool := itemsIn zs n && decide (0 ≤ room ∧ room ≤ 600)

/-- The sum of f over the places below k that the choice c has. -/
def cf (f : Nat → Int) (c : Nat) : Nat → Int
  | 0 => 0
  | k + 1 => cf f c k + (bitAt c k : Int) * f k

theorem cf_bd {f : Nat → Int} {n : Nat} {B : Int} (h : ∀ i, i < n → 0 ≤ f i ∧ f i ≤ B) (c k : Nat) (hk : k ≤ n) : 0 ≤ cf f c k ∧ cf f c k ≤ B * k := by
  induction k with
  | zero => simp [cf]
  | succ k ih =>
    have h1 := ih (by omega)
    have h2 := h k (by omega)
    have e : B * ((k + 1 : Nat) : Int) = B * k + B := by rw [Int.natCast_add, Int.mul_add]; simp
    simp only [cf, bit_mul]
    rw [e]
    split <;> omega

theorem cf_zero (f : Nat → Int) (k : Nat) : cf f 0 k = 0 := by
  induction k with
  | zero => rfl
  | succ k ih => simp [cf, ih, bitAt]

theorem wt_bd {zs : List Int} {n : Nat} (h : itemsIn zs n = true) (c k : Nat) (hk : k ≤ n) : 0 ≤ cf (wt zs) c k ∧ cf (wt zs) c k ≤ 60 * k :=
  cf_bd (fun i hi => by have := itemsIn_get h i hi; omega) c k hk
theorem wo_bd {zs : List Int} {n : Nat} (h : itemsIn zs n = true) (c k : Nat) (hk : k ≤ n) : 0 ≤ cf (wo zs) c k ∧ cf (wo zs) c k ≤ 1000 * k :=
  cf_bd (fun i hi => by have := itemsIn_get h i hi; omega) c k hk

/-- The greatest worth of the choices below m that the sack takes, and the least such choice. -/
def bestV (zs : List Int) (n : Nat) (room : Int) : Nat → Int
  | 0 => 0
  | m + 1 => if cf (wt zs) m n ≤ room then max (bestV zs n room m) (cf (wo zs) m n) else bestV zs n room m
def bestA (zs : List Int) (n : Nat) (room : Int) : Nat → Nat
  | 0 => 0
  | m + 1 => if cf (wt zs) m n ≤ room ∧ bestV zs n room m < cf (wo zs) m n then m else bestA zs n room m

theorem bestV_bd {zs : List Int} {n : Nat} (h : itemsIn zs n = true) (room : Int) (m : Nat) : 0 ≤ bestV zs n room m ∧ bestV zs n room m ≤ 1000 * n := by
  induction m with
  | zero => simp [bestV]; omega
  | succ m ih =>
    have := wo_bd h m n (Nat.le_refl _)
    simp only [bestV]
    split <;> omega
theorem bestA_bd (zs : List Int) (n : Nat) (room : Int) (m : Nat) : bestA zs n room m ≤ m := by
  induction m with
  | zero => simp [bestA]
  | succ m ih => simp only [bestA]; split <;> omega

theorem bestV_ge {zs : List Int} {n : Nat} {room : Int} {c m : Nat} (hc : c < m) (hw : cf (wt zs) c n ≤ room) : cf (wo zs) c n ≤ bestV zs n room m := by
  induction m with
  | zero => omega
  | succ m ih =>
    simp only [bestV]
    rcases Nat.lt_succ_iff_lt_or_eq.1 hc with h | rfl
    · have := ih h; split <;> omega
    · rw [if_pos hw]; omega
theorem bestA_spec {zs : List Int} {n : Nat} {room : Int} (h0 : 0 ≤ room) (m : Nat) :
    cf (wt zs) (bestA zs n room m) n ≤ room ∧ cf (wo zs) (bestA zs n room m) n = bestV zs n room m ∧ ∀ c, c < bestA zs n room m → cf (wt zs) c n ≤ room → cf (wo zs) c n < bestV zs n room m := by
  induction m with
  | zero => refine ⟨?_, ?_, fun c hc => ?_⟩ <;> simp_all [bestA, bestV, cf_zero]
  | succ m ih =>
    simp only [bestA, bestV]
    by_cases hw : cf (wt zs) m n ≤ room
    · by_cases hv : bestV zs n room m < cf (wo zs) m n
      · rw [if_pos ⟨hw, hv⟩, if_pos hw]
        refine ⟨hw, by omega, fun c hc hcw => ?_⟩
        have := bestV_ge hc hcw
        omega
      · rw [if_neg (by omega), if_pos hw]
        refine ⟨ih.1, by rw [ih.2.1]; omega, fun c hc hcw => ?_⟩
        have := ih.2.2 c hc hcw
        omega
    · rw [if_neg (by omega), if_neg hw]
      exact ih
theorem bestA_lt (zs : List Int) (n : Nat) (room : Int) {m : Nat} (hm : 0 < m) : bestA zs n room m < m := by
  induction m with
  | zero => omega
  | succ m ih =>
    simp only [bestA]
    split
    · omega
    · rcases Nat.eq_zero_or_pos m with rfl | h
      · simp [bestA]
      · have := ih h; omega
theorem bestV_one {zs : List Int} {n : Nat} {room : Int} : bestV zs n room 1 = 0 := by
  simp [bestV, cf_zero]
theorem bestA_one {zs : List Int} {n : Nat} {room : Int} : bestA zs n room 1 = 0 := by
  simp [bestA]

end Go.Proofs.Ytfcnlfcjcmpkcaa
