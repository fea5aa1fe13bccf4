/- Items in dense order; the greedy worth and the bound. No program in sight. -/
import Derived.Test.YtfcnlfcjcmpkcaaSorting
import Derived.Test.YtfcnlfcjcmpkcaaSacks
namespace Go.Proofs.Ytfcnlfcjcmpkcaa

/-- The item x goes ahead of the item y (places, as numbers). -/
def denser (zs : List Int) (x y : Int) : Bool := decide (wo zs y.toNat * wt zs x.toNat < wo zs x.toNat * wt zs y.toNat)
/-- The places 0 .. n-1. -/
def places (n : Nat) : List Int := (List.range n).map fun (i : Nat) => (i : Int)
theorem places_length (n : Nat) : (places n).length = n := by simp [places]
theorem places_get (n i : Nat) (h : i < n) : (places n)[i]?.getD 0 = (i : Int) := by simp [places, h]
/-- The places in dense order. -/
def denseTo (zs : List Int) (n k : Nat) : List Int := insTo (denser zs) (places n) k
def dense (zs : List Int) (n : Nat) : List Int := denseTo zs n n
theorem dense_length (zs : List Int) (n : Nat) : (dense zs n).length = n := insTo_length _ _ _
theorem dense_perm (zs : List Int) (n : Nat) : (dense zs n).Perm (places n) := by
  have := insTo_all_perm (denser zs) (places n)
  rwa [places_length] at this
theorem dense_mem {zs : List Int} {n : Nat} {x : Int} (h : x ∈ dense zs n) : ∃ i : Nat, i < n ∧ x = (i : Int) := by
  have := (dense_perm zs n).mem_iff.1 h
  simp only [places, List.mem_map, List.mem_range] at this
  obtain ⟨i, hi, e⟩ := this
  exact ⟨i, hi, e.symm⟩
theorem denseTo_mem {zs : List Int} {n k : Nat} (hk : k ≤ n) {x : Int} (h : x ∈ denseTo zs n k) : ∃ i : Nat, i < k ∧ x = (i : Int) := by
  have hp := insTo_perm (denser zs) (places n) k (by rw [places_length]; exact hk)
  have := hp.mem_iff.1 h
  unfold places at this
  rw [← List.map_take, List.take_range] at this
  simp only [List.mem_map, List.mem_range] at this
  obtain ⟨i, hi, e⟩ := this
  exact ⟨i, by omega, e.symm⟩
theorem mem_dense {zs : List Int} {n i : Nat} (h : i < n) : (i : Int) ∈ dense zs n := by
  rw [(dense_perm zs n).mem_iff]
  simp only [places, List.mem_map, List.mem_range]
  exact ⟨i, h, rfl⟩
theorem dense_at {zs : List Int} {n j : Nat} (h : j < n) : ∃ i : Nat, i < n ∧ (dense zs n)[j]?.getD 0 = (i : Int) := by
  have hl : j < (dense zs n).length := by rw [dense_length]; exact h
  rw [List.getElem?_eq_getElem hl]
  exact dense_mem (List.getElem_mem hl)

/-- x stands ahead of y in dense order: it is denser, or as dense and the earlier one. -/
def Ahead (zs : List Int) (x y : Int) : Prop :=
  wo zs y.toNat * wt zs x.toNat < wo zs x.toNat * wt zs y.toNat ∨ (wo zs y.toNat * wt zs x.toNat = wo zs x.toNat * wt zs y.toNat ∧ x < y)

theorem cross_trans {a b c d e f : Int} (hb : 0 < b) (hd : 0 < d) (hf : 0 < f) (h1 : c * b ≤ a * d) (h2 : e * d ≤ c * f) : e * b ≤ a * f := by
  have h3 : e * d * b ≤ c * f * b := Int.mul_le_mul_of_nonneg_right h2 (by omega)
  have h4 : c * b * f ≤ a * d * f := Int.mul_le_mul_of_nonneg_right h1 (by omega)
  have h5 : e * b * d ≤ a * f * d := by
    rw [show e * b * d = e * d * b by rw [Int.mul_assoc, Int.mul_comm b d, ← Int.mul_assoc], show a * f * d = a * d * f by rw [Int.mul_assoc, Int.mul_comm f d, ← Int.mul_assoc]]
    rw [show c * f * b = c * b * f by rw [Int.mul_assoc, Int.mul_comm f b, ← Int.mul_assoc]] at h3
    omega
  exact Int.le_of_mul_le_mul_right h5 hd
theorem cross_trans_lt {a b c d e f : Int} (hb : 0 < b) (hd : 0 < d) (hf : 0 < f) (h1 : c * b ≤ a * d) (h2 : e * d ≤ c * f) (h : c * b < a * d ∨ e * d < c * f) : e * b < a * f := by
  have k1 : e * d * b ≤ c * f * b := Int.mul_le_mul_of_nonneg_right h2 (by omega)
  have k2 : c * b * f ≤ a * d * f := Int.mul_le_mul_of_nonneg_right h1 (by omega)
  have e1 : e * b * d = e * d * b := by rw [Int.mul_assoc, Int.mul_comm b d, ← Int.mul_assoc]
  have e2 : a * f * d = a * d * f := by rw [Int.mul_assoc, Int.mul_comm f d, ← Int.mul_assoc]
  have e3 : c * f * b = c * b * f := by rw [Int.mul_assoc, Int.mul_comm f b, ← Int.mul_assoc]
  have k3 : e * b * d < a * f * d := by
    rw [e1, e2]
    rcases h with h | h
    · have := Int.mul_lt_mul_of_pos_right h hf; omega
    · have := Int.mul_lt_mul_of_pos_right h hb; omega
  exact Int.lt_of_mul_lt_mul_right k3 (by omega)

theorem denseTo_ahead {zs : List Int} {n : Nat} (h : itemsIn zs n = true) (k : Nat) (hk : k ≤ n) : (denseTo zs n k).Pairwise (Ahead zs) := by
  induction k with
  | zero => exact List.Pairwise.nil
  | succ k ih =>
    have hx := places_get n k (by omega)
    have hi := itemsIn_get h k (by omega)
    unfold denseTo
    simp only [insTo]
    rw [hx]
    refine insP_pairwise (ih (by omega)) (fun y _ hp => ?_) (fun y hy hp => ?_) (fun a b ha hb h1 h2 => ?_)
    · unfold denser at hp
      exact .inl (of_decide_eq_true hp)
    · obtain ⟨j, hj, rfl⟩ := denseTo_mem (by omega) hy
      unfold denser at hp
      have hp := of_decide_eq_false hp
      unfold Ahead
      rcases Int.lt_or_eq_of_le (Int.not_lt.1 hp) with h | h
      · exact .inl h
      · exact .inr ⟨h, by omega⟩
    · obtain ⟨j, hj, rfl⟩ := denseTo_mem (by omega) ha
      obtain ⟨m, hm, rfl⟩ := denseTo_mem (by omega) hb
      have hj' := itemsIn_get h j (by omega)
      have hm' := itemsIn_get h m (by omega)
      unfold Ahead at h1 h2 ⊢
      simp only [Int.toNat_natCast] at h1 h2 ⊢
      by_cases hs : wo zs m * wt zs j < wo zs j * wt zs m ∨ wo zs k * wt zs m < wo zs m * wt zs k
      · exact .inl (cross_trans_lt (by omega) (by omega) (by omega) (by rcases h1 with h1 | h1 <;> omega) (by rcases h2 with h2 | h2 <;> omega) hs)
      · have e1 := cross_trans (a := wo zs j) (b := wt zs j) (c := wo zs m) (d := wt zs m) (e := wo zs k) (f := wt zs k) (by omega) (by omega) (by omega) (by rcases h1 with h1 | h1 <;> omega) (by rcases h2 with h2 | h2 <;> omega)
        rcases Int.lt_or_eq_of_le e1 with h | h
        · exact .inl h
        · exact .inr ⟨h, by omega⟩
theorem dense_ahead {zs : List Int} {n : Nat} (h : itemsIn zs n = true) : (dense zs n).Pairwise (Ahead zs) := denseTo_ahead h n (Nat.le_refl _)

/-- The bound: what is taken in order up to the first that has no room, and of this the part. -/
def bnd (zs : List Int) : List Int → Int → Int
  | [], _ => 0
  | x :: t, r => if wt zs x.toNat ≤ r then wo zs x.toNat + bnd zs t (r - wt zs x.toNat) else wo zs x.toNat * r / wt zs x.toNat
/-- What is taken in order, each if there is room. -/
def tkn (zs : List Int) : List Int → Int → Int
  | [], _ => 0
  | x :: t, r => if wt zs x.toNat ≤ r then wo zs x.toNat + tkn zs t (r - wt zs x.toNat) else tkn zs t r
/-- The best single one that fits. -/
def one (zs : List Int) (room : Int) : List Int → Int
  | [] => 0
  | x :: t => if wt zs x.toNat ≤ room then max (wo zs x.toNat) (one zs room t) else one zs room t

def Good (zs : List Int) (L : List Int) : Prop := ∀ x, x ∈ L → 1 ≤ wt zs x.toNat ∧ wt zs x.toNat ≤ 60 ∧ 0 ≤ wo zs x.toNat ∧ wo zs x.toNat ≤ 1000
theorem Good.head {zs : List Int} {x : Int} {L : List Int} (h : Good zs (x :: L)) : 1 ≤ wt zs x.toNat ∧ wt zs x.toNat ≤ 60 ∧ 0 ≤ wo zs x.toNat ∧ wo zs x.toNat ≤ 1000 := h x (by simp)
theorem Good.tail {zs : List Int} {x : Int} {L : List Int} (h : Good zs (x :: L)) : Good zs L := fun y hy => h y (by simp [hy])
theorem dense_good {zs : List Int} {n : Nat} (h : itemsIn zs n = true) : Good zs (dense zs n) := by
  intro x hx
  obtain ⟨i, hi, rfl⟩ := dense_mem hx
  exact itemsIn_get h i hi

theorem bnd_pos {zs L : List Int} (h : Good zs L) (r : Int) (hr : 0 ≤ r) : 0 ≤ bnd zs L r := by
  induction L generalizing r with
  | nil => exact Int.le_refl _
  | cons x t ih =>
    have hx := h.head
    simp only [bnd]
    split
    · have := ih h.tail (r - wt zs x.toNat) (by omega); omega
    · exact Int.ediv_nonneg (Int.mul_nonneg hx.2.2.1 hr) (by omega)
theorem part_le {a b r : Int} (ha : 0 ≤ a) (hb : 0 < b) (hr : r ≤ b) : a * r / b ≤ a := by
  have : a * r ≤ a * b := Int.mul_le_mul_of_nonneg_left hr ha
  have h2 := Int.ediv_le_ediv hb this
  rwa [Int.mul_ediv_cancel _ (by omega)] at h2
/-- More room, no less a bound. -/
theorem bnd_mono {zs L : List Int} (h : Good zs L) (r : Int) (hr : 0 ≤ r) : bnd zs L r ≤ bnd zs L (r + 1) := by
  induction L generalizing r with
  | nil => exact Int.le_refl _
  | cons x t ih =>
    have hx := h.head
    simp only [bnd]
    by_cases h1 : wt zs x.toNat ≤ r
    · rw [if_pos h1, if_pos (by omega)]
      have := ih h.tail (r - wt zs x.toNat) (by omega)
      rw [show r + 1 - wt zs x.toNat = r - wt zs x.toNat + 1 by omega]; omega
    · rw [if_neg h1]
      by_cases h2 : wt zs x.toNat ≤ r + 1
      · rw [if_pos h2]
        have h3 := part_le (a := wo zs x.toNat) (b := wt zs x.toNat) (r := r) hx.2.2.1 (by omega) (by omega)
        have h4 := bnd_pos h.tail (r + 1 - wt zs x.toNat) (by omega)
        omega
      · rw [if_neg h2]
        exact Int.ediv_le_ediv (by omega) (Int.mul_le_mul_of_nonneg_left (by omega) hx.2.2.1)

/-- Where all are at most as dense as a over b. -/
theorem bnd_dense {zs L : List Int} (h : Good zs L) {a b : Int} (hb : 0 < b) (hd : ∀ x, x ∈ L → wo zs x.toNat * b ≤ a * wt zs x.toNat) (ha : 0 ≤ a) (r : Int) (hr : 0 ≤ r) : bnd zs L r ≤ a * r / b := by
  induction L generalizing r with
  | nil => exact Int.ediv_nonneg (Int.mul_nonneg ha hr) (by omega)
  | cons x t ih =>
    have hx := h.head
    have hdx := hd x (by simp)
    simp only [bnd]
    obtain ⟨p, hp⟩ : ∃ p, wo zs x.toNat = p := ⟨_, rfl⟩
    obtain ⟨q, hq⟩ : ∃ q, wt zs x.toNat = q := ⟨_, rfl⟩
    rw [hp, hq] at hdx hx ⊢
    by_cases h1 : q ≤ r
    · rw [if_pos h1]
      have h2 := ih h.tail (fun y hy => hd y (by simp [hy])) (r - q) (by omega)
      have h3 : p + a * (r - q) / b = (a * (r - q) + p * b) / b := by rw [Int.add_mul_ediv_right _ _ (by omega)]; omega
      have h4 : (a * (r - q) + p * b) / b ≤ a * r / b := by
        refine Int.ediv_le_ediv hb ?_
        rw [Int.mul_sub]; omega
      omega
    · rw [if_neg h1]
      have h2 : p * r / q * q ≤ p * r := Int.ediv_mul_le _ (by omega)
      rw [Int.le_ediv_iff_mul_le hb]
      obtain ⟨z, hz⟩ : ∃ z, p * r / q = z := ⟨_, rfl⟩
      rw [hz] at h2 ⊢
      have h3 : z * q * b ≤ p * r * b := Int.mul_le_mul_of_nonneg_right h2 (by omega)
      have h4 : p * b * r ≤ a * q * r := Int.mul_le_mul_of_nonneg_right hdx hr
      have h5 : z * b * q ≤ a * r * q := by
        rw [show z * b * q = z * q * b by rw [Int.mul_assoc, Int.mul_comm b q, ← Int.mul_assoc], show a * r * q = a * q * r by rw [Int.mul_assoc, Int.mul_comm r q, ← Int.mul_assoc]]
        rw [show p * r * b = p * b * r by rw [Int.mul_assoc, Int.mul_comm r b, ← Int.mul_assoc]] at h3
        omega
      exact Int.le_of_mul_le_mul_right h5 (by omega)

/-- The bound grows by no more than p where the room grows by q, if all are at most as dense as p over q. -/
theorem bnd_step {zs L : List Int} (h : Good zs L) (hs : L.Pairwise fun x y => wo zs y.toNat * wt zs x.toNat ≤ wo zs x.toNat * wt zs y.toNat) {p q : Int} (hp : 0 ≤ p) (hq : 0 < q) (hd : ∀ x, x ∈ L → wo zs x.toNat * q ≤ p * wt zs x.toNat) (s : Int) (hs0 : 0 ≤ s) : bnd zs L (s + q) ≤ p + bnd zs L s := by
  induction L generalizing s with
  | nil => simp [bnd]; exact hp
  | cons x t ih =>
    have hx := h.head
    have hdx := hd x (by simp)
    have hst := List.pairwise_cons.1 hs
    simp only [bnd]
    obtain ⟨u, hu⟩ : ∃ u, wo zs x.toNat = u := ⟨_, rfl⟩
    obtain ⟨v, hv⟩ : ∃ v, wt zs x.toNat = v := ⟨_, rfl⟩
    have hst1 : ∀ y, y ∈ t → wo zs y.toNat * v ≤ u * wt zs y.toNat := by
      intro y hy; have := hst.1 y hy; rwa [hu, hv] at this
    rw [hu, hv] at hdx hx ⊢
    have key : u * (s + q) / v ≤ p + u * s / v := by
      have e : p + u * s / v = (u * s + p * v) / v := by rw [Int.add_mul_ediv_right _ _ (by omega)]; omega
      rw [e]
      refine Int.ediv_le_ediv (by omega) ?_
      rw [Int.mul_add]; omega
    by_cases h1 : v ≤ s
    · rw [if_pos h1, if_pos (by omega)]
      have := ih h.tail hst.2 (fun y hy => hd y (by simp [hy])) (s - v) (by omega)
      rw [show s + q - v = s - v + q by omega]; omega
    · rw [if_neg h1]
      by_cases h2 : v ≤ s + q
      · rw [if_pos h2]
        have h3 := bnd_dense h.tail (a := u) (b := v) (by omega) hst1 hx.2.2.1 (s + q - v) (by omega)
        have h4 : u + u * (s + q - v) / v = u * (s + q) / v := by
          have e : u * (s + q) = u * (s + q - v) + u * v := by rw [← Int.mul_add]; congr 1; omega
          rw [e, Int.add_mul_ediv_right _ _ (by omega)]; omega
        omega
      · rw [if_neg h2]
        exact key

/-- The worths of those that P has. -/
def has (P : Int → Bool) (f : Nat → Int) : List Int → Int
  | [] => 0
  | x :: t => (if P x then f x.toNat else 0) + has P f t
theorem has_perm (P : Int → Bool) (f : Nat → Int) {L M : List Int} (h : L.Perm M) : has P f L = has P f M := by
  induction h with
  | nil => rfl
  | cons x _ ih => simp only [has]; rw [ih]
  | swap x y l => simp only [has]; omega
  | trans _ _ h1 h2 => rw [h1, h2]

/-- No choice that the sack takes is worth more than the bound. -/
theorem has_bnd {zs L : List Int} (h : Good zs L) (hs : L.Pairwise fun x y => wo zs y.toNat * wt zs x.toNat ≤ wo zs x.toNat * wt zs y.toNat) (P : Int → Bool) (r : Int) (hr : 0 ≤ r) (hw : has P (wt zs) L ≤ r) : has P (wo zs) L ≤ bnd zs L r := by
  have hpos : ∀ M, Good zs M → 0 ≤ has P (wt zs) M := by
    intro M hM
    induction M with
    | nil => exact Int.le_refl _
    | cons x t ih => have := ih hM.tail; have := hM.head; simp only [has]; split <;> omega
  induction L generalizing r with
  | nil => exact Int.le_refl _
  | cons x t ih =>
    have hx := h.head
    have hst := List.pairwise_cons.1 hs
    have hpt := hpos t h.tail
    simp only [has] at hw ⊢
    simp only [bnd]
    by_cases hP : P x = true
    · rw [if_pos hP] at hw ⊢
      rw [if_pos (by omega)]
      have := ih h.tail hst.2 (r - wt zs x.toNat) (by omega) (by omega)
      omega
    · rw [if_neg hP] at hw ⊢
      have h1 := ih h.tail hst.2 r hr (by omega)
      by_cases h2 : wt zs x.toNat ≤ r
      · rw [if_pos h2]
        have h3 := bnd_step h.tail hst.2 (p := wo zs x.toNat) (q := wt zs x.toNat) (by omega) (by omega) hst.1 (r - wt zs x.toNat) (by omega)
        rw [show r - wt zs x.toNat + wt zs x.toNat = r by omega] at h3
        omega
      · rw [if_neg h2]
        have h3 := bnd_dense h.tail (a := wo zs x.toNat) (b := wt zs x.toNat) (by omega) hst.1 (by omega) r hr
        omega

/-- The greedy worth is the worth of some choice that the sack takes. -/
theorem tkn_has {zs L : List Int} (h : Good zs L) (hn : L.Nodup) (r : Int) (hr : 0 ≤ r) : ∃ P : Int → Bool, tkn zs L r = has P (wo zs) L ∧ has P (wt zs) L ≤ r := by
  induction L generalizing r with
  | nil => exact ⟨fun _ => false, rfl, hr⟩
  | cons x t ih =>
    have hnt := List.nodup_cons.1 hn
    have hx := h.head
    have hsame : ∀ (P : Int → Bool) (b : Bool) (f : Nat → Int) (M : List Int), x ∉ M → has (fun y => if y = x then b else P y) f M = has P f M := by
      intro P b f M hM
      induction M with
      | nil => rfl
      | cons y M ihM =>
        simp only [List.mem_cons, not_or] at hM
        simp only [has]
        have e1 : (if y = x then b else P y) = P y := if_neg (Ne.symm hM.1)
        simp only [e1]
        rw [ihM hM.2]
    simp only [tkn]
    by_cases h1 : wt zs x.toNat ≤ r
    · rw [if_pos h1]
      obtain ⟨P, e1, e2⟩ := ih h.tail hnt.2 (r - wt zs x.toNat) (by omega)
      refine ⟨fun y => if y = x then true else P y, ?_, ?_⟩
      · simp only [has]; rw [hsame P true _ t hnt.1, e1]; simp
      · simp only [has]; rw [hsame P true _ t hnt.1]; simp; omega
    · rw [if_neg h1]
      obtain ⟨P, e1, e2⟩ := ih h.tail hnt.2 r hr
      refine ⟨fun y => if y = x then false else P y, ?_, ?_⟩
      · simp only [has]; rw [hsame P false _ t hnt.1, e1]; simp
      · simp only [has]; rw [hsame P false _ t hnt.1]; simp; omega

theorem tkn_pos {zs L : List Int} (h : Good zs L) (r : Int) : 0 ≤ tkn zs L r := by
  induction L generalizing r with
  | nil => exact Int.le_refl _
  | cons x t ih => have := h.head; have h1 := ih h.tail r; have h2 := ih h.tail (r - wt zs x.toNat); simp only [tkn]; split <;> omega
theorem one_pos {zs L : List Int} (h : Good zs L) (room : Int) : 0 ≤ one zs room L := by
  induction L with
  | nil => exact Int.le_refl _
  | cons x t ih => have := h.head; have h1 := ih h.tail; simp only [one]; split <;> omega
theorem one_ge {zs L : List Int} {room x : Int} (h : x ∈ L) (hw : wt zs x.toNat ≤ room) : wo zs x.toNat ≤ one zs room L := by
  induction L with
  | nil => simp at h
  | cons y t ih =>
    simp only [one]
    rcases List.mem_cons.1 h with rfl | h
    · rw [if_pos hw]; omega
    · have := ih h; split <;> omega
theorem one_is {zs L : List Int} (room : Int) : one zs room L = 0 ∨ ∃ x, x ∈ L ∧ wt zs x.toNat ≤ room ∧ one zs room L = wo zs x.toNat := by
  induction L with
  | nil => exact .inl rfl
  | cons y t ih =>
    simp only [one]
    by_cases hw : wt zs y.toNat ≤ room
    · rw [if_pos hw]
      rcases Int.le_total (one zs room t) (wo zs y.toNat) with h | h
      · exact .inr ⟨y, by simp, hw, by omega⟩
      · rcases ih with e | ⟨x, h1, h2, h3⟩
        · exact .inl (by omega)
        · exact .inr ⟨x, by simp [h1], h2, by omega⟩
    · rw [if_neg hw]
      rcases ih with e | ⟨x, h1, h2, h3⟩
      · exact .inl e
      · exact .inr ⟨x, by simp [h1], h2, h3⟩

/-- Among those that fit singly the bound is at most what is taken and one more. -/
theorem bnd_tkn {zs L : List Int} (h : Good zs L) (A : Int) (hA : ∀ x, x ∈ L → wo zs x.toNat ≤ A) (h0 : 0 ≤ A) (r : Int) (hr : 0 ≤ r) : bnd zs L r ≤ tkn zs L r + A := by
  induction L generalizing r with
  | nil => simpa [bnd, tkn] using h0
  | cons x t ih =>
    have hx := h.head
    simp only [bnd, tkn]
    by_cases h1 : wt zs x.toNat ≤ r
    · rw [if_pos h1, if_pos h1]
      have := ih h.tail (fun y hy => hA y (by simp [hy])) (r - wt zs x.toNat) (by omega)
      omega
    · rw [if_neg h1, if_neg h1]
      have h2 := part_le (a := wo zs x.toNat) (b := wt zs x.toNat) (r := r) hx.2.2.1 (by omega) (by omega)
      have h3 := hA x (by simp)
      have h4 := tkn_pos h.tail r
      omega
/-- Those that do not fit singly are never taken. -/
theorem tkn_fit {zs : List Int} (room : Int) (L : List Int) (h : Good zs L) (r : Int) (hr : r ≤ room) : tkn zs (L.filter fun x => decide (wt zs x.toNat ≤ room)) r = tkn zs L r := by
  induction L generalizing r with
  | nil => rfl
  | cons x t ih =>
    have hx := h.head
    by_cases hw : wt zs x.toNat ≤ room
    · rw [List.filter_cons_of_pos (by simpa using hw)]
      simp only [tkn]
      rw [ih h.tail _ (by omega), ih h.tail r hr]
    · rw [List.filter_cons_of_neg (by simpa using hw)]
      simp only [tkn]
      rw [ih h.tail r hr, if_neg (by omega)]
theorem has_fit {zs : List Int} (room : Int) (P : Int → Bool) (f : Nat → Int) (L : List Int) (h : Good zs L) (hw : has P (wt zs) L ≤ room) : has P f (L.filter fun x => decide (wt zs x.toNat ≤ room)) = has P f L := by
  have hpos : ∀ M, Good zs M → 0 ≤ has P (wt zs) M := by
    intro M hM
    induction M with
    | nil => exact Int.le_refl _
    | cons x t ih => have := ih hM.tail; have := hM.head; simp only [has]; split <;> omega
  induction L with
  | nil => rfl
  | cons x t ih =>
    have hx := h.head
    have hpt := hpos t h.tail
    simp only [has] at hw
    by_cases hP : P x = true
    · rw [if_pos hP] at hw
      rw [List.filter_cons_of_pos (by simp; omega)]
      simp only [has]
      rw [ih h.tail (by omega)]
    · rw [if_neg hP] at hw
      by_cases hx2 : wt zs x.toNat ≤ room
      · rw [List.filter_cons_of_pos (by simpa using hx2)]
        simp only [has]
        rw [ih h.tail (by omega)]
      · rw [List.filter_cons_of_neg (by simpa using hx2)]
        simp only [has]
        rw [ih h.tail (by omega), if_neg hP]; omega

/-- A choice's sums, and those over the places. -/
theorem has_places (c : Nat) (f : Nat → Int) (n : Nat) : has (fun x => decide (bitAt c x.toNat = 1)) f (places n) = cf f c n := by
  have happ : ∀ (P : Int → Bool) (L M : List Int), has P f (L ++ M) = has P f L + has P f M := by
    intro P L M
    induction L with
    | nil => simp [has]
    | cons x t ih => simp only [List.cons_append, has]; rw [ih]; omega
  induction n with
  | zero => rfl
  | succ n ih =>
    have e : places (n + 1) = places n ++ [(n : Int)] := by simp [places, List.range_succ]
    rw [e, happ, ih]
    simp only [has, cf, bit_mul, Int.toNat_natCast, decide_eq_true_eq]
    omega
theorem choice_of (P : Int → Bool) (n : Nat) : ∃ c, c < 2 ^ n ∧ ∀ i, i < n → (bitAt c i = 1 ↔ P (i : Int) = true) := by
  induction n with
  | zero => exact ⟨0, by simp, fun i hi => by omega⟩
  | succ n ih =>
    obtain ⟨c, hc, hb⟩ := ih
    by_cases hP : P (n : Int) = true
    · refine ⟨2 ^ n + c, by rw [Nat.pow_succ]; omega, fun i hi => ?_⟩
      rcases Nat.lt_succ_iff_lt_or_eq.1 hi with h | rfl
      · rw [bitAt_add c n i h]; exact hb i h
      · rw [bitAt_top c i hc]; simp [hP]
    · refine ⟨c, by rw [Nat.pow_succ]; omega, fun i hi => ?_⟩
      rcases Nat.lt_succ_iff_lt_or_eq.1 hi with h | rfl
      · exact hb i h
      · rw [bitAt_low c i hc]; simp [hP]
theorem has_choice (P : Int → Bool) (n : Nat) : ∃ c, c < 2 ^ n ∧ ∀ f, has P f (places n) = cf f c n := by
  obtain ⟨c, hc, hb⟩ := choice_of P n
  refine ⟨c, hc, fun f => ?_⟩
  rw [← has_places]
  have : ∀ L : List Int, (∀ x, x ∈ L → ∃ i : Nat, i < n ∧ x = (i : Int)) → has P f L = has (fun x => decide (bitAt c x.toNat = 1)) f L := by
    intro L hL
    induction L with
    | nil => rfl
    | cons x t ih =>
      obtain ⟨i, hi, rfl⟩ := hL x (by simp)
      simp only [has]
      rw [ih (fun y hy => hL y (by simp [hy]))]
      congr 1
      have := hb i hi
      simp only [Int.toNat_natCast, decide_eq_true_eq]
      by_cases hP : P (i : Int) = true
      · rw [if_pos hP, if_pos (this.2 hP)]
      · rw [if_neg hP, if_neg (fun e => hP (this.1 e))]
  refine this _ fun x hx => ?_
  simp only [places, List.mem_map, List.mem_range] at hx
  obtain ⟨i, hi, e⟩ := hx
  exact ⟨i, hi, e.symm⟩

theorem dense_nodup (zs : List Int) (n : Nat) : (dense zs n).Nodup := by
  rw [(dense_perm zs n).nodup_iff]
  unfold places
  rw [List.nodup_iff_pairwise_ne, List.pairwise_map]
  exact List.Pairwise.imp (fun h => by omega) List.pairwise_lt_range
theorem dense_sorted {zs : List Int} {n : Nat} (h : itemsIn zs n = true) : (dense zs n).Pairwise fun x y => wo zs y.toNat * wt zs x.toNat ≤ wo zs x.toNat * wt zs y.toNat :=
  (dense_ahead h).imp (fun h => by rcases h with h | h <;> omega)

/-- The greedy worth. -/
def greedy (zs : List Int) (n : Nat) (room : Int) : Int := max (tkn zs (dense zs n) room) (one zs room (dense zs n))

theorem best_is {zs : List Int} {n : Nat} (room : Int) (h0 : 0 ≤ room) : ∃ c, cf (wt zs) c n ≤ room ∧ cf (wo zs) c n = bestV zs n room (2 ^ n) :=
  ⟨_, (bestA_spec h0 (2 ^ n)).1, (bestA_spec h0 (2 ^ n)).2.1⟩

theorem best_bound {zs : List Int} {n : Nat} (h : itemsIn zs n = true) (room : Int) (h0 : 0 ≤ room) : bestV zs n room (2 ^ n) ≤ bnd zs (dense zs n) room := by
  obtain ⟨c, h1, h2⟩ := best_is (zs := zs) (n := n) room h0
  rw [← h2, ← has_places, ← has_perm _ _ (dense_perm zs n)]
  refine has_bnd (dense_good h) (dense_sorted h) _ room h0 ?_
  rw [has_perm _ _ (dense_perm zs n), has_places]; exact h1
theorem best_greedy {zs : List Int} {n : Nat} (h : itemsIn zs n = true) (room : Int) (h0 : 0 ≤ room) : greedy zs n room ≤ bestV zs n room (2 ^ n) := by
  have h1 : tkn zs (dense zs n) room ≤ bestV zs n room (2 ^ n) := by
    obtain ⟨P, e1, e2⟩ := tkn_has (dense_good h) (dense_nodup zs n) room h0
    obtain ⟨c, hc, he⟩ := has_choice P n
    rw [has_perm _ _ (dense_perm zs n), he] at e1 e2
    rw [e1]
    exact bestV_ge hc e2
  have h2 : one zs room (dense zs n) ≤ bestV zs n room (2 ^ n) := by
    rcases one_is (zs := zs) (L := dense zs n) room with e | ⟨x, hx, hw, e⟩
    · rw [e]; exact (bestV_bd h room _).1
    · obtain ⟨i, hi, rfl⟩ := dense_mem hx
      obtain ⟨c, hc, he⟩ := has_choice (fun y => decide (y = (i : Int))) n
      have hone : ∀ f, has (fun y => decide (y = (i : Int))) f (places n) = f i := by
        intro f
        have happ : ∀ (P : Int → Bool) (L M : List Int), has P f (L ++ M) = has P f L + has P f M := by
          intro P L M
          induction L with
          | nil => simp [has]
          | cons x t ih => simp only [List.cons_append, has]; rw [ih]; omega
        have : ∀ m, has (fun y => decide (y = (i : Int))) f (places m) = if i < m then f i else 0 := by
          intro m
          induction m with
          | zero => rfl
          | succ m ih =>
            have e : places (m + 1) = places m ++ [(m : Int)] := by simp [places, List.range_succ]
            rw [e, happ, ih]
            simp only [has, decide_eq_true_eq, Int.toNat_natCast]
            by_cases hm : m = i
            · subst hm; simp
            · have e2 : ¬((m : Int) = (i : Int)) := by omega
              by_cases h1 : i < m
              · simp [e2, h1, show i < m + 1 by omega]
              · simp [e2, h1, show ¬ i < m + 1 by omega]
        rw [this n, if_pos hi]
      rw [e]
      simp only [Int.toNat_natCast] at hw ⊢
      rw [← hone (wo zs), he]
      refine bestV_ge hc ?_
      rw [← he, hone]; exact hw
  unfold greedy; omega
theorem best_twice {zs : List Int} {n : Nat} (h : itemsIn zs n = true) (room : Int) (h0 : 0 ≤ room) : bestV zs n room (2 ^ n) ≤ 2 * greedy zs n room := by
  obtain ⟨c, h1, h2⟩ := best_is (zs := zs) (n := n) room h0
  rw [← h2, ← has_places, ← has_perm _ _ (dense_perm zs n)]
  rw [← has_places, ← has_perm _ _ (dense_perm zs n)] at h1
  have hg := dense_good h
  have hfg : Good zs ((dense zs n).filter fun x => decide (wt zs x.toNat ≤ room)) := fun x hx => hg x (List.mem_filter.1 hx).1
  rw [← has_fit room _ (wo zs) _ hg h1]
  rw [← has_fit room _ (wt zs) _ hg h1] at h1
  have h3 := has_bnd hfg ((dense_sorted h).filter _) _ room h0 h1
  have h4 := bnd_tkn hfg (one zs room (dense zs n)) (fun x hx => by
    obtain ⟨hx1, hx2⟩ := List.mem_filter.1 hx
    exact one_ge hx1 (of_decide_eq_true hx2)) (one_pos hg room) room h0
  rw [tkn_fit room _ hg room (Int.le_refl _)] at h4
  unfold greedy; omega

end Go.Proofs.Ytfcnlfcjcmpkcaa
