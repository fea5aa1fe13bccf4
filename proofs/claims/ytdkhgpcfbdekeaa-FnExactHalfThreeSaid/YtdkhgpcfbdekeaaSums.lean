/- Plain facts on choices of a list and on their sums: no program in sight. -/
namespace Go.Proofs.Ytdkhgpcfbdekeaa

/-- Bit k of c. -/
def bitAt (c k : Nat) : Nat := c / 2 ^ k % 2

theorem bitAt_01 (c k : Nat) : bitAt c k = 0 ∨ bitAt c k = 1 := by unfold bitAt; omega

theorem bitAt_low (c k : Nat) (h : c < 2 ^ k) : bitAt c k = 0 := by
  unfold bitAt; rw [Nat.div_eq_of_lt h]

theorem bitAt_top (j k : Nat) (h : j < 2 ^ k) : bitAt (2 ^ k + j) k = 1 := by
  unfold bitAt
  rw [Nat.add_div_left _ (Nat.pow_pos (by omega)), Nat.div_eq_of_lt h]

theorem bitAt_add (j k i : Nat) (h : i < k) : bitAt (2 ^ k + j) i = bitAt j i := by
  unfold bitAt
  have e : 2 ^ k = 2 ^ i * (2 * 2 ^ (k - i - 1)) := by
    rw [← Nat.mul_assoc, ← Nat.pow_succ, ← Nat.pow_add]; congr 1; omega
  rw [e, Nat.mul_add_div (Nat.pow_pos (by omega)), Nat.mul_add_mod]

/-- The sum of the choice c among the first k numbers. -/
def cs (l : List Int) (c : Nat) : Nat → Int
  | 0 => 0
  | k + 1 => cs l c k + (bitAt c k : Int) * l[k]?.getD 0

/-- The sum of the first k numbers. -/
def tot (l : List Int) : Nat → Int
  | 0 => 0
  | k + 1 => tot l k + l[k]?.getD 0

def okNum (x : Int) : Bool := decide (1 ≤ x) && decide (x ≤ 60)
/-- A list is as told. -/
def isIn (l : List Int) : Bool := l.all okNum && decide (l.length ≤ 10)

theorem isIn_len {l : List Int} (h : isIn l = true) : l.length ≤ 10 := by
  unfold isIn at h; simp at h; exact h.2

theorem isIn_get {l : List Int} (h : isIn l = true) (k : Nat) (hk : k < l.length) : 1 ≤ l[k]?.getD 0 ∧ l[k]?.getD 0 ≤ 60 := by
  unfold isIn okNum at h; simp at h
  have := h.1 l[k] (List.getElem_mem hk)
  simpa [hk] using this

theorem getD_bd {l : List Int} (h : isIn l = true) (k : Nat) : 0 ≤ l[k]?.getD 0 ∧ l[k]?.getD 0 ≤ 60 := by
  by_cases hk : k < l.length
  · have := isIn_get h k hk; omega
  · simp [Nat.not_lt.1 hk]

theorem isIn_no {l : List Int} {k : Nat} (hk : k < l.length) (h : okNum (l[k]?.getD 0) = false) : isIn l = false := by
  cases e : isIn l with
  | false => rfl
  | true =>
    have := isIn_get e k hk
    unfold okNum at h; simp at h; omega

theorem isIn_long {l : List Int} (h : 10 < l.length) : isIn l = false := by
  cases e : isIn l with
  | false => rfl
  | true => have := isIn_len e; omega

theorem isIn_yes {l : List Int} (h : ∀ j, j < l.length → okNum (l[j]?.getD 0) = true) : isIn l = decide (l.length ≤ 10) := by
  have : l.all okNum = true := by
    rw [List.all_eq_true]
    intro x hx
    obtain ⟨j, hj, rfl⟩ := List.getElem_of_mem hx
    have := h j hj
    simpa [hj] using this
  unfold isIn; rw [this]; rfl

theorem tot_bd {l : List Int} (h : isIn l = true) (k : Nat) : 0 ≤ tot l k ∧ tot l k ≤ 60 * k := by
  induction k with
  | zero => simp [tot]
  | succ k ih => have := getD_bd h k; simp only [tot]; omega

theorem bit_mul (c k : Nat) (x : Int) : (bitAt c k : Int) * x = if bitAt c k = 1 then x else 0 := by
  rcases bitAt_01 c k with e | e <;> simp [e]

theorem cs_bd {l : List Int} (h : isIn l = true) (c k : Nat) : 0 ≤ cs l c k ∧ cs l c k ≤ tot l k := by
  induction k with
  | zero => simp [cs, tot]
  | succ k ih =>
    have := getD_bd h k
    simp only [cs, tot, bit_mul]
    split <;> omega

theorem cs_low (l : List Int) (c k : Nat) (h : c < 2 ^ k) : cs l c (k + 1) = cs l c k := by
  simp [cs, bitAt_low c k h]

theorem cs_add (l : List Int) (j k i : Nat) (h : i ≤ k) : cs l (2 ^ k + j) i = cs l j i := by
  induction i with
  | zero => rfl
  | succ i ih => simp only [cs]; rw [ih (by omega), bitAt_add j k i (by omega)]

theorem cs_top (l : List Int) (j k : Nat) (h : j < 2 ^ k) : cs l (2 ^ k + j) (k + 1) = cs l j k + l[k]?.getD 0 := by
  simp only [cs]; rw [cs_add l j k k (Nat.le_refl _), bitAt_top j k h]; simp

theorem cs_zero (l : List Int) (k : Nat) : cs l 0 k = 0 := by
  induction k with
  | zero => rfl
  | succ k ih => simp [cs, ih, bitAt]

theorem cs_all (l : List Int) (k : Nat) : cs l (2 ^ k - 1) k = tot l k := by
  induction k with
  | zero => rfl
  | succ k ih =>
    have h1 : 2 ^ (k + 1) - 1 = 2 ^ k + (2 ^ k - 1) := by rw [Nat.pow_succ]; have := Nat.pow_pos (n := k) (show 0 < 2 by omega); omega
    have h2 : 2 ^ k - 1 < 2 ^ k := by have := Nat.pow_pos (n := k) (show 0 < 2 by omega); omega
    rw [h1, cs_top l _ k h2, ih]; rfl

/-- How many of the choices below m have the sum v (among the first k numbers). -/
def chosen (l : List Int) (k : Nat) : Nat → Int → Nat
  | 0, _ => 0
  | m + 1, v => chosen l k m v + if cs l m k = v then 1 else 0

/-- The counts, number by number. -/
def cnt (l : List Int) : Nat → Int → Nat
  | 0, v => if v = 0 then 1 else 0
  | k + 1, v => cnt l k v + cnt l k (v - l[k]?.getD 0)

theorem chosen_low (l : List Int) (k m : Nat) (v : Int) (h : m ≤ 2 ^ k) : chosen l (k + 1) m v = chosen l k m v := by
  induction m with
  | zero => rfl
  | succ m ih => simp only [chosen]; rw [ih (by omega), cs_low l m k (by omega)]

theorem chosen_high (l : List Int) (k j : Nat) (v : Int) (h : j ≤ 2 ^ k) :
    chosen l (k + 1) (2 ^ k + j) v = chosen l k (2 ^ k) v + chosen l k j (v - l[k]?.getD 0) := by
  induction j with
  | zero => simp [chosen, chosen_low]
  | succ j ih =>
    rw [← Nat.add_assoc]
    simp only [chosen]
    rw [ih (by omega), cs_top l j k (by omega), Nat.add_assoc]
    congr 2
    by_cases e : cs l j k + l[k]?.getD 0 = v
    · rw [if_pos e, if_pos (by omega)]
    · rw [if_neg e, if_neg (by omega)]

theorem chosen_all (l : List Int) (k : Nat) (v : Int) : chosen l k (2 ^ k) v = cnt l k v := by
  induction k generalizing v with
  | zero => simp [chosen, cnt, cs, eq_comm]
  | succ k ih =>
    have : 2 ^ (k + 1) = 2 ^ k + 2 ^ k := by rw [Nat.pow_succ]; omega
    rw [this, chosen_high l k _ v (Nat.le_refl _), ih, ih]; rfl

theorem chosen_le (l : List Int) (k m : Nat) (v : Int) : chosen l k m v ≤ m := by
  induction m with
  | zero => simp [chosen]
  | succ m ih => simp only [chosen]; split <;> omega

theorem cnt_le (l : List Int) (k : Nat) (v : Int) : cnt l k v ≤ 2 ^ k := by rw [← chosen_all]; exact chosen_le _ _ _ _

theorem cnt_le_1024 (l : List Int) (k : Nat) (v : Int) (h : k ≤ 10) : cnt l k v ≤ 1024 :=
  Nat.le_trans (cnt_le l k v) (Nat.pow_le_pow_right (n := 2) (by omega) h)

theorem chosen_pos {l : List Int} {k m : Nat} {v : Int} : 0 < chosen l k m v ↔ ∃ c, c < m ∧ cs l c k = v := by
  induction m with
  | zero => simp [chosen]
  | succ m ih =>
    simp only [chosen]
    constructor
    · intro h
      by_cases e : cs l m k = v
      · exact ⟨m, by omega, e⟩
      · rw [if_neg e] at h
        obtain ⟨c, hc, hv⟩ := ih.1 (by omega)
        exact ⟨c, by omega, hv⟩
    · rintro ⟨c, hc, hv⟩
      by_cases e : c = m
      · subst e; rw [if_pos hv]; omega
      · have := ih.2 ⟨c, by omega, hv⟩; omega

theorem cnt_pos {l : List Int} {k : Nat} {v : Int} : 0 < cnt l k v ↔ ∃ c, c < 2 ^ k ∧ cs l c k = v := by rw [← chosen_all]; exact chosen_pos

theorem cnt_out {l : List Int} (h : isIn l = true) (k : Nat) (v : Int) (hv : v < 0 ∨ tot l k < v) : cnt l k v = 0 := by
  rcases Nat.eq_zero_or_pos (cnt l k v) with e | e
  · exact e
  · obtain ⟨c, _, hc⟩ := cnt_pos.1 e
    have := cs_bd h c k; omega

/-- The counts as a list: for each number from 0 to the total of the first k numbers. -/
def countsTo (l : List Int) (k : Nat) : List Int := (List.range ((tot l k).toNat + 1)).map fun (v : Nat) => (cnt l k (v : Int) : Int)
def counts (l : List Int) : List Int := countsTo l l.length

theorem countsTo_length (l : List Int) (k : Nat) : (countsTo l k).length = (tot l k).toNat + 1 := by simp [countsTo]

theorem countsTo_getD (l : List Int) (k v : Nat) (h : v < (tot l k).toNat + 1) : (countsTo l k)[v]?.getD 0 = (cnt l k v : Int) := by
  simp [countsTo, h]

theorem eq_of_get {xs ys : List Int} (hl : xs.length = ys.length) (h : ∀ j, j < ys.length → xs[j]?.getD 0 = ys[j]?.getD 0) : xs = ys := by
  apply List.ext_getElem hl
  intro j h1 h2
  have := h j h2
  simpa [h1, h2] using this

/-- n marks from m on. -/
def marked (m n : Nat) : List Int := (List.range n).map fun (j : Nat) => (m : Int) + (j : Int)
theorem marked_length (m n : Nat) : (marked m n).length = n := by simp [marked]
theorem marked_succ (m n : Nat) : marked m (n + 1) = marked m n ++ [(m : Int) + (n : Int)] := by simp [marked, List.range_succ]
theorem mark_step (m : Nat) (zs : List Int) (k : Nat) (hk : k < zs.length) : (marked m k ++ zs.drop k).set k ((m : Int) + (k : Int)) = marked m (k + 1) ++ zs.drop (k + 1) := by
  rw [List.set_append_right _ _ (by rw [marked_length]; omega), marked_length, Nat.sub_self, marked_succ, List.append_assoc, List.drop_eq_getElem_cons hk]
  rfl

theorem marked_get (m n k : Nat) (h : k < n) : (marked m n)[k]?.getD 0 = (m : Int) + (k : Int) := by simp [marked, h]

end Go.Proofs.Ytdkhgpcfbdekeaa
