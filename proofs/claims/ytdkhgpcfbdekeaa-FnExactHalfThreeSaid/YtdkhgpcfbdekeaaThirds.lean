/- Parting a list in three: the least greatest sum, by assignments and by masks. No program in sight. -/
import Derived.Test.YtdkhgpcfbdekeaaSigns
namespace Go.Proofs.Ytdkhgpcfbdekeaa

/-- The least greatest of three sums, a, b, c so far. -/
def best3 : List Int → Int → Int → Int → Int
  | [], a, b, c => max (max a b) c
  | x :: l, a, b, c => min (min (best3 l (a + x) b c) (best3 l a (b + x) c)) (best3 l a b (c + x))
theorem best3_drop (zs : List Int) (p : Nat) (h : p < zs.length) (a b c : Int) : best3 (zs.drop p) a b c = min (min (best3 (zs.drop (p + 1)) (a + zs[p]?.getD 0) b c) (best3 (zs.drop (p + 1)) a (b + zs[p]?.getD 0) c)) (best3 (zs.drop (p + 1)) a b (c + zs[p]?.getD 0)) := by
  rw [List.drop_eq_getElem_cons h]
  simp [best3, h]
theorem best3_end (zs : List Int) (a b c : Int) : best3 (zs.drop zs.length) a b c = max (max a b) c := by simp [best3]

def Apart (p q : Nat) : Prop := ∀ i, ¬ (bitAt p i = 1 ∧ bitAt q i = 1)
theorem Apart.half {p q : Nat} (h : Apart p q) : Apart (p / 2) (q / 2) := fun i => by rw [bitAt_half, bitAt_half]; exact h (i + 1)
theorem bitAt_zero (c : Nat) : bitAt c 0 = c % 2 := by simp [bitAt]
theorem apart_cons {p q : Nat} (h : Apart p q) {a b : Nat} (ha : a ≤ 1) (hb : b ≤ 1) (hab : ¬ (a = 1 ∧ b = 1)) : Apart (2 * p + a) (2 * q + b) := by
  intro i
  cases i with
  | zero => rw [bitAt_zero, bitAt_zero]; omega
  | succ i =>
    rw [← bitAt_half, ← bitAt_half, show (2 * p + a) / 2 = p by omega, show (2 * q + b) / 2 = q by omega]
    exact h i

theorem best3_le (l : List Int) (a b c : Int) (p q : Nat) (h : Apart p q) :
    best3 l a b c ≤ max (max (a + cs l p l.length) (b + cs l q l.length)) (c + (tot l l.length - cs l p l.length - cs l q l.length)) := by
  induction l generalizing a b c p q with
  | nil => simp [best3, tot, cs]
  | cons x l ih =>
    simp only [best3, List.length_cons]
    rw [cs_cons, cs_cons, tot_cons]
    have h0 := h 0
    have i1 := ih (a + x) b c _ _ h.half
    have i2 := ih a (b + x) c _ _ h.half
    have i3 := ih a b (c + x) _ _ h.half
    generalize cs l (p / 2) l.length = P at *
    generalize cs l (q / 2) l.length = Q at *
    rcases bitAt_01 p 0 with e | e <;> rcases bitAt_01 q 0 with f | f <;> rw [e, f]
    · simp; omega
    · simp; omega
    · simp; omega
    · exact absurd ⟨e, f⟩ h0
theorem best3_at (l : List Int) (a b c : Int) : ∃ p q, p < 2 ^ l.length ∧ q < 2 ^ l.length ∧ Apart p q ∧
    best3 l a b c = max (max (a + cs l p l.length) (b + cs l q l.length)) (c + (tot l l.length - cs l p l.length - cs l q l.length)) := by
  induction l generalizing a b c with
  | nil => exact ⟨0, 0, by simp, by simp, fun i => by simp [bitAt], by simp [best3, tot, cs]⟩
  | cons x l ih =>
    obtain ⟨p1, q1, h1, k1, a1, e1⟩ := ih (a + x) b c
    obtain ⟨p2, q2, h2, k2, a2, e2⟩ := ih a (b + x) c
    obtain ⟨p3, q3, h3, k3, a3, e3⟩ := ih a b (c + x)
    simp only [best3, List.length_cons, Nat.pow_succ]
    have hb : ∀ (p a : Nat), a ≤ 1 → bitAt (2 * p + a) 0 = a := fun p a ha => by rw [bitAt_zero]; omega
    have hd : ∀ (p a : Nat), a ≤ 1 → (2 * p + a) / 2 = p := fun p a ha => by omega
    rcases (by omega : min (min (best3 l (a + x) b c) (best3 l a (b + x) c)) (best3 l a b (c + x)) = best3 l (a + x) b c ∨ min (min (best3 l (a + x) b c) (best3 l a (b + x) c)) (best3 l a b (c + x)) = best3 l a (b + x) c ∨ min (min (best3 l (a + x) b c) (best3 l a (b + x) c)) (best3 l a b (c + x)) = best3 l a b (c + x)) with e | e | e <;> rw [e]
    · refine ⟨2 * p1 + 1, 2 * q1 + 0, by omega, by omega, apart_cons a1 (by omega) (by omega) (by omega), ?_⟩
      rw [cs_cons, cs_cons, tot_cons, hb _ _ (by omega), hb _ _ (by omega), hd _ _ (by omega), hd _ _ (by omega), e1]
      simp; omega
    · refine ⟨2 * p2 + 0, 2 * q2 + 1, by omega, by omega, apart_cons a2 (by omega) (by omega) (by omega), ?_⟩
      rw [cs_cons, cs_cons, tot_cons, hb _ _ (by omega), hb _ _ (by omega), hd _ _ (by omega), hd _ _ (by omega), e2]
      simp; omega
    · refine ⟨2 * p3 + 0, 2 * q3 + 0, by omega, by omega, apart_cons a3 (by omega) (by omega) (by omega), ?_⟩
      rw [cs_cons, cs_cons, tot_cons, hb _ _ (by omega), hb _ _ (by omega), hd _ _ (by omega), hd _ _ (by omega), e3]
      simp; omega

/-- The next smaller mask within r. -/
theorem next_le (m : Nat) : ∀ q r, q &&& r = q → m &&& r = m → q < m → q ≤ (m - 1) &&& r := by
  induction m using Nat.strongRecOn with
  | _ m ih =>
    intro q r hq hm hlt
    have q2 : q / 2 &&& r / 2 = q / 2 := by rw [← Nat.and_div_two, hq]
    have m2 : m / 2 &&& r / 2 = m / 2 := by rw [← Nat.and_div_two, hm]
    have z2 := Nat.and_div_two (a := m - 1) (b := r)
    rcases Nat.mod_two_eq_zero_or_one m with h | h
    · have hl : q / 2 < m / 2 := by omega
      have := ih (m / 2) (by omega) (q / 2) (r / 2) q2 m2 hl
      rw [show (m - 1) / 2 = m / 2 - 1 by omega] at z2
      have hbit : q % 2 = 1 → ((m - 1) &&& r) % 2 = 1 := fun h1 => by
        rw [Nat.and_mod_two_eq_one]
        refine ⟨by omega, ?_⟩
        have : (q &&& r) % 2 = 1 := by rw [hq]; exact h1
        exact (Nat.and_mod_two_eq_one.1 this).2
      generalize (m - 1) &&& r = Z at *
      omega
    · rw [show (m - 1) / 2 = m / 2 by omega, m2] at z2
      generalize (m - 1) &&& r = Z at *
      omega

theorem bitAt_test (c i : Nat) : c.testBit i = decide (bitAt c i = 1) := by
  unfold bitAt; exact Nat.testBit_eq_decide_div_mod_eq
/-- The masks apart from p. -/
def rest (n p : Nat) : Nat := 2 ^ n - (p + 1)
theorem rest_bit {n p : Nat} (hp : p < 2 ^ n) (i : Nat) : (rest n p).testBit i = (decide (i < n) && !p.testBit i) := Nat.testBit_two_pow_sub_succ hp i
theorem sub_of {n p q : Nat} (hp : p < 2 ^ n) (hq : q < 2 ^ n) (h : Apart p q) : q &&& rest n p = q := by
  refine Nat.eq_of_testBit_eq fun i => ?_
  rw [Nat.testBit_and, rest_bit hp]
  rcases Nat.lt_or_ge i n with hi | hi
  · have := h i
    rw [bitAt_test, bitAt_test]
    by_cases h1 : bitAt q i = 1
    · have h2 : ¬ bitAt p i = 1 := fun e => this ⟨e, h1⟩
      simp [h1, h2, hi]
    · simp [h1]
  · have hz : q.testBit i = false := Nat.testBit_lt_two_pow (Nat.lt_of_lt_of_le hq (Nat.pow_le_pow_right (by omega) hi))
    rw [hz]; rfl
theorem apart_of {n p q : Nat} (hp : p < 2 ^ n) (h : q &&& rest n p = q) : Apart p q := by
  rintro i ⟨h1, h2⟩
  have : (q &&& rest n p).testBit i = true := by rw [h, bitAt_test]; simp [h2]
  rw [Nat.testBit_and, rest_bit hp, bitAt_test p] at this
  simp [h1] at this
theorem sub_le {q r : Nat} (h : q &&& r = q) : q ≤ r := by rw [← h]; exact Nat.and_le_right

def m3 (zs : List Int) (p q : Nat) : Int := max (max (cs zs p zs.length) (cs zs q zs.length)) (tot zs zs.length - cs zs p zs.length - cs zs q zs.length)
def Got (zs : List Int) (B : Int) : Prop := B = tot zs zs.length ∨ ∃ p q, p < 2 ^ zs.length ∧ q &&& rest zs.length p = q ∧ B = m3 zs p q
/-- B is the least over all first masks below k. -/
def Done (zs : List Int) (k : Nat) (B : Int) : Prop :=
  B ≤ tot zs zs.length ∧ (∀ p q, p < k → p < 2 ^ zs.length → q &&& rest zs.length p = q → B ≤ m3 zs p q) ∧ Got zs B
/-- The same, and over the second masks above m for the first mask k. -/
def Half (zs : List Int) (k m : Nat) (B : Int) : Prop :=
  Done zs k B ∧ ∀ q, q &&& rest zs.length k = q → m < q → B ≤ m3 zs k q
theorem done_zero (zs : List Int) : Done zs 0 (tot zs zs.length) := ⟨Int.le_refl _, fun _ _ h => absurd h (Nat.not_lt_zero _), .inl rfl⟩
theorem Done.skip {zs : List Int} {k : Nat} {B : Int} (h : Done zs k B) (hk : B ≤ cs zs k zs.length) : Done zs (k + 1) B := by
  refine ⟨h.1, fun p q h1 h2 h3 => ?_, h.2.2⟩
  by_cases e : p = k
  · subst e; unfold m3; omega
  · exact h.2.1 p q (by omega) h2 h3
theorem Done.start {zs : List Int} {k : Nat} {B : Int} (h : Done zs k B) : Half zs k (rest zs.length k) B :=
  ⟨h, fun q h1 h2 => by have := sub_le h1; omega⟩
theorem got_min {zs : List Int} {k m : Nat} {B : Int} (h : Got zs B) (hk : k < 2 ^ zs.length) (hm : m &&& rest zs.length k = m) : Got zs (min B (m3 zs k m)) := by
  rcases (by omega : min B (m3 zs k m) = B ∨ min B (m3 zs k m) = m3 zs k m) with e | e
  · rw [e]; exact h
  · rw [e]; exact .inr ⟨k, m, hk, hm, rfl⟩
theorem Half.step {zs : List Int} {k m : Nat} {B : Int} (h : Half zs k m B) (hk : k < 2 ^ zs.length) (hm : m &&& rest zs.length k = m) (h0 : 0 < m) :
    Half zs k ((m - 1) &&& rest zs.length k) (min B (m3 zs k m)) := by
  refine ⟨⟨?_, fun p q h1 h2 h3 => ?_, got_min h.1.2.2 hk hm⟩, fun q h1 h2 => ?_⟩
  · have := h.1.1; omega
  · have := h.1.2.1 p q h1 h2 h3; omega
  · by_cases e : q = m
    · subst e; omega
    · have h3 : m < q := by
        rcases Nat.lt_or_ge m q with h4 | h4
        · exact h4
        · have := next_le m q _ h1 hm (by omega); omega
      have := h.2 q h1 h3; omega
theorem Half.last {zs : List Int} {k : Nat} {B : Int} (h : Half zs k 0 B) (hk : k < 2 ^ zs.length) : Done zs (k + 1) (min B (m3 zs k 0)) := by
  refine ⟨?_, fun p q h1 h2 h3 => ?_, got_min h.1.2.2 hk (Nat.zero_and _)⟩
  · have := h.1.1; omega
  · by_cases e : p = k
    · subst e
      by_cases e2 : q = 0
      · subst e2; omega
      · have := h.2 q h3 (by omega); omega
    · have := h.1.2.1 p q (by omega) h2 h3; omega
theorem next_sub (m r : Nat) : ((m - 1) &&& r) &&& r = (m - 1) &&& r := by rw [Nat.and_assoc, Nat.and_self]
theorem Done.all {zs : List Int} {B : Int} (h : Done zs (2 ^ zs.length) B) : B = min (tot zs zs.length) (best3 zs 0 0 0) := by
  obtain ⟨p, q, h1, h2, h3, h4⟩ := best3_at zs 0 0 0
  have hb : best3 zs 0 0 0 = m3 zs p q := by rw [h4]; unfold m3; simp only [Int.zero_add]
  have hle := h.2.1 p q h1 h1 (sub_of h1 h2 h3)
  have ht := h.1
  rcases h.2.2 with e | ⟨p', q', h5, h6, e⟩
  · omega
  · have := best3_le zs 0 0 0 p' q' (apart_of h5 h6)
    have hb2 : m3 zs p' q' = max (max (0 + cs zs p' zs.length) (0 + cs zs q' zs.length)) (0 + (tot zs zs.length - cs zs p' zs.length - cs zs q' zs.length)) := by unfold m3; simp only [Int.zero_add]
    rw [← hb2] at this
    omega

end Go.Proofs.Ytdkhgpcfbdekeaa
