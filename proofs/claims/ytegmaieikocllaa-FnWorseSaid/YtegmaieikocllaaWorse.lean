/- SackWorse, the program's and the reference's. -/
import Derived.Test.YtegmaieikocllaaGoods
import Derived.Test.YtegmaieikocllaaGrown
namespace Go.Proofs.Ytegmaieikocllaa
open Go.RowKit

set_option maxHeartbeats 1000000

/-- One of the first k items leaves no need of the item (x, y, p). -/
def anyW (zs : List Int) (x y p : Int) : Nat → Bool
  | 0 => false
  | k + 1 => anyW zs x y p k || worseB x y p (wt zs k) (wo zs k) k

theorem anyW_no {zs : List Int} {x y p : Int} {k : Nat} (h : ∀ j, j < k → worseB x y p (wt zs j) (wo zs j) j = false) : anyW zs x y p k = false := by
  induction k with
  | zero => rfl
  | succ k ih => simp only [anyW]; rw [ih (fun j hj => h j (by omega)), h k (by omega)]; rfl
theorem anyW_yes {zs : List Int} {x y p : Int} {k j : Nat} (hj : j < k) (h : worseB x y p (wt zs j) (wo zs j) j = true) : anyW zs x y p k = true := by
  induction k with
  | zero => omega
  | succ k ih =>
    simp only [anyW]
    rcases Nat.lt_succ_iff_lt_or_eq.1 hj with h1 | rfl
    · rw [ih h1]; rfl
    · rw [h]; simp

theorem worseB_no {x y p x' y' p' : Int} (h : ¬(p' ≠ p ∧ x' ≤ x ∧ y ≤ y' ∧ (¬(x' = x ∧ y' = y) ∨ p' < p))) : worseB x y p x' y' p' = false := by
  unfold worseB; exact decide_eq_false h
theorem worseB_yes {x y p x' y' p' : Int} (h : p' ≠ p ∧ x' ≤ x ∧ y ≤ y' ∧ (¬(x' = x ∧ y' = y) ∨ p' < p)) : worseB x y p x' y' p' = true := by
  unfold worseB; exact decide_eq_true h

theorem indexFunc_any (B G n : Nat) (zs : List Int) (w : World) (x y p : Int) (hn : n ≤ 10) (hO : OwnG w B G n (goods zs n)) :
    Calls Try.prog 63 #[.slice (some ⟨G, 0, none⟩) n n, .func (.func 54) #[.agg #[.int .i64 x, .int .i64 y, .int .i64 p]] #[]] w fun e w' => ∃ r : Int, e = .returned (.int .i64 r) ∧ decide (0 ≤ r) = anyW zs x y p n ∧ Below w.heap.size w w' := by
  go_enter Try.func63, Try.ntmps63
  go_wp2
  go_loopw [8] (fun i wr => ∃ k : Nat, k ≤ n ∧ i = .int .i64 k ∧ (∀ j, j < k → worseB x y p (wt zs j) (wo zs j) j = false) ∧ Below w.heap.size w wr) (fun i _ => n - (intOf i).toNat)
  case atStart => exact ⟨0, Nat.zero_le _, rfl, fun j hj => by omega, Below.refl _ _⟩
  case round =>
    obtain ⟨k, hk, rfl, ha, hB⟩ := hrel
    have HA := Lib.hid ha
    clear ha
    by_cases hlt : k < n
    · obtain ⟨c0, c1, c2⟩ := OwnG.goods (hO.behind hB) k hlt
      obtain ⟨x', hx⟩ : ∃ x, wt zs k = x := ⟨_, rfl⟩
      obtain ⟨y', hy⟩ : ∃ x, wo zs k = x := ⟨_, rfl⟩
      rw [hx] at c0
      rw [hy] at c1
      have HX := Lib.hid hx
      have HY := Lib.hid hy
      have hsz := hB.size
      have HB := Lib.hid hB
      clear hx hy hB hO
      cases hq : worseB x y p x' y' k
      · have HQ := Lib.hid hq
        clear hq
        go_wp2_with (go_at_call 54; refine (worse_any _ _ _ _ _ _ _).mono ?_; rw [HQ.out]; rintro e w' ⟨rfl, hB2⟩)
        go_roundw
        case rel => exact ⟨k + 1, by omega, by go_num, fun j hj => by rcases Nat.lt_succ_iff_lt_or_eq.1 hj with h | rfl; exact HA.out j h; rw [HX.out, HY.out]; exact HQ.out, HB.out.trans (hB2.mono hsz)⟩
        case measure => simp [intOf]; omega
      · have HQ := Lib.hid hq
        clear hq
        go_wp2_with (go_at_call 54; refine (worse_any _ _ _ _ _ _ _).mono ?_; rw [HQ.out]; rintro e w' ⟨rfl, hB2⟩)
        go_ret
        refine ⟨_, rfl, ?_, HB.out.trans (hB2.mono hsz)⟩
        rw [anyW_yes hlt (by rw [HX.out, HY.out]; exact HQ.out)]
        simp
    · obtain rfl : k = n := by omega
      go_wp2
      go_ret
      refine ⟨_, rfl, ?_, hB⟩
      rw [anyW_no HA.out]
      simp

theorem containsFunc_any (B G n : Nat) (zs : List Int) (w : World) (x y p : Int) (hn : n ≤ 10) (hO : OwnG w B G n (goods zs n)) :
    Calls Try.prog 53 #[.slice (some ⟨G, 0, none⟩) n n, .func (.func 54) #[.agg #[.int .i64 x, .int .i64 y, .int .i64 p]] #[]] w fun e w' => e = .returned (.bool (anyW zs x y p n)) ∧ Below w.heap.size w w' := by
  go_enter Try.func53, Try.ntmps53
  go_wp2_with (go_at_call 63; refine (indexFunc_any _ _ _ zs _ _ _ _ hn hO).mono ?_; rintro e w' ⟨r, rfl, hr, hB2⟩)
  go_ret
  exact ⟨rfl, hB2⟩

/-- The places among the first k items that another one leaves no need of. -/
def worseTo (zs : List Int) (n : Nat) : Nat → List Int
  | 0 => []
  | k + 1 => if anyW zs (wt zs k) (wo zs k) k n then worseTo zs n k ++ [(k : Int)] else worseTo zs n k
def worseOf (zs : List Int) (n : Nat) : List Int := if itemsIn zs n then worseTo zs n n else []
theorem worseTo_le (zs : List Int) (n k : Nat) : (worseTo zs n k).length ≤ k := by
  induction k with
  | zero => simp [worseTo]
  | succ k ih =>
    simp only [worseTo]
    split
    · simp; omega
    · omega
theorem worseOf_len (zs : List Int) (n : Nat) : (worseOf zs n).length ≤ 10 := by
  unfold worseOf
  split
  · rename_i h; have := worseTo_le zs n n; have := itemsIn_len h; omega
  · simp

theorem OwnG.ne {w : World} {B B' g c G n : Nat} {zs ys : List Int} (h : OwnG w B' G n ys) (k : Owns w B g c zs) : G ≠ g := by
  rintro rfl
  obtain ⟨cur, _, h1, _⟩ := h.parts
  obtain ⟨cur', _, h2, _⟩ := k.parts
  rw [h1] at h2
  simp at h2

theorem implSackWorse_any (b off c n : Nat) (zs : List Int) (w : World) (hn : n ≤ 1152921504606846976) (hz : zs.length = 2 * n) (hr : Row w b off zs) :
    Calls Try.prog 34 #[.slice (some ⟨b, off, none⟩) n c] w fun e w' => ∃ g c', e = .returned (.tuple #[.slice (some ⟨g, 0, none⟩) (worseOf zs n).length c', .bool (itemsIn zs n)]) ∧ Owns w' w.heap.size g c' (worseOf zs n) ∧ Below w.heap.size w w' := by
  unfold worseOf
  cases hin : itemsIn zs n
  · go_enter Try.func34, Try.ntmps34
    go_wp2_with (go_at_call 19; refine (implSackIn_any _ _ _ _ zs _ hn hz hr).mono ?_; rw [hin]; rintro e w2 ⟨rfl, hB⟩)
    go_ret2
    exact ⟨_, _, rfl, owns_empty _ _ hB.size, hB.alloc hB.size _⟩
  · simp only [if_true]
    have hlen := itemsIn_len hin
    obtain ⟨i0, hi, hz0, hz1, hz2⟩ := info_parts info_int
    have HIN := Lib.hid hin
    clear hin
    go_enter Try.func34, Try.ntmps34
    go_wp2_with (first | (go_at_call 19; refine (implSackIn_any _ _ _ _ zs _ hn hz hr).mono ?_; rw [HIN.out]; rintro e w2 ⟨rfl, hB⟩) | (go_at_call 52; refine (goodsOf_any _ _ _ _ zs _ hlen hz (hr.behind hB)).mono ?_; rintro e w3 ⟨G, rfl, hG, hB3⟩))
    have hT := hB.trans (hB3.mono hB.size)
    have hO := owns_empty w3 w.heap.size hT.size
    have hG2 := hG.behind (Below.alloc (Below.refl _ _) (Nat.le_refl _) (.cells #[] 3))
    have hT2 := hT.alloc hT.size (.cells #[] 3)
    obtain ⟨w4, hw4⟩ : ∃ w4, w3.alloc (.cells #[] 3) = w4 := ⟨_, rfl⟩
    rw [hw4] at hO hG2 hT2 ⊢
    have HG := Lib.hid hG2
    have HO := Lib.hid hO
    have HT := Lib.hid hT2
    clear hw4 hG hB3 hT hO hG2 hT2 hB
    go_loopw [17, 5, 7] (fun i o _ wr => ∃ (k g c' : Nat), k ≤ n ∧ i = .int .i64 k ∧ o = .slice (some ⟨g, 0, none⟩) (worseTo zs n k).length c' ∧ Owns wr w.heap.size g c' (worseTo zs n k) ∧ OwnG wr w2.heap.size G n (goods zs n) ∧ Below w.heap.size w wr) (fun i _ _ _ => n - (intOf i).toNat)
    case atStart => exact ⟨0, _, _, Nat.zero_le _, rfl, rfl, HO.out, HG.out, HT.out⟩
    case round =>
      obtain ⟨k, g, c', hk, rfl, rfl, hO, hG, hB⟩ := hrel
      clear HO HG HT
      by_cases hlt : k < n
      · obtain ⟨c0, c1, c2⟩ := OwnG.goods hG k hlt
        have hst : worseTo zs n (k + 1) = if anyW zs (wt zs k) (wo zs k) k n then worseTo zs n k ++ [(k : Int)] else worseTo zs n k := rfl
        have hL := worseTo_le zs n k
        obtain ⟨x, hx⟩ : ∃ x, wt zs k = x := ⟨_, rfl⟩
        obtain ⟨y, hy⟩ : ∃ x, wo zs k = x := ⟨_, rfl⟩
        obtain ⟨L, hLd⟩ : ∃ L, worseTo zs n k = L := ⟨_, rfl⟩
        rw [hx, hy, hLd] at hst
        rw [hx] at c0
        rw [hy] at c1
        rw [hLd] at hL hO ⊢
        have hsz := hB.size
        have hb0 : (wr.alloc (.cells #[.int .i64 x, .int .i64 y, .int .i64 (k : Int)] 63)).cell? ⟨wr.heap.size, 2, none⟩ = some (.int .i64 (k : Int)) := World.cell?_alloc_new _ _ _ 2
        have hG1 := hG.behind (Below.alloc (Below.refl _ wr) (Nat.le_refl _) (.cells #[.int .i64 x, .int .i64 y, .int .i64 (k : Int)] 63))
        have hO1 := hO.alloc (.cells #[.int .i64 x, .int .i64 y, .int .i64 (k : Int)] 63)
        have hB1 := hB.alloc hsz (.cells #[.int .i64 x, .int .i64 y, .int .i64 (k : Int)] 63)
        have hz1w : (wr.alloc (.cells #[.int .i64 x, .int .i64 y, .int .i64 (k : Int)] 63)).heap.size = wr.heap.size + 1 := by simp
        have HST := Lib.hid hst
        have HG := Lib.hid hG1
        have HO := Lib.hid hO1
        have HB := Lib.hid hB1
        have HC := Lib.hid hb0
        clear hx hy hLd hst hG hO hB hb0 hG1 hO1 hB1
        cases hq : anyW zs x y k n
        · have HQ := Lib.hid hq
          clear hq
          go_wp2_with (go_at_call 53; refine (containsFunc_any _ _ _ zs _ _ _ _ hlen HG.out).mono ?_; rw [HQ.out]; rintro e w' ⟨rfl, hB2⟩)
          go_roundw
          case rel => exact ⟨k + 1, g, c', by omega, by go_num, by rw [HST.out, HQ.out]; rfl, by rw [HST.out, HQ.out]; exact HO.out.behind hB2, HG.out.behind hB2, HB.out.trans (hB2.mono (by omega))⟩
          case measure => simp [intOf]; omega
        · have HQ := Lib.hid hq
          clear hq
          go_wp2_with (first | (go_at_call 53; refine (containsFunc_any _ _ _ zs _ _ _ _ hlen HG.out).mono ?_; rw [HQ.out]; rintro e w' ⟨rfl, hB2⟩; have hc := (hB2.cell (p := ⟨wr.heap.size, 2, none⟩) (by simp)).trans HC.out; have hO2 := HO.out.behind hB2; have hG2 := HG.out.behind hB2; have hB3 := HB.out.trans (hB2.mono (by omega)); have hs2 := hB2.size; clear hB2) | (at_builtin; refine wpList_append_own _ rfl _ _ 32 rfl w.heap.size 3 i0 (.int .i64 0) 1 8 Try.underlying32 hi hz0 hz1 hz2 rfl (by decide) _ _ _ rfl (hO2.alloc _) ⟨w'.heap.size, 0, none⟩ 1 1 [.int .i64 (k : Int)] rfl rfl (cell_one_new _ _ _) (by simp [Value.oneCell']) (by unfold maxLen; omega) (by omega) (by have := hB3.size; simp; omega) ?_; intro v' w1 hown' hgrow _; have hG3 := ((hG2.behind (Below.alloc (Below.refl _ w') (Nat.le_refl _) (.cells #[.int .i64 (k : Int)] 3)))); have hne := hG2.ne hO2; have hgr : (w'.alloc (.cells #[.int .i64 (k : Int)] 3)).grownBy w1 (some g) := hgrow; have hG4 := hG3.of_block (hgr.block G hG3.lt (fun e => hne (by simpa using e))); obtain ⟨g2, c2, rfl, hO3, hB4⟩ := owns_appended hO2 hown' hgrow hB3 (Nat.le_refl _) hB3.size))
          go_roundw
          case rel => exact ⟨k + 1, g2, c2, by omega, by go_num, by rw [HST.out, HQ.out, if_pos rfl, List.length_append]; rfl, by rw [HST.out, HQ.out]; exact hO3, hG4, hB4⟩
          case measure => simp [intOf]; omega
      · obtain rfl : k = n := by omega
        go_wp2
        go_ret2
        exact ⟨_, _, rfl, hO, hB⟩

set_option maxHeartbeats 4000000 in
theorem specSackWorse_any (b off c n : Nat) (zs : List Int) (w : World) (hn : n ≤ 1152921504606846976) (hz : zs.length = 2 * n) (hr : Row w b off zs) :
    Calls Try.prog 33 #[.slice (some ⟨b, off, none⟩) n c] w fun e w' => ∃ g c', e = .returned (.tuple #[.slice (some ⟨g, 0, none⟩) (worseOf zs n).length c', .bool (itemsIn zs n)]) ∧ Owns w' w.heap.size g c' (worseOf zs n) ∧ Below w.heap.size w w' := by
  have hO := owns_empty w w.heap.size (Nat.le_refl _)
  have hB : Below w.heap.size w (w.alloc (.cells #[] 3)) := by go_grown
  have hr1 := hr.alloc (.cells #[] 3)
  unfold worseOf
  cases hin : itemsIn zs n
  · go_enter Try.func33, Try.ntmps33
    go_wp2_with (go_at_call 17; refine (specSackIn_at _ _ _ _ zs _ hn hz hr1).mono ?_; rw [hin]; rintro e w2 ⟨rfl, rfl⟩)
    go_ret2
    exact ⟨_, _, rfl, hO, hB⟩
  · simp only [if_true]
    have hlen := itemsIn_len hin
    obtain ⟨i0, hi, hz0, hz1, hz2⟩ := info_parts info_int
    have HIN := Lib.hid hin
    clear hin
    go_enter Try.func33, Try.ntmps33
    go_wp2_with (go_at_call 17; refine (specSackIn_at _ _ _ _ zs _ hn hz hr1).mono ?_; rw [HIN.out]; rintro e w2 ⟨rfl, rfl⟩)
    obtain ⟨w4, hw4⟩ : ∃ w4, w.alloc (.cells #[] 3) = w4 := ⟨_, rfl⟩
    rw [hw4] at hO hB ⊢
    have HO := Lib.hid hO
    have HB := Lib.hid hB
    clear hw4 hO hB hr1
    go_loopw [5, 4, 6, 7, 8, 9] (fun i o _ _ _ _ wr => ∃ (k g c' : Nat), k ≤ n ∧ i = .int .i64 k ∧ o = .slice (some ⟨g, 0, none⟩) (worseTo zs n k).length c' ∧ Owns wr w.heap.size g c' (worseTo zs n k) ∧ Below w.heap.size w wr) (fun i _ _ _ _ _ _ => n - (intOf i).toNat)
    case atStart => exact ⟨0, _, _, Nat.zero_le _, rfl, rfl, HO.out, HB.out⟩
    case round =>
      obtain ⟨k, g, c', hk, rfl, rfl, hO, hB⟩ := hrel
      obtain ⟨wo1, rfl⟩ : ∃ wo1 : World, wo1 = wr := ⟨_, rfl⟩
      clear HO HB
      by_cases hlt : k < n
      · have hst : worseTo zs n (k + 1) = if anyW zs (wt zs k) (wo zs k) k n then worseTo zs n k ++ [(k : Int)] else worseTo zs n k := rfl
        have hL := worseTo_le zs n k
        obtain ⟨x, hx⟩ : ∃ x, wt zs k = x := ⟨_, rfl⟩
        obtain ⟨y, hy⟩ : ∃ x, wo zs k = x := ⟨_, rfl⟩
        obtain ⟨L, hLd⟩ : ∃ L, worseTo zs n k = L := ⟨_, rfl⟩
        rw [hx, hy, hLd] at hst
        rw [hLd] at hL hO ⊢
        have HST := Lib.hid hst
        have HX := Lib.hid hx
        have HY := Lib.hid hy
        have HO := Lib.hid hO
        have HB := Lib.hid hB
        clear hx hy hLd hst hO hB
        go_wp2
        go_loopw [6, 7, 8, 9] (fun u j _ _ wr => ∃ m : Nat, m ≤ n ∧ j = .int .i64 m ∧ u = .bool (anyW zs x y k m) ∧ Owns wr w.heap.size g c' L ∧ Below w.heap.size w wr) (fun _ j _ _ _ => n - (intOf j).toNat)
        case atStart => exact ⟨0, Nat.zero_le _, rfl, rfl, HO.out, HB.out⟩
        case round =>
          obtain ⟨m, hm, rfl, rfl, hO, hB⟩ := hrel
          clear HO HB
          by_cases hltm : m < n
          · have c0 := Row.wt (hr.behind hB) hz m hltm
            have c1 := Row.wo (hr.behind hB) hz m hltm
            have d0 := Row.wt (hr.behind hB) hz k hlt
            have d1 := Row.wo (hr.behind hB) hz k hlt
            have hst : anyW zs x y k (m + 1) = (anyW zs x y k m || worseB x y k (wt zs m) (wo zs m) m) := rfl
            obtain ⟨x', hx⟩ : ∃ x, wt zs m = x := ⟨_, rfl⟩
            obtain ⟨y', hy⟩ : ∃ x, wo zs m = x := ⟨_, rfl⟩
            obtain ⟨q, hq⟩ : ∃ q, anyW zs x y k m = q := ⟨_, rfl⟩
            rw [hx, hy, hq] at hst
            rw [hx] at c0
            rw [hy] at c1
            rw [HX.out] at d0
            rw [HY.out] at d1
            rw [hq] at ⊢
            have hsz := hB.size
            have hb0 : b < wr.heap.size := by have := hr.1; omega
            have hO2 := (hO.alloc (.cells #[.int .i64 x', .int .i64 y'] 42)).alloc (.cells #[.int .i64 x, .int .i64 y] 42)
            have hB1 := hB.alloc hsz (.cells #[.int .i64 x', .int .i64 y'] 42)
            have hB2 := hB1.alloc hB1.size (.cells #[.int .i64 x, .int .i64 y] 42)
            have HST := Lib.hid hst
            have HO := Lib.hid hO2
            have HB := Lib.hid hB2
            clear hx hy hst hO hB hO2 hB1 hB2 hq
            cases q
            · by_cases h1 : m = k
              · have b1 : ((m : Int) != (k : Int)) = false := by simp [h1]
                have H1 := Lib.hid h1
                clear h1
                go_wp2
                go_roundw
                case rel => exact ⟨m + 1, by omega, by go_num, by rw [HST.out, worseB_no (by have := H1.out; omega)]; rfl, HO.out, HB.out⟩
                case measure => simp [intOf]; omega
              · have b1 : ((m : Int) != (k : Int)) = true := by simp; omega
                by_cases h2 : x' ≤ x
                · by_cases h3 : y ≤ y'
                  · have h1' : (m : Int) ≠ (k : Int) := by omega
                    have H1 := Lib.hid h1'
                    clear h1 h1'
                    by_cases h4 : x' = x ∧ y' = y
                    · obtain ⟨rfl, rfl⟩ := h4
                      have b4 : (x' == x') = true := by simp
                      have b5 : (y' == y') = true := by simp
                      by_cases h5 : m < k
                      · go_wp2
                        go_roundw
                        case rel => exact ⟨m + 1, by omega, by go_num, by rw [HST.out, worseB_yes (by exact ⟨H1.out, h2, h3, .inr (by omega)⟩)]; rfl, HO.out, HB.out⟩
                        case measure => simp [intOf]; omega
                      · go_wp2
                        go_roundw
                        case rel => exact ⟨m + 1, by omega, by go_num, by rw [HST.out, worseB_no (by omega)]; rfl, HO.out, HB.out⟩
                        case measure => simp [intOf]; omega
                    · have b4 : (x' == x && y' == y) = false := by simp; omega
                      have b5 : (x' == x) = false ∨ (y' == y) = false := by simp; omega
                      have H4 := Lib.hid h4
                      clear h4
                      rcases b5 with b5 | b5
                      · go_wp2
                        go_roundw
                        case rel => exact ⟨m + 1, by omega, by go_num, by rw [HST.out, worseB_yes (by exact ⟨H1.out, h2, h3, .inl H4.out⟩)]; rfl, HO.out, HB.out⟩
                        case measure => simp [intOf]; omega
                      · go_wp2
                        go_roundw
                        case rel => exact ⟨m + 1, by omega, by go_num, by rw [HST.out, worseB_yes (by exact ⟨H1.out, h2, h3, .inl H4.out⟩)]; rfl, HO.out, HB.out⟩
                        case measure => simp [intOf]; omega
                  · clear h1
                    go_wp2
                    go_roundw
                    case rel => exact ⟨m + 1, by omega, by go_num, by rw [HST.out, worseB_no (by omega)]; rfl, HO.out, HB.out⟩
                    case measure => simp [intOf]; omega
                · clear h1
                  go_wp2
                  go_roundw
                  case rel => exact ⟨m + 1, by omega, by go_num, by rw [HST.out, worseB_no (by omega)]; rfl, HO.out, HB.out⟩
                  case measure => simp [intOf]; omega
            · go_wp2
              go_roundw
              case rel => exact ⟨m + 1, by omega, by go_num, by rw [HST.out]; rfl, HO.out, HB.out⟩
              case measure => simp [intOf]; omega
          · obtain rfl : m = n := by omega
            cases hq : anyW zs x y k m
            · have HQ := Lib.hid hq
              clear hq
              go_wp2
              go_roundw
              case rel => exact ⟨k + 1, g, c', by omega, by go_num, by rw [HST.out, HQ.out]; rfl, by rw [HST.out, HQ.out]; exact hO, hB⟩
              case measure => simp [intOf]; omega
            · have HQ := Lib.hid hq
              clear hq
              go_wp2_with (at_builtin; refine wpList_append_own _ rfl _ _ 32 rfl w.heap.size 3 i0 (.int .i64 0) 1 8 Try.underlying32 hi hz0 hz1 hz2 rfl (by decide) _ _ _ rfl (hO.alloc _) ⟨wr.heap.size, 0, none⟩ 1 1 [.int .i64 (k : Int)] rfl rfl (cell_one_new _ _ _) (by simp [Value.oneCell']) (by unfold maxLen; omega) (by omega) (by have := hB.size; simp; omega) ?_; intro v' w1 hown' hgrow _; obtain ⟨g2, c2, rfl, hO3, hB4⟩ := owns_appended hO hown' hgrow hB (Nat.le_refl _) hB.size)
              go_roundw
              case rel => exact ⟨k + 1, g2, c2, by omega, by go_num, by rw [HST.out, HQ.out, if_pos rfl, List.length_append]; rfl, by rw [HST.out, HQ.out]; exact hO3, hB4⟩
              case measure => simp [intOf]; omega
      · obtain rfl : k = n := by omega
        go_wp2
        go_ret2
        exact ⟨_, _, rfl, hO, hB⟩

end Go.Proofs.Ytegmaieikocllaa
