/- Goods in dense order: the library's stable sort of a short list, met by its contract. -/
import Derived.Test.YtfcnlfcjcmpkcaaGoods
import Derived.Test.YtfcnlfcjcmpkcaaDense
import Derived.Test.YtfcnlfcjcmpkcaaShelf
import Derived.Sort.OwnSortedInts
namespace Go.Proofs.Ytfcnlfcjcmpkcaa
open Go.RowKit Go.Sort Go.Lib
set_option maxHeartbeats 1000000

/-- The cells of the goods of the places D, one behind the other. -/
def goodAt (zs D : List Int) (j : Nat) : Int := if j % 3 = 0 then wt zs (D[j / 3]?.getD 0).toNat else if j % 3 = 1 then wo zs (D[j / 3]?.getD 0).toNat else D[j / 3]?.getD 0
def goodsBy (zs D : List Int) : List Int := tab (3 * D.length) (goodAt zs D)
def encG (zs : List Int) (p : Int) : List Value := [.int .i64 (wt zs p.toNat), .int .i64 (wo zs p.toNat), .int .i64 p]

theorem goodAt_enc (zs D : List Int) (j : Nat) (hj : j < 3 * D.length) : (encG zs (D.toArray[j / 3]!))[j % 3]! = .int .i64 (goodAt zs D j) := by
  have e : D.toArray[j / 3]! = D[j / 3]?.getD 0 := by
    have : j / 3 < D.length := by omega
    simp [this]
  rw [e]
  unfold encG goodAt
  rcases (by omega : j % 3 = 0 ∨ j % 3 = 1 ∨ j % 3 = 2) with h | h | h <;> rw [h] <;> rfl

theorem holds_by (zs D : List Int) (w : World) (G : Nat) : HoldsK (encG zs) 3 w G 0 D.toArray ↔ ∀ j, j < 3 * D.length → w.cell? ⟨G, j, none⟩ = some (.int .i64 (goodAt zs D j)) ∧ w.frozen? ⟨G, j, none⟩ = false := by
  have hsz : (flatK (encG zs) 3 D.toArray).size = D.length * 3 := by simp
  unfold HoldsK Holds
  rw [hsz]
  constructor
  · intro h j hj
    have := h j (by omega)
    rw [Nat.zero_add, get_flatK _ _ _ _ (by simp; omega), goodAt_enc zs D j hj] at this
    exact this
  · intro h j hj
    have := h j (by omega)
    rw [Nat.zero_add, get_flatK _ _ _ _ (by simp; omega), goodAt_enc zs D j (by omega)]
    exact this

theorem wt_any {zs : List Int} {n : Nat} (hz : zs.length = 2 * n) (h : itemsIn zs n = true) (i : Nat) : 0 ≤ wt zs i ∧ wt zs i ≤ 60 ∧ 0 ≤ wo zs i ∧ wo zs i ≤ 1000 := by
  by_cases hi : i < n
  · have := itemsIn_get h i hi; omega
  · unfold wt wo
    rw [List.getElem?_eq_none (by omega), List.getElem?_eq_none (by omega)]
    simp

theorem mul_bd {a b : Int} (h1 : 0 ≤ a) (h2 : a ≤ 1000) (h3 : 0 ≤ b) (h4 : b ≤ 60) : 0 ≤ a * b ∧ a * b ≤ 60000 := by
  refine ⟨Int.mul_nonneg h1 h3, ?_⟩
  have := Int.mul_le_mul h2 h4 h3 (by omega)
  omega

/-- How the closure compares two goods. -/
theorem closure_any (a b p a' b' p' : Int) (h1 : 0 ≤ b' * a ∧ b' * a ≤ 60000) (h2 : 0 ≤ b * a' ∧ b * a' ≤ 60000) (W : World) :
    Calls Try.prog 48 #[.agg #[.int .i64 a, .int .i64 b, .int .i64 p], .agg #[.int .i64 a', .int .i64 b', .int .i64 p']] W fun e w' => e = .returned (.int .i64 (Lib.compareInt (b' * a) (b * a'))) ∧ ∃ q os', w' = grow (W.drewN q) os' := by
  have hcon := fun W' => Try.cmp_Compare_int (b' * a) (b * a') W'
  generalize Lib.compareInt (b' * a) (b * a') = r at hcon ⊢
  obtain ⟨h1, h1'⟩ := h1
  obtain ⟨h2, h2'⟩ := h2
  go_enter Try.func48, Try.ntmps48
  go_wp2_with (go_at_call 49; refine (hcon _).mono ?_; rintro e w' ⟨rfl, rfl⟩)
  go_ret
  exact ⟨rfl, 0, _, by rw [alloc_eq_grow, alloc_eq_grow, grow_grow]; rfl⟩

theorem cmp_lays (zs : List Int) (n G : Nat) (w : World) (size : Nat) (hz : zs.length = 2 * n) (h : itemsIn zs n = true) :
    CmpLays Try.prog 48 #[] (encG zs) 3 (fun x y => Lib.compareInt (wo zs y.toNat * wt zs x.toNat) (wo zs x.toNat * wt zs y.toNat)) G 0 size w := by
  intro m os dk _ x y
  have hx := wt_any hz h x.toNat
  have hy := wt_any hz h y.toNat
  exact closure_any _ _ _ _ _ _ (mul_bd hy.2.2.1 hy.2.2.2 hx.1 hx.2.1) (mul_bd hx.2.2.1 hx.2.2.2 hy.1 hy.2.1) _

theorem cmp_neg (u v : Int) : decide (Lib.compareInt u v < 0) = decide (u < v) := by
  unfold Lib.compareInt
  by_cases h : u < v
  · simp [h]
  · rcases Int.lt_or_eq_of_le (Int.not_lt.1 h) with h1 | h1
    · simp [h, h1]
    · simp [h1]
theorem dense_lt (zs : List Int) : ltOf (fun x y : Int => Lib.compareInt (wo zs y.toNat * wt zs x.toNat) (wo zs x.toNat * wt zs y.toNat)) = denser zs := by
  funext x y
  exact cmp_neg _ _

theorem grown_sortK {enc : Int → List Value} {k : Nat} {w : World} {g n : Nat} {os : Array Obj} (d : Array Int) : w.grownBy (sortWorldK enc k w g 0 n d os) (some g) := by
  unfold sortWorldK putRowK
  refine ⟨rfl, rfl, rfl, by simp, fun k hk hne => ?_⟩
  rw [heap_grow_old _ _ (by simpa using hk)]
  have : g ≠ k := fun e => hne (by rw [e])
  simp [putRow, mapBlock, Sort.ahead, Array.getElem?_modify, this]

/-- Goods in memory. -/
def GoodsAt (w : World) (G : Nat) (zs D : List Int) : Prop := Row w G 0 (goodsBy zs D)
theorem GoodsAt.cells {w : World} {G : Nat} {zs D : List Int} (h : GoodsAt w G zs D) (i : Nat) (hi : i < D.length) :
    w.cell? ⟨G, i * 3, none⟩ = some (.int .i64 (wt zs (D[i]?.getD 0).toNat)) ∧ w.cell? ⟨G, i * 3 + 1, none⟩ = some (.int .i64 (wo zs (D[i]?.getD 0).toNat)) ∧ w.cell? ⟨G, i * 3 + 2, none⟩ = some (.int .i64 (D[i]?.getD 0)) := by
  have hc := fun (j : Nat) (hj : j < 3 * D.length) => h.2 j (by unfold goodsBy; rw [tab_length]; exact hj)
  have h0 := hc (i * 3) (by omega)
  have h1 := hc (i * 3 + 1) (by omega)
  have h2 := hc (i * 3 + 2) (by omega)
  unfold goodsBy at h0 h1 h2
  rw [tab_get _ _ _ (by omega), Nat.zero_add] at h0 h1 h2
  unfold goodAt at h0 h1 h2
  rw [if_pos (by omega), show i * 3 / 3 = i by omega] at h0
  rw [if_neg (by omega), if_pos (by omega), show (i * 3 + 1) / 3 = i by omega] at h1
  rw [if_neg (by omega), if_neg (by omega), show (i * 3 + 2) / 3 = i by omega] at h2
  exact ⟨h0, h1, h2⟩

theorem insertionK_any (B G n : Nat) (zs : List Int) (w : World) (hn : n ≤ 10) (hz : zs.length = 2 * n) (hin : itemsIn zs n = true) (hO : OwnG w B G n (goods zs n)) :
    Calls Try.prog 56 #[.slice (some ⟨G, 0, none⟩) n n, .int .i64 0, .int .i64 n, .func (.func 48) #[] #[]] w fun e w' => e = .returned (.tuple #[]) ∧ GoodsAt w' G zs (dense zs n) ∧ w.grownBy w' (some G) := by
  have eg : ∀ args w, (callFunc 48 args).run Try.prog w = .ok (.enter 48 args) w := enters_of Try.func48 (by kernel_rfl) rfl
  have hps : (places n).toArray.size = n := by simp [places_length]
  have hH : HoldsK (encG zs) 3 w G 0 (places n).toArray := by
    rw [holds_by, places_length]
    intro j hj
    refine ⟨?_, hO.free j⟩
    have := hO.row.2 j (by unfold goods; rw [tab_length]; exact hj)
    unfold goods at this
    rw [tab_get _ _ _ hj, Nat.zero_add] at this
    rw [this]
    unfold goodAt goodCell
    rw [places_get n (j / 3) (by omega)]
    simp only [Int.toNat_natCast]
  have hcon := AnyQ.insertionSortCmpFunc Try.laysInsertionK 3 Try.isAgg49 Try.sizeOf49 (encG zs) (fun _ => rfl) (fun x v hv => by simp [encG] at hv; rcases hv with rfl | rfl | rfl <;> rfl) _ 48 #[] G 0 n 0 n (places n).toArray w eg (cmp_lays zs n G w _ hz hin) hH hO.lt (Nat.zero_le _) (by rw [hps]; exact Nat.le_refl _) (by rw [hps]; omega)
  rw [hps] at hcon
  change Calls Try.prog 56 _ _ _ at hcon
  refine hcon.mono ?_
  rintro e w' ⟨rfl, m, os, rfl⟩
  have hd : insertionSort (ltOf fun x y : Int => Lib.compareInt (wo zs y.toNat * wt zs x.toNat) (wo zs x.toNat * wt zs y.toNat)) (places n).toArray 0 n = (dense zs n).toArray := by
    rw [dense_lt]
    apply Array.toList_inj.1
    have := insertionSort_eq (denser zs) (places n)
    rw [places_length] at this
    rw [this]; rfl
  rw [hd]
  have hH2 := holdsK_sortWorldK_c (encG zs) 3 w G 0 (places n).toArray (dense zs n).toArray m os hH hO.lt (by simp [dense_length, places_length])
  rw [holds_by] at hH2
  refine ⟨rfl, ⟨?_, fun j hj => ?_⟩, grown_sortK _⟩
  · have := size_sortWorldK_c (encG zs) 3 w G 0 m (dense zs n).toArray os
    have := hO.lt; omega
  · unfold goodsBy at hj ⊢
    rw [tab_length] at hj
    rw [tab_get _ _ _ hj, Nat.zero_add]
    exact (hH2 j hj).1

theorem stableK_any (B G n : Nat) (zs : List Int) (w : World) (hn : n ≤ 10) (hz : zs.length = 2 * n) (hin : itemsIn zs n = true) (hO : OwnG w B G n (goods zs n)) :
    Calls Try.prog 54 #[.slice (some ⟨G, 0, none⟩) n n, .int .i64 n, .func (.func 48) #[] #[]] w fun e w' => e = .returned (.tuple #[]) ∧ GoodsAt w' G zs (dense zs n) ∧ w.grownBy w' (some G) := by
  go_enter Try.func54, Try.ntmps54
  go_wp2
  go_loop [8, 7] (fun b a => b = .int .i64 20 ∧ a = .int .i64 0) (fun _ _ => 0)
  case atStart => exact ⟨rfl, rfl⟩
  case round =>
    obtain ⟨rfl, rfl⟩ := hrel
    go_wp2_with fail
    refine (insertionK_any _ _ _ zs _ hn hz hin hO).mono ?_
    rintro e w' ⟨rfl, hO2, hG2⟩
    go_wp2
    go_loop [6] (fun b => b = .int .i64 20) (fun _ => 0)
    case atStart => rfl
    case round =>
      subst hrel
      go_wp2
      go_end0
      exact ⟨rfl, hO2, hG2⟩

theorem sortStableK_any (B G n : Nat) (zs : List Int) (w : World) (hn : n ≤ 10) (hz : zs.length = 2 * n) (hin : itemsIn zs n = true) (hO : OwnG w B G n (goods zs n)) :
    Calls Try.prog 47 #[.slice (some ⟨G, 0, none⟩) n n, .func (.func 48) #[] #[]] w fun e w' => e = .returned (.tuple #[]) ∧ GoodsAt w' G zs (dense zs n) ∧ w.grownBy w' (some G) := by
  go_enter Try.func47, Try.ntmps47
  go_wp2_with fail
  refine (stableK_any _ _ _ zs _ hn hz hin hO).mono ?_
  rintro e w' ⟨rfl, hO2, hG2⟩
  go_wp2
  go_end0
  exact ⟨rfl, hO2, hG2⟩

theorem denseGoods_any (b off c n : Nat) (zs : List Int) (w : World) (hin : itemsIn zs n = true) (hz : zs.length = 2 * n) (hr : Row w b off zs) :
    Calls Try.prog 32 #[.slice (some ⟨b, off, none⟩) n c] w fun e w' => ∃ G, e = .returned (.slice (some ⟨G, 0, none⟩) n n) ∧ GoodsAt w' G zs (dense zs n) ∧ w.heap.size ≤ G ∧ Below w.heap.size w w' := by
  have hlen := itemsIn_len hin
  go_enter Try.func32, Try.ntmps32
  go_wp2_with fail
  refine (goodsOf_any _ _ _ n zs _ hlen hz hr).mono ?_
  rintro e w2 ⟨G, rfl, hO2, hB2⟩
  go_wp2_with fail
  refine (sortStableK_any _ _ _ zs _ hlen hz hin hO2).mono ?_
  rintro e w3 ⟨rfl, hG3, hgr⟩
  have hB3 := hB2.grown hgr hB2.size (fun j e => by cases e; exact hO2.ge)
  go_wp2
  go_ret
  exact ⟨G, rfl, hG3, hO2.ge, hB3⟩

end Go.Proofs.Ytfcnlfcjcmpkcaa
