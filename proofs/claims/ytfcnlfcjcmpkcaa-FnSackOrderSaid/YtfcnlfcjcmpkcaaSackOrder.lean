/- SackOrder, the program's and the reference's. -/
import Derived.Test.YtfcnlfcjcmpkcaaDenseGoods
import Derived.Test.YtfcnlfcjcmpkcaaL3Order
import Derived.Test.YtfcnlfcjcmpkcaaSackBest
import Derived.Maps.AppendAt
import Derived.Deep.AppendLies
namespace Go.Proofs.Ytfcnlfcjcmpkcaa
open Go.RowKit
set_option maxHeartbeats 1000000

def orderOf (zs : List Int) (n : Nat) : List Int := if itemsIn zs n then dense zs n else []
theorem orderOf_out {zs : List Int} {n : Nat} (h : itemsIn zs n = false) : orderOf zs n = [] := by unfold orderOf; rw [h]; rfl
theorem orderOf_in {zs : List Int} {n : Nat} (h : itemsIn zs n = true) : orderOf zs n = dense zs n := by unfold orderOf; rw [h]; rfl
theorem orderOf_len (zs : List Int) (n : Nat) : (orderOf zs n).length ≤ 10 := by
  cases h : itemsIn zs n with
  | false => rw [orderOf_out h]; simp
  | true => rw [orderOf_in h, dense_length]; exact itemsIn_len h

theorem heap_last3 (w : World) (o : Obj) : (w.alloc o).heap[w.heap.size]? = some o := by
  show (w.heap.push o)[w.heap.size]? = some o
  simp
theorem heap_second (w : World) (o o' : Obj) : ((w.alloc o).alloc o').heap[w.heap.size + 1]? = some o' := by
  have := heap_last3 (w.alloc o) o'
  rwa [World.size_alloc] at this
theorem GoodsAt.alloc {w : World} {G : Nat} {zs D : List Int} (h : GoodsAt w G zs D) (o : Obj) : GoodsAt (w.alloc o) G zs D := Row.alloc h o
theorem GoodsAt.lt {w : World} {G : Nat} {zs D : List Int} (h : GoodsAt w G zs D) : G < w.heap.size := h.1

theorem implSackOrder_any (b off c n : Nat) (zs : List Int) (w : World) (hn : n ≤ 1152921504606846976) (hz : zs.length = 2 * n) (hr : Row w b off zs) :
    Calls Try.prog 11 #[.slice (some ⟨b, off, none⟩) n c] w fun e w' => ∃ g c', e = .returned (.tuple #[.slice (some ⟨g, 0, none⟩) (orderOf zs n).length c', .bool (itemsIn zs n)]) ∧ Owns w' w.heap.size g c' (orderOf zs n) ∧ Below w.heap.size w w' := by
  obtain ⟨i0, hi, hz0, hz1, hz2⟩ := info_parts info_int
  cases hin : itemsIn zs n with
  | false =>
    rw [orderOf_out hin]
    go_enter Try.func11, Try.ntmps11
    go_wp2_with fail
    refine (implSackIn_any _ _ _ _ zs _ hn hz hr).mono ?_
    rw [hin]
    rintro e w2 ⟨rfl, hB⟩
    have hO := owns_empty w2 w.heap.size hB.size
    have hB2 := hB.alloc hB.size (.cells #[] 3)
    go_wp2
    go_ret2
    exact ⟨_, _, rfl, hO, hB2⟩
  | true =>
    have hlen := itemsIn_len hin
    have hDl := dense_length zs n
    rw [orderOf_in hin]
    have HIN := Lib.hid hin
    clear hin
    go_enter Try.func11, Try.ntmps11
    go_wp2_with fail
    refine (implSackIn_any _ _ _ _ zs _ hn hz hr).mono ?_
    rw [HIN.out]
    rintro e w2 ⟨rfl, hB⟩
    have hs2 := hB.size
    have hO0 := owns_empty w2 w.heap.size hs2
    have hB2 := hB.alloc hs2 (.cells #[] 3)
    go_wp2_with fail
    refine (denseGoods_any _ _ _ n zs _ HIN.out hz ((hr.behind hB).alloc _)).mono ?_
    rintro e w3 ⟨G, rfl, hG, hGe, hB3⟩
    rw [World.size_alloc] at hGe
    have hO3 := hO0.behind hB3
    have hT3 := hB2.trans (hB3.mono hB2.size)
    have hgG : w2.heap.size ≠ G := by omega
    obtain ⟨D, hD⟩ : ∃ D, dense zs n = D := ⟨_, rfl⟩
    rw [hD] at hG hDl
    have HDL := Lib.hid hDl
    have HD := Lib.hid hD
    have HS := Lib.hid (And.intro hgG (And.intro hO3 (And.intro hG hT3)))
    clear hD hDl hB hO0 hB2 hB3 hO3 hT3 hG hGe hgG hr
    go_wp2
    go_loopw [15, 4] (fun i s wr => ∃ (k g c1 : Nat), k ≤ n ∧ i = .int .i64 k ∧ s = .slice (some ⟨g, 0, none⟩) k c1 ∧ g ≠ G ∧ Owns wr w.heap.size g c1 (D.take k) ∧ GoodsAt wr G zs D ∧ Below w.heap.size w wr) (fun i _ _ => n - (intOf i).toNat)
    case atStart => exact ⟨0, _, 0, Nat.zero_le _, rfl, rfl, HS.out⟩
    case round =>
      clear HS
      obtain ⟨k, g, c1, hk, rfl, rfl, hgG, hO, hG, hB⟩ := hrel
      by_cases hlt : k < n
      · obtain ⟨d0, d1, d2⟩ := hG.cells k (by rw [HDL.out]; exact hlt)
        have htk : D.take (k + 1) = D.take k ++ [D[k]?.getD 0] := by
          rw [List.take_succ_eq_append_getElem (by rw [HDL.out]; exact hlt), List.getElem?_eq_getElem (by rw [HDL.out]; exact hlt)]; rfl
        have hTl : (D.take k).length = k := by rw [List.length_take, HDL.out]; omega
        have hGlt := hG.lt
        obtain ⟨L, hL⟩ : ∃ L, D.take k = L := ⟨_, rfl⟩
        rw [hL] at htk hTl hO
        obtain ⟨x, hx⟩ : ∃ x, wt zs (D[k]?.getD 0).toNat = x := ⟨_, rfl⟩
        obtain ⟨y, hy⟩ : ∃ y, wo zs (D[k]?.getD 0).toNat = y := ⟨_, rfl⟩
        rw [hx] at d0
        rw [hy] at d1
        obtain ⟨p, hp⟩ : ∃ p, D[k]?.getD 0 = p := ⟨_, rfl⟩
        rw [hp] at d2 htk
        have HTK := Lib.hid htk
        have HO := Lib.hid hO
        have HG := Lib.hid hG
        have HB := Lib.hid hB
        have hsz := hB.size
        have HTL := Lib.hid hTl
        clear hx hy hp hL htk hO hG hB
        subst hTl
        go_wp2_with (at_builtin; refine wpList_append_own_at _ rfl _ _ 25 rfl w.heap.size 3 i0 (.int .i64 0) 1 8 Try.underlying25 hi hz0 hz1 hz2 rfl (by decide) _ _ _ rfl ((HO.out.alloc _).alloc _) ⟨wr.heap.size + 1, 0, none⟩ 1 1 [.int .i64 p] rfl rfl (World.news_of_block (heap_second _ _ _)) (by simp [Value.oneCell']) (by unfold maxLen; omega) (by omega) (by simp; omega) ?_; intro v' w5 hown' hgrow _ hat; have hgr : ((wr.alloc (.cells #[.int .i64 x, .int .i64 y, .int .i64 p] 49)).alloc (.cells #[.int .i64 p] 3)).grownBy w5 (some g) := hgrow; obtain ⟨g2, c2, rfl, hO5, hB5⟩ := owns_appended (HO.out.alloc (.cells #[.int .i64 x, .int .i64 y, .int .i64 p] 49)) hown' hgrow (HB.out.alloc hsz (.cells #[.int .i64 x, .int .i64 y, .int .i64 p] 49)) (Nat.le_refl _) (by simp; omega))
        have hne3 : g2 ≠ G := by
          rcases hat with h | h
          · have h' : g2 = g := Option.some.inj (show some g2 = some g from h)
            omega
          · have h' : g2 = ((wr.alloc (.cells #[.int .i64 x, .int .i64 y, .int .i64 p] 49)).alloc (.cells #[.int .i64 p] 3)).heap.size := Option.some.inj (show some g2 = some _ from h)
            rw [World.size_alloc, World.size_alloc] at h'
            omega
        have hG5 : GoodsAt w5 G zs D := Row.grown ((HG.out.alloc (.cells #[.int .i64 x, .int .i64 y, .int .i64 p] 49)).alloc (.cells #[.int .i64 p] 3)) hgr (Ne.symm hgG)
        go_roundw
        case rel => exact ⟨L.length + 1, g2, c2, by omega, by go_num, rfl, hne3, by rw [HTK.out]; exact hO5, hG5, hB5⟩
        case measure => simp [intOf]; omega
      · obtain rfl : k = n := by omega
        have hTk : D.take k = D := List.take_of_length_le (by rw [HDL.out]; exact Nat.le_refl _)
        go_wp2
        go_ret2
        rw [HD.out, HDL.out]
        exact ⟨g, c1, rfl, hO.cast hTk, hB⟩

theorem specSackOrder_any (b off c n : Nat) (zs : List Int) (w : World) (hn : n ≤ 1152921504606846976) (hz : zs.length = 2 * n) (hr : Row w b off zs) :
    Calls Try.prog 12 #[.slice (some ⟨b, off, none⟩) n c] w fun e w' => ∃ g c', e = .returned (.tuple #[.slice (some ⟨g, 0, none⟩) (orderOf zs n).length c', .bool (itemsIn zs n)]) ∧ Owns w' w.heap.size g c' (orderOf zs n) ∧ Below w.heap.size w w' := by
  cases hin : itemsIn zs n with
  | false =>
    rw [orderOf_out hin]
    go_enter Try.func12, Try.ntmps12
    go_wp2_with fail
    refine (specSackIn_at _ _ _ _ zs _ hn hz hr).mono ?_
    rw [hin]
    rintro e w2 ⟨rfl, rfl⟩
    go_wp2
    go_ret2
    exact ⟨_, _, rfl, owns_empty _ _ (Nat.le_refl _), by go_grown⟩
  | true =>
    have hDl := dense_length zs n
    rw [orderOf_in hin]
    have HIN := Lib.hid hin
    have HDL := Lib.hid hDl
    clear hin hDl
    go_enter Try.func12, Try.ntmps12
    go_wp2_with fail
    refine (specSackIn_at _ _ _ _ zs _ hn hz hr).mono ?_
    rw [HIN.out]
    rintro e w2 ⟨rfl, rfl⟩
    go_wp2_with fail
    refine (l3Order_any _ _ _ n zs _ HIN.out hz hr).mono ?_
    rintro e w3 ⟨g, c3, rfl, hO, hB⟩
    go_wp2
    go_ret2
    rw [HDL.out]
    exact ⟨g, c3, rfl, hO, hB⟩

end Go.Proofs.Ytfcnlfcjcmpkcaa
