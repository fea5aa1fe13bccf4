/- SackFront, the program's and the reference's. -/
import Derived.Test.YtegmaieikocllaaSackBest
import Derived.Test.YtegmaieikocllaaFrontLaw
import Derived.BigRegion
namespace Go.Proofs.Ytegmaieikocllaa
open Go.RowKit

set_option maxHeartbeats 4000000
theorem frontOf_no {zs : List Int} {n : Nat} {room : Int} (h : told zs n room = false) : frontOf zs n room = [] := by unfold frontOf; rw [h]; rfl
theorem frontOf_yes {zs : List Int} {n R : Nat} (h : told zs n (R : Int) = true) : frontOf zs n (R : Int) = tab (R + 1) (fun r => bestV zs n (r : Int) (2 ^ n)) := by unfold frontOf; rw [h, if_pos rfl, Int.toNat_natCast]

theorem specSackFront_any (b off c n : Nat) (room : Int) (zs : List Int) (w : World) (hn : n ≤ 1152921504606846976) (hz : zs.length = 2 * n) (hr : Row w b off zs) :
    Calls Try.prog 25 #[.slice (some ⟨b, off, none⟩) n c, .int .i64 room] w fun e w' => ∃ g c', e = .returned (.tuple #[.slice (some ⟨g, 0, none⟩) (frontOf zs n room).length c', .bool (told zs n room)]) ∧ Owns w' w.heap.size g c' (frontOf zs n room) ∧ Below w.heap.size w w' := by
  cases ht : told zs n room
  · rw [frontOf_no ht]
    go_enter Try.func25, Try.ntmps25
    go_wp2_with (go_at_call 47; refine (l3Given_any _ _ _ _ _ zs _ hn hz hr).mono ?_; rw [ht]; rintro e w2 ⟨rfl, rfl⟩)
    go_ret2
    exact ⟨_, _, rfl, owns_empty _ _ (Nat.le_refl _), by go_grown⟩
  · obtain ⟨hin, h0, h6⟩ := told_yes ht
    have hlen := itemsIn_len hin
    obtain ⟨R, rfl⟩ : ∃ R : Nat, room = (R : Int) := ⟨room.toNat, by omega⟩
    rw [frontOf_yes ht, tab_length]
    have HIN := Lib.hid hin
    have HT := Lib.hid ht
    clear hin ht
    have hmk := run_zeros (R + 1) ((R : Int) + 1) (by omega) (by omega) w
    have hO := owns_zeros w w.heap.size (R + 1) (Nat.le_refl _) (by unfold maxLen; omega)
    have hB : Below w.heap.size w (w.alloc (.cells (zeroCells (R + 1)) 3)) := by go_grown
    have HO := Lib.hid (hO.cast (tab_zero (R + 1)))
    have HB := Lib.hid hB
    clear hO hB
    go_enter Try.func25, Try.ntmps25
    go_wp2_with (go_at_call 47; refine (l3Given_any _ _ _ _ _ zs _ hn hz hr).mono ?_; rw [HT.out]; rintro e w2 ⟨rfl, rfl⟩)
    obtain ⟨w1, hw1⟩ : ∃ w1, w.alloc (.cells (zeroCells (R + 1)) 3) = w1 := ⟨_, rfl⟩
    rw [hw1] at HO HB ⊢
    clear hw1 hmk
    go_loopw [7, 8] (fun i _ wr => ∃ k : Nat, k ≤ n ∧ i = .int .i64 k ∧ Owns wr w.heap.size w.heap.size (R + 1) (tab (R + 1) (fun x => frontD zs k (x : Int))) ∧ Below w.heap.size w wr) (fun i _ _ => n - (intOf i).toNat)
    case atStart => exact ⟨0, Nat.zero_le _, rfl, HO.out, HB.out⟩
    case round =>
      clear HO HB
      obtain ⟨k, hk, rfl, hO, hB⟩ := hrel
      obtain ⟨wo1, rfl⟩ : ∃ wo1 : World, wo1 = wr := ⟨_, rfl⟩
      by_cases hlt : k < n
      · have hx0 := itemsIn_get HIN.out k hlt
        have hfd := fun q => frontD_bd HIN.out k (by omega) q
        have hst : ∀ r : Int, frontD zs (k + 1) r = if wt zs k ≤ r then max (frontD zs k r) (frontD zs k (r - wt zs k) + Go.Proofs.Ytegmaieikocllaa.wo zs k) else frontD zs k r := fun r => rfl
        have hcw := fun (wr : World) (h : Below w.heap.size w wr) => Row.wt (hr.behind h) hz k hlt
        have hcv := fun (wr : World) (h : Below w.heap.size w wr) => Row.wo (hr.behind h) hz k hlt
        obtain ⟨X, hX⟩ : ∃ X : Nat, wt zs k = (X : Int) := ⟨(wt zs k).toNat, by omega⟩
        obtain ⟨y, hy⟩ : ∃ y, Go.Proofs.Ytegmaieikocllaa.wo zs k = y := ⟨_, rfl⟩
        rw [hX, hy] at hx0
        simp only [hX, hy] at hst hcw hcv
        have HST := Lib.hid hst
        have HCW := Lib.hid hcw
        have HCV := Lib.hid hcv
        have HFD := Lib.hid hfd
        have HO := Lib.hid hO
        have HB := Lib.hid hB
        have hsz := hB.size
        have c0 := hcw _ hB
        clear hX hy hst hcw hcv hfd hO hB
        go_wp2
        go_loopw [8] (fun r wr => ∃ q : Nat, q ≤ R ∧ r = .int .i64 q ∧ Owns wr w.heap.size w.heap.size (R + 1) (tab (R + 1) (fun x => if q < x then frontD zs (k + 1) (x : Int) else frontD zs k (x : Int))) ∧ Below w.heap.size w wr) (fun r _ => (intOf r).toNat)
        case atStart => exact ⟨R, Nat.le_refl _, rfl, HO.out.cast (tab_congr fun i hi => by rw [if_neg (by omega)]), HB.out⟩
        case round =>
          obtain ⟨q, hq, rfl, hO, hB⟩ := hrel
          have c0 := HCW.out _ hB
          have c1 := HCV.out _ hB
          by_cases hge : X ≤ q
          · have hc := fun (i : Nat) (hi : i < R + 1) => hO.row.2 i (by rw [tab_length]; exact hi)
            have hcq := hc q (by omega)
            have hcx := hc (q - X) (by omega)
            rw [tab_get _ _ _ (by omega), Nat.zero_add] at hcq hcx
            rw [if_neg (by omega)] at hcq hcx
            have hf := hO.free q
            have h1 := HFD.out (q : Int)
            have h2 := HFD.out ((q - X : Nat) : Int)
            have h3 := HST.out (q : Int)
            rw [if_pos (by omega), show (q : Int) - (X : Int) = ((q - X : Nat) : Int) by omega] at h3
            obtain ⟨u, hu⟩ : ∃ u, frontD zs k (q : Int) = u := ⟨_, rfl⟩
            obtain ⟨v, hv⟩ : ∃ v, frontD zs k ((q - X : Nat) : Int) = v := ⟨_, rfl⟩
            rw [hu] at hcq h1 h3
            rw [hv] at hcx h2 h3
            obtain ⟨z, hz2⟩ : ∃ z : Nat, q - X = z := ⟨_, rfl⟩
            have hz3 : (q : Int) - (X : Int) = (z : Int) := by omega
            rw [hz2] at hcx
            have hst := hO.set_ q (if u < v + y then v + y else u)
            rw [tab_set] at hst
            have HS := Lib.hid hst
            have H3 := Lib.hid h3
            have HBq := Lib.hid (hB.setCell (p := ⟨w.heap.size, q, none⟩) (Nat.le_refl _) (.int .i64 (if u < v + y then v + y else u)))
            have HBr := Lib.hid hB
            have hszr := hB.size
            clear hu hv hst h3 hB hO hc
            go_wp2
            go_region
            all_goals
              go_wp2
              go_roundw
              case rel =>
                refine ⟨q - 1, by omega, by go_num, (HS.out.drewN 1).cast (tab_congr fun i hi => ?_), below_drewN HBq.out 1⟩
                by_cases e : i = q
                · rw [if_pos e, if_pos (show q - 1 < i by omega), e, H3.out, max_if]
                · rw [if_neg e]
                  by_cases h : q < i
                  · rw [if_pos h, if_pos (by omega)]
                  · rw [if_neg h, if_neg (by omega)]
              case measure => simp [intOf]; omega
          · go_wp2
            go_roundw
            case rel =>
              exact ⟨k + 1, by omega, by go_num, hO.cast (tab_congr fun i hi => by
                by_cases h : q < i
                · rw [if_pos h]
                · rw [if_neg h, HST.out, if_neg (by omega)]), hB⟩
            case measure => simp [intOf]; omega
      · obtain rfl : k = n := by omega
        go_wp2
        go_ret2
        exact ⟨_, _, rfl, hO.cast (tab_congr fun i hi => frontD_eq HIN.out k (Nat.le_refl _) _ (by omega)), hB⟩

theorem implSackFront_any (b off c n : Nat) (room : Int) (zs : List Int) (w : World) (hn : n ≤ 1152921504606846976) (hz : zs.length = 2 * n) (hr : Row w b off zs) :
    Calls Try.prog 26 #[.slice (some ⟨b, off, none⟩) n c, .int .i64 room] w fun e w' => ∃ g c', e = .returned (.tuple #[.slice (some ⟨g, 0, none⟩) (frontOf zs n room).length c', .bool (told zs n room)]) ∧ Owns w' w.heap.size g c' (frontOf zs n room) ∧ Below w.heap.size w w' := by
  cases ht : told zs n room
  · rw [frontOf_no ht]
    go_enter Try.func26, Try.ntmps26
    go_wp2_with (go_at_call 49; refine (sackTold_any _ _ _ _ _ zs _ hn hz hr).mono ?_; rw [ht]; rintro e w2 ⟨rfl, hB⟩)
    go_ret2
    exact ⟨_, _, rfl, owns_empty _ _ hB.size, hB.alloc hB.size _⟩
  · obtain ⟨hin, h0, h6⟩ := told_yes ht
    have hlen := itemsIn_len hin
    obtain ⟨R, rfl⟩ : ∃ R : Nat, room = (R : Int) := ⟨room.toNat, by omega⟩
    rw [frontOf_yes ht, tab_length]
    obtain ⟨N, hN, hN1, hN2, hN3⟩ := pow_walk n (by omega)
    rw [hN]
    have HIN := Lib.hid hin
    have HT := Lib.hid ht
    clear hin ht
    have hmk := fun w => run_zeros (R + 1) ((R : Int) + 1) (by omega) (by omega) w
    go_enter Try.func26, Try.ntmps26
    go_wp2_with (go_at_call 49; refine (sackTold_any _ _ _ _ _ zs _ hn hz hr).mono ?_; rw [HT.out]; rintro e w2 ⟨rfl, hB⟩)
    simp only [hN3]
    have hO := owns_zeros w2 w.heap.size (R + 1) hB.size (by unfold maxLen; omega)
    have hB1 : Below w.heap.size w (w2.alloc (.cells (zeroCells (R + 1)) 3)) := hB.alloc hB.size _
    have hG : w.heap.size ≤ w2.heap.size := hB.size
    have HO := Lib.hid (hO.cast (tab_zero (R + 1)))
    have HB := Lib.hid hB1
    clear hO hB1 hB
    obtain ⟨w1, hw1⟩ : ∃ w1, w2.alloc (.cells (zeroCells (R + 1)) 3) = w1 := ⟨_, rfl⟩
    obtain ⟨G, hGG⟩ : ∃ G, w2.heap.size = G := ⟨_, rfl⟩
    rw [hw1] at HO HB ⊢
    rw [hGG] at HO hG ⊢
    clear hw1 hmk hGG
    go_loopw [22] (fun i wr => ∃ k : Nat, k ≤ N ∧ i = .int .i64 k ∧ Owns wr w.heap.size G (R + 1) (tab (R + 1) (fun x => exactV zs n k x)) ∧ Below w.heap.size w wr) (fun i _ => N - (intOf i).toNat)
    case atStart => exact ⟨0, Nat.zero_le _, rfl, HO.out, HB.out⟩
    case round =>
      clear HO HB
      obtain ⟨k, hk, rfl, hO, hB⟩ := hrel
      by_cases hlt : k < N
      · have hw := wt_bd HIN.out k n (Nat.le_refl _)
        have hv := wo_bd HIN.out k n (Nat.le_refl _)
        have hst : ∀ r : Nat, exactV zs n (k + 1) r = if cf (wt zs) k n = (r : Int) then max (exactV zs n k r) (cf (wo zs) k n) else exactV zs n k r := fun r => rfl
        obtain ⟨X, hX⟩ : ∃ X : Nat, cf (wt zs) k n = (X : Int) := ⟨(cf (wt zs) k n).toNat, by omega⟩
        obtain ⟨y, hy⟩ : ∃ y, cf (wo zs) k n = y := ⟨_, rfl⟩
        rw [hX] at hw
        rw [hy] at hv
        simp only [hX, hy] at hst
        have HX := Lib.hid hX
        have HY := Lib.hid hy
        have HST := Lib.hid hst
        have HO := Lib.hid hO
        have HB := Lib.hid hB
        have hsz := hB.size
        have hrr := Lib.hid (hr.behind hB)
        clear hX hy hst hO hB
        by_cases hle : X ≤ R
        · have heb := exactV_bd HIN.out k X
          obtain ⟨u, hu⟩ : ∃ u, exactV zs n k X = u := ⟨_, rfl⟩
          rw [hu] at heb
          have HU := Lib.hid hu
          clear hu
          go_wp2_with (go_at_call 50; refine (load_any _ _ _ _ _ zs _ (by omega) HIN.out hz hrr.out).mono ?_; rw [HX.out, HY.out]; rintro e w' ⟨rfl, hB2⟩; have hO2 := HO.out.behind hB2; have hc := hO2.row.2 X (by rw [tab_length]; omega); have hf := hO2.free X; rw [tab_get _ _ _ (by omega), HU.out, Nat.zero_add] at hc; have hS := hO2.set_ X (if u < y then y else u); have HS := Lib.hid hS; have HB3 := Lib.hid ((HB.out.trans (hB2.mono hsz)).setCell (p := ⟨G, X, none⟩) hG (.int .i64 (if u < y then y else u))); clear hO2 hS)
          go_roundw
          case rel =>
            refine ⟨k + 1, by omega, by go_num, HS.out.cast ?_, HB3.out⟩
            rw [tab_set]
            refine tab_congr fun i hi => ?_
            rw [HST.out]
            by_cases e : i = X
            · rw [if_pos e, e, if_pos rfl, max_if, HU.out]
            · rw [if_neg e, if_neg (by omega)]
          case measure => simp [intOf]; omega
        · go_wp2_with (go_at_call 50; refine (load_any _ _ _ _ _ zs _ (by omega) HIN.out hz hrr.out).mono ?_; rw [HX.out, HY.out]; rintro e w' ⟨rfl, hB2⟩)
          go_roundw
          case rel =>
            refine ⟨k + 1, by omega, by go_num, (HO.out.behind hB2).cast ?_, HB.out.trans (hB2.mono hsz)⟩
            refine tab_congr fun i hi => ?_
            rw [HST.out, if_neg (by omega)]
          case measure => simp [intOf]; omega
      · obtain rfl : k = N := by omega
        have HO := Lib.hid (hO.cast (ys := tab (R + 1) (fun x => if x < 1 then preV zs n k x else exactV zs n k x)) (tab_congr fun i hi => by
          by_cases e : i < 1
          · rw [if_pos e]; obtain rfl : i = 0 := by omega
            rfl
          · rw [if_neg e]))
        have HB := Lib.hid hB
        clear hO hB
        go_wp2
        go_loopw [10] (fun i wr => ∃ q : Nat, 1 ≤ q ∧ q ≤ R + 1 ∧ i = .int .i64 q ∧ Owns wr w.heap.size G (R + 1) (tab (R + 1) (fun x => if x < q then preV zs n k x else exactV zs n k x)) ∧ Below w.heap.size w wr) (fun i _ => R + 1 - (intOf i).toNat)
        case atStart => exact ⟨1, Nat.le_refl _, by omega, rfl, HO.out, HB.out⟩
        case round =>
          clear HO HB
          obtain ⟨q, hq1, hq, rfl, hO, hB⟩ := hrel
          by_cases hle : q ≤ R
          · have hc := fun (i : Nat) (hi : i < R + 1) => hO.row.2 i (by rw [tab_length]; exact hi)
            have hcq := hc q (by omega)
            have hcx := hc (q - 1) (by omega)
            rw [tab_get _ _ _ (by omega), Nat.zero_add] at hcq hcx
            rw [if_neg (by omega)] at hcq
            rw [if_pos (by omega)] at hcx
            have hf := hO.free q
            have h3 : preV zs n k q = max (exactV zs n k q) (preV zs n k (q - 1)) := by
              obtain ⟨p, rfl⟩ : ∃ p, q = p + 1 := ⟨q - 1, by omega⟩
              rfl
            obtain ⟨u, hu⟩ : ∃ u, exactV zs n k q = u := ⟨_, rfl⟩
            obtain ⟨v, hv⟩ : ∃ v, preV zs n k (q - 1) = v := ⟨_, rfl⟩
            rw [hu] at hcq h3
            rw [hv] at hcx h3
            obtain ⟨z, hz2⟩ : ∃ z : Nat, q - 1 = z := ⟨_, rfl⟩
            have hz3 : (q : Int) - 1 = (z : Int) := by omega
            rw [hz2] at hcx
            have hst := hO.set_ q (if u < v then v else u)
            rw [tab_set] at hst
            have HS := Lib.hid hst
            have H3 := Lib.hid h3
            have HBq := Lib.hid (hB.setCell (p := ⟨G, q, none⟩) hG (.int .i64 (if u < v then v else u)))
            have hszr := hB.size
            clear hu hv hst h3 hB hO hc
            go_wp2
            go_region
            all_goals
              go_wp2
              go_roundw
              case rel =>
                refine ⟨q + 1, by omega, by omega, by go_num, (HS.out.drewN 1).cast (tab_congr fun i hi => ?_), below_drewN HBq.out 1⟩
                by_cases e : i = q
                · rw [if_pos e, if_pos (show i < q + 1 by omega), e, H3.out, max_if]
                · rw [if_neg e]
                  by_cases h : i < q
                  · rw [if_pos h, if_pos (by omega)]
                  · rw [if_neg h, if_neg (by omega)]
              case measure => simp [intOf]; omega
          · obtain rfl : q = R + 1 := by omega
            go_wp2
            go_ret2
            exact ⟨_, _, rfl, hO.cast (tab_congr fun i hi => by rw [if_pos (by omega), preV_eq HIN.out]), hB⟩

end Go.Proofs.Ytegmaieikocllaa
