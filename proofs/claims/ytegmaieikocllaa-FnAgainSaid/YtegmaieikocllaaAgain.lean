/- SackAgain, the program's and the reference's. -/
import Derived.Test.YtegmaieikocllaaGoods
import Derived.Test.YtegmaieikocllaaAgainLaw
import Derived.Test.YtegmaieikocllaaMapv
import Derived.BigRegion
import Derived.BigQuiet
import Derived.Deep.QuietTactic
namespace Go.Proofs.Ytegmaieikocllaa
open Go.RowKit Go.Maps

set_option maxHeartbeats 4000000
theorem againV_no {zs : List Int} {n : Nat} {room : Int} (h : told zs n room = false) : againV zs n room = 0 := by unfold againV; rw [h]; rfl
theorem againV_yes {zs : List Int} {n R : Nat} (h : told zs n (R : Int) = true) : againV zs n (R : Int) = aV zs n R := by unfold againV; rw [h, if_pos rfl, Int.toNat_natCast]

theorem specSackAgain_any (b off c n : Nat) (room : Int) (zs : List Int) (w : World) (hn : n ≤ 1152921504606846976) (hz : zs.length = 2 * n) (hr : Row w b off zs) :
    Calls Try.prog 31 #[.slice (some ⟨b, off, none⟩) n c, .int .i64 room] w fun e w' => e = .returned (.tuple #[.int .i64 (againV zs n room), .bool (told zs n room)]) ∧ Below w.heap.size w w' := by
  cases ht : told zs n room
  · rw [againV_no ht]
    go_enter Try.func31, Try.ntmps31
    go_wp2_with (go_at_call 47; refine (l3Given_any _ _ _ _ _ zs _ hn hz hr).mono ?_; rw [ht]; rintro e w2 ⟨rfl, rfl⟩)
    go_ret2
    exact ⟨rfl, Below.refl _ _⟩
  · obtain ⟨hin, h0, h6⟩ := told_yes ht
    have hlen := itemsIn_len hin
    obtain ⟨R, rfl⟩ : ∃ R : Nat, room = (R : Int) := ⟨room.toNat, by omega⟩
    rw [againV_yes ht]
    have HIN := Lib.hid hin
    have HT := Lib.hid ht
    clear hin ht
    have hmk := run_zeros (R + 1) ((R : Int) + 1) (by omega) (by omega) w
    have hO := owns_zeros w w.heap.size (R + 1) (Nat.le_refl _) (by unfold maxLen; omega)
    have hB : Below w.heap.size w (w.alloc (.cells (zeroCells (R + 1)) 3)) := by go_grown
    have HO := Lib.hid ((hO.cast (tab_zero (R + 1))).cast (tab_congr (g := fun x => if x < 1 then aV zs n x else 0) fun i hi => by
      by_cases e : i < 1
      · rw [if_pos e]; obtain rfl : i = 0 := by omega
        rw [aV_zero HIN.out]
      · rw [if_neg e]))
    have HB := Lib.hid hB
    clear hO hB
    go_enter Try.func31, Try.ntmps31
    go_wp2_with (go_at_call 47; refine (l3Given_any _ _ _ _ _ zs _ hn hz hr).mono ?_; rw [HT.out]; rintro e w2 ⟨rfl, rfl⟩)
    obtain ⟨w1, hw1⟩ : ∃ w1, w.alloc (.cells (zeroCells (R + 1)) 3) = w1 := ⟨_, rfl⟩
    rw [hw1] at HO HB ⊢
    clear hw1 hmk
    go_loopw [7, 8] (fun i _ wr => ∃ r : Nat, 1 ≤ r ∧ r ≤ R + 1 ∧ i = .int .i64 r ∧ Owns wr w.heap.size w.heap.size (R + 1) (tab (R + 1) (fun x => if x < r then aV zs n x else 0)) ∧ Below w.heap.size w wr) (fun i _ _ => R + 1 - (intOf i).toNat)
    case atStart => exact ⟨1, Nat.le_refl _, by omega, rfl, HO.out, HB.out⟩
    case round =>
      clear HO HB
      obtain ⟨r, hr1, hr2, rfl, hO, hB⟩ := hrel
      obtain ⟨wo1, rfl⟩ : ∃ wo1 : World, wo1 = wr := ⟨_, rfl⟩
      by_cases hlt : r ≤ R
      · have hvb := aV_bd HIN.out (r - 1)
        have hc := fun (i : Nat) (hi : i < R + 1) => hO.row.2 i (by rw [tab_length]; exact hi)
        have hcq := hc r (by omega)
        have hcx := hc (r - 1) (by omega)
        rw [tab_get _ _ _ (by omega), Nat.zero_add] at hcq hcx
        rw [if_neg (by omega)] at hcq
        rw [if_pos (by omega)] at hcx
        have hf := hO.free r
        obtain ⟨v, hv⟩ : ∃ v, aV zs n (r - 1) = v := ⟨_, rfl⟩
        rw [hv] at hvb hcx
        obtain ⟨z, hz2⟩ : ∃ z : Nat, r - 1 = z := ⟨_, rfl⟩
        have hz3 : (r : Int) - 1 = (z : Int) := by omega
        rw [hz2] at hcx hv
        have hst := hO.set_ r v
        rw [tab_set] at hst
        have HS := Lib.hid hst
        have HV := Lib.hid hv
        have HBq := Lib.hid (hB.setCell (p := ⟨w.heap.size, r, none⟩) (Nat.le_refl _) (.int .i64 v))
        have hsz := hB.size
        clear hv hst hO hB hc
        go_wp2
        obtain ⟨w5, hw5⟩ : ∃ w5, wo1.setCell ⟨w.heap.size, r, none⟩ (.int .i64 v) = w5 := ⟨_, rfl⟩
        rw [hw5] at HS HBq ⊢
        clear hw5 hcq hcx hf
        go_loopw [8] (fun i wr => ∃ k : Nat, k ≤ n ∧ i = .int .i64 k ∧ Owns wr w.heap.size w.heap.size (R + 1) (tab (R + 1) (fun x => if x = r then max v (aB zs (aV zs n) r k) else if x < r then aV zs n x else 0)) ∧ Below w.heap.size w wr) (fun i _ => n - (intOf i).toNat)
        case atStart => exact ⟨0, Nat.zero_le _, rfl, HS.out.cast (tab_congr fun i hi => by
          by_cases e : i = r
          · rw [if_pos e, if_pos e]; simp only [aB]; omega
          · rw [if_neg e, if_neg e]), HBq.out⟩
        case round =>
          clear HS HBq
          obtain ⟨k, hk, rfl, hO, hB⟩ := hrel
          have hab := aB_bd HIN.out (fun x (_ : x < r) => aV_bd HIN.out x) k hk
          by_cases hltk : k < n
          · have hx0 := itemsIn_get HIN.out k hltk
            have hst : aB zs (aV zs n) r (k + 1) = if wt zs k ≤ (r : Int) then max (aB zs (aV zs n) r k) (wo zs k + aV zs n (r - (wt zs k).toNat)) else aB zs (aV zs n) r k := rfl
            have c0 := Row.wt (hr.behind hB) hz k hltk
            have c1 := Row.wo (hr.behind hB) hz k hltk
            obtain ⟨X, hX⟩ : ∃ X : Nat, wt zs k = (X : Int) := ⟨(wt zs k).toNat, by omega⟩
            obtain ⟨y, hy⟩ : ∃ y, wo zs k = y := ⟨_, rfl⟩
            rw [hX, hy] at hx0 hst
            rw [hX] at c0
            rw [hy] at c1
            rw [Int.toNat_natCast] at hst
            by_cases hge : X ≤ r
            · have hc := fun (i : Nat) (hi : i < R + 1) => hO.row.2 i (by rw [tab_length]; exact hi)
              have hcq := hc r (by omega)
              have hcx := hc (r - X) (by omega)
              rw [tab_get _ _ _ (by omega), Nat.zero_add] at hcq hcx
              rw [if_pos rfl] at hcq
              rw [if_neg (by omega), if_pos (by omega)] at hcx
              have hf := hO.free r
              have h2 := aV_bd HIN.out (r - X)
              rw [if_pos (by omega)] at hst
              obtain ⟨a, ha⟩ : ∃ a, aB zs (aV zs n) r k = a := ⟨_, rfl⟩
              obtain ⟨t, ht⟩ : ∃ t, aV zs n (r - X) = t := ⟨_, rfl⟩
              rw [ha, ht] at hst
              rw [ha] at hab
              rw [ht] at hcx h2
              obtain ⟨u, hu⟩ : ∃ u, max v a = u := ⟨_, rfl⟩
              have hub : 0 ≤ u ∧ u ≤ 1000000 := by omega
              rw [ha, hu] at hcq
              obtain ⟨zz, hzz⟩ : ∃ zz : Nat, r - X = zz := ⟨_, rfl⟩
              have hz4 : (r : Int) - (X : Int) = (zz : Int) := by omega
              rw [hzz] at hcx h2
              have hS := hO.set_ r (if u < t + y then t + y else u)
              rw [tab_set] at hS
              have HS := Lib.hid hS
              have HST := Lib.hid hst
              have HU := Lib.hid hu
              have HBq := Lib.hid (hB.setCell (p := ⟨w.heap.size, r, none⟩) (Nat.le_refl _) (.int .i64 (if u < t + y then t + y else u)))
              have hszr := hB.size
              clear hX hy ha ht hu hst hS hB hO hc
              go_wp2
              go_region
              all_goals
                go_wp2
                go_roundw
                case rel =>
                  refine ⟨k + 1, by omega, by go_num, (HS.out.drewN 1).cast (tab_congr fun i hi => ?_), below_drewN HBq.out 1⟩
                  by_cases e : i = r
                  · rw [if_pos e, if_pos e, HST.out, max_if, ← HU.out]; omega
                  · rw [if_neg e, if_neg e, if_neg e]
                case measure => simp [intOf]; omega
            · rw [if_neg (by omega)] at hst
              have HST := Lib.hid hst
              have HO := Lib.hid hO
              have HB := Lib.hid hB
              clear hX hy hst hO hB
              go_wp2
              go_roundw
              case rel => exact ⟨k + 1, by omega, by go_num, by rw [HST.out]; exact HO.out, HB.out⟩
              case measure => simp [intOf]; omega
          · obtain rfl : k = n := by omega
            have HO := Lib.hid hO
            have HB := Lib.hid hB
            clear hO hB
            go_wp2
            go_roundw
            case rel =>
              refine ⟨r + 1, by omega, by omega, by go_num, HO.out.cast (tab_congr fun i hi => ?_), HB.out⟩
              by_cases e : i = r
              · rw [if_pos e, if_pos (by omega), e, ← aV_eq HIN.out]
                have h1 := aV_mono HIN.out (r - 1)
                rw [show r - 1 + 1 = r by omega] at h1
                have h2 := HV.out
                rw [← hz2] at h2
                omega
              · rw [if_neg e]
                by_cases h : i < r
                · rw [if_pos h, if_pos (by omega)]
                · rw [if_neg h, if_neg (by omega)]
            case measure => simp [intOf]; omega
      · obtain rfl : r = R + 1 := by omega
        have hc := hO.row.2 R (by rw [tab_length]; omega)
        rw [tab_get _ _ _ (by omega), Nat.zero_add, if_pos (by omega)] at hc
        go_wp2
        go_ret2
        exact ⟨rfl, hB⟩

theorem fits_any (x r : Int) (w : World) :
    Calls Try.prog 61 #[.int .i64 x, .int .i64 r] w fun e w' => e = .returned (.bool (decide (x ≤ r))) ∧ w = w' := by
  by_cases h : x ≤ r
  · go_enter Try.func61, Try.ntmps61
    go_wp2
    go_ret
    exact ⟨ret_bool (by simp [h]), rfl⟩
  · go_enter Try.func61, Try.ntmps61
    go_wp2
    go_ret
    exact ⟨ret_bool (by simp; omega), rfl⟩
theorem left_any (x r z : Int) (w : World) (hz : r - x = z) (h1 : -1000000 ≤ z) (h2 : z ≤ 1000000) :
    Calls Try.prog 62 #[.int .i64 x, .int .i64 r] w fun e w' => e = .returned (.int .i64 z) ∧ w = w' := by
  go_enter Try.func62, Try.ntmps62
  go_wp2
  go_ret
  exact ⟨by first | rfl | rw [hz], rfl⟩

theorem again_any (pb G M n R B clock : Nat) (zs : List Int) (w : World) (hR : R ≤ 600) (hin : itemsIn zs n = true) (hG : OwnG w B G n (goods zs n)) (hp : w.heap[pb]? = some (.cells #[.map (some M)] 57 (0, 0))) (hM : w.heap[M]? = some (.map #[] clock)) (hMV : MapV w M 0 (aV zs n)) :
    Calls Try.prog 51 #[.pointer (some ⟨pb, 0, none⟩), .slice (some ⟨G, 0, none⟩) n n, .int .i64 (R : Int)] w fun e w' => e = .returned (.int .i64 (aV zs n R)) ∧ w.grownBy w' (some M) := by
  have hlen := itemsIn_len hin
  have hc := clear_run hM
  have c0 : w.cell? ⟨pb, 0, none⟩ = some (.map (some M)) := by simp [World.cell?, hp]
  have HIN := Lib.hid hin
  have HM := Lib.hid hMV
  clear hin hMV
  go_enter Try.func51, Try.ntmps51
  go_wp2
  have hGne : G ≠ M := by
    rintro rfl
    obtain ⟨cur, _, h1, _⟩ := hG.parts
    rw [h1] at hM; simp at hM
  have hpne : pb ≠ M := by
    rintro rfl
    rw [hp] at hM; simp at hM
  have hGw : ∀ wr : World, w.grownBy wr (some M) → OwnG wr B G n (goods zs n) := fun wr h => hG.grown h hGne
  have hpl : pb < w.heap.size := lt_of_block hp
  have hpw : ∀ wr : World, w.grownBy wr (some M) → wr.cell? ⟨pb, 0, none⟩ = some (.map (some M)) := fun wr h => (World.cell?_of_block (h.block pb hpl (by simpa using hpne))).trans c0
  have hMl := HM.out.lt
  clear hc hM hp hG c0
  go_loopw [17, 8, 10] (fun i _ _ wr => ∃ r : Nat, r ≤ R + 1 ∧ i = .int .i64 r ∧ MapV wr M r (aV zs n) ∧ w.grownBy wr (some M)) (fun i _ _ _ => R + 1 - (intOf i).toNat)
  case atStart => exact ⟨0, Nat.zero_le _, rfl, HM.out, World.grownBy.refl _ _⟩
  case round =>
    clear HM
    obtain ⟨r, hr, rfl, hMV, hB⟩ := hrel
    obtain ⟨wo1, rfl⟩ : ∃ wo1 : World, wo1 = wr := ⟨_, rfl⟩
    by_cases hlt : r ≤ R
    · have HM := Lib.hid hMV
      have HB := Lib.hid hB
      have hd18 : decide ((r : Int) < (R : Int) + 1) = true := by simp; omega
      clear hMV hB
      go_wp2
      try simp only [hd18]
      clear hd18
      go_loopw [22, 8, 10] (fun j s _ wr => ∃ k : Nat, k ≤ n ∧ j = .int .i64 k ∧ s = .int .i64 (aB zs (aV zs n) r k) ∧ MapV wr M r (aV zs n) ∧ w.grownBy wr (some M)) (fun j _ _ _ => n - (intOf j).toNat)
      case atStart => exact ⟨0, Nat.zero_le _, rfl, rfl, HM.out, HB.out⟩
      case round =>
        clear HM HB
        obtain ⟨k, hk, rfl, rfl, hMV, hB⟩ := hrel
        have hab := aB_bd HIN.out (fun x (_ : x < r) => aV_bd HIN.out x) k hk
        by_cases hltk : k < n
        · obtain ⟨c0, c1, c2⟩ := OwnG.goods (hGw _ hB) k hltk
          have hx0 := itemsIn_get HIN.out k hltk
          have hst : aB zs (aV zs n) r (k + 1) = if wt zs k ≤ (r : Int) then max (aB zs (aV zs n) r k) (wo zs k + aV zs n (r - (wt zs k).toNat)) else aB zs (aV zs n) r k := rfl
          obtain ⟨X, hX⟩ : ∃ X : Nat, wt zs k = (X : Int) := ⟨(wt zs k).toNat, by omega⟩
          obtain ⟨y, hy⟩ : ∃ y, wo zs k = y := ⟨_, rfl⟩
          obtain ⟨a, ha⟩ : ∃ a, aB zs (aV zs n) r k = a := ⟨_, rfl⟩
          rw [hX, hy] at hx0 hst
          rw [hX] at c0
          rw [hy] at c1
          rw [Int.toNat_natCast, ha] at hst
          rw [ha] at hab ⊢
          have hp0 := hpw _ hB
          have hpb : pb < wr.heap.size := Nat.lt_of_lt_of_le hpl hB.size
          have hg1 : wr.grownBy (wr.alloc (.cells #[.int .i64 (X : Int), .int .i64 y, .int .i64 (k : Int)] 63)) (some M) := World.grownBy_alloc _ _ _
          have hMV1 : MapV (wr.alloc (.cells #[.int .i64 (X : Int), .int .i64 y, .int .i64 (k : Int)] 63)) M r (aV zs n) := hMV.kept (World.grownBy_alloc _ _ none) (by simp)
          have hB1 := grown_trans hB hg1
          by_cases hge : X ≤ r
          · have hd : decide ((X : Int) ≤ (r : Int)) = true := by simp; omega
            rw [if_pos (by omega)] at hst
            have hvb := aV_bd HIN.out (r - X)
            obtain ⟨zz, hzz⟩ : ∃ zz : Nat, r - X = zz := ⟨_, rfl⟩
            have hz4 : (r : Int) - (X : Int) = (zz : Int) := by omega
            rw [hzz] at hst hvb
            obtain ⟨t, ht⟩ : ∃ t, aV zs n zz = t := ⟨_, rfl⟩
            rw [ht] at hst hvb
            have hlook := fun m => (hMV1.drewN m).look zz (by omega)
            rw [if_pos (by omega), ht] at hlook
            have hsum : 0 ≤ y + t ∧ y + t ≤ 1000000 := by omega
            have HST := Lib.hid hst
            have HM1 := Lib.hid hMV1
            have HB1 := Lib.hid hB1
            clear hX hy ha ht hst hMV hB hMV1 hB1 hg1
            go_wp2_with (go_at_call 61; refine (fits_any _ _ _).mono ?_; rintro e w' ⟨rfl, rfl⟩)
            go_quiet ((go_at_call 62; exact Calls.quiet_of_same ((left_any _ _ _ _ hz4 (by omega) (by omega)).mono fun e w' h => ⟨h.1, h.2.symm⟩)))
            go_wp2
            all_goals
              go_roundw
              case rel => exact ⟨k + 1, by omega, by go_num, by rw [HST.out]; congr 1; omega, HM1.out.drewN _, ⟨HB1.out.os, HB1.out.tape, HB1.out.output, HB1.out.size, HB1.out.block⟩⟩
              case measure => simp [intOf]; omega
          · have hd : decide ((X : Int) ≤ (r : Int)) = false := by simp; omega
            rw [if_neg (by omega)] at hst
            have HST := Lib.hid hst
            have HM1 := Lib.hid hMV1
            have HB1 := Lib.hid hB1
            clear hX hy ha hst hMV hB hMV1 hB1 hg1
            go_wp2_with (go_at_call 61; refine (fits_any _ _ _).mono ?_; rintro e w' ⟨rfl, rfl⟩)
            go_roundw
            case rel => exact ⟨k + 1, by omega, by go_num, by rw [HST.out], HM1.out, HB1.out⟩
            case measure => simp [intOf]; omega
        · obtain rfl : k = n := by omega
          rw [← aV_eq HIN.out] at hab ⊢
          obtain ⟨D, hD, hDf⟩ := hMV
          have hp0 := hpw _ hB
          have HB := Lib.hid hB
          have HDF := Lib.hid hDf
          obtain ⟨v, hv⟩ : ∃ v, aV zs k r = v := ⟨_, rfl⟩
          rw [hv] at hab ⊢
          have HV := Lib.hid hv
          clear hB hDf hv
          go_wp2_with (at_mapUpdate; refine wpList_mapUpdate_own _ rfl _ _ _ 55 rfl 3 3 lawI Try.underlying55 _ M r D rfl hD (by unfold maxLen; omega) _ _ _ rfl rfl (keyOf_int_mk Try.underlying3 (wf_small r (by omega))) _ [] (plainElem_int Try.underlying3 (WalkArith.wf_i64 (by omega))) ?_; intro w1 hown1 hgrow1)
          go_roundw
          case rel => exact ⟨r + 1, by omega, by go_num, MapV.store D hD HDF.out hown1 HV.out.symm, grown_trans HB.out hgrow1⟩
          case measure => simp [intOf]; omega
    · obtain rfl : r = R + 1 := by omega
      have hp0 := hpw _ hB
      have hlook := hMV.look R (by omega)
      rw [if_pos (by omega)] at hlook
      go_wp2
      go_ret
      exact ⟨rfl, hB⟩

theorem heap_last (w : World) (o : Obj) : (w.alloc o).heap[w.heap.size]? = some o := by
  show (w.heap.push o)[w.heap.size]? = some o
  simp
theorem purse_map (w : World) (o o' : Obj) : ((w.alloc o).alloc o').heap[w.heap.size]? = some o := by
  show ((w.heap.push o).push o')[w.heap.size]? = some o
  rw [Array.getElem?_push, if_neg (by simp)]
  simp
theorem purse_block (w : World) (o o' : Obj) : ((w.alloc o).alloc o').heap[w.heap.size + 1]? = some o' := by
  show ((w.heap.push o).push o')[w.heap.size + 1]? = some o'
  rw [Array.getElem?_push, if_pos (by simp)]

theorem implSackAgain_any (b off c n : Nat) (room : Int) (zs : List Int) (w : World) (hn : n ≤ 1152921504606846976) (hz : zs.length = 2 * n) (hr : Row w b off zs) :
    Calls Try.prog 32 #[.slice (some ⟨b, off, none⟩) n c, .int .i64 room] w fun e w' => e = .returned (.tuple #[.int .i64 (againV zs n room), .bool (told zs n room)]) ∧ Below w.heap.size w w' := by
  cases ht : told zs n room
  · rw [againV_no ht]
    go_enter Try.func32, Try.ntmps32
    go_wp2_with (go_at_call 49; refine (sackTold_any _ _ _ _ _ zs _ hn hz hr).mono ?_; rw [ht]; rintro e w2 ⟨rfl, hB⟩)
    go_ret2
    exact ⟨rfl, hB⟩
  · obtain ⟨hin, h0, h6⟩ := told_yes ht
    have hlen := itemsIn_len hin
    obtain ⟨R, rfl⟩ : ∃ R : Nat, room = (R : Int) := ⟨room.toNat, by omega⟩
    rw [againV_yes ht]
    have HIN := Lib.hid hin
    have HT := Lib.hid ht
    clear hin ht
    have hmm := @run_makeMap Try.prog
    go_enter Try.func32, Try.ntmps32
    go_wp2_with (first | (go_at_call 49; refine (sackTold_any _ _ _ _ _ zs _ hn hz hr).mono ?_; rw [HT.out]; rintro e w2 ⟨rfl, hB⟩) | (go_at_call 52; refine (goodsOf_any _ _ _ _ zs _ hlen hz (((hr.behind hB).alloc _).alloc _)).mono ?_; rintro e w4 ⟨G, rfl, hG, hB4⟩; have hp := (hB4.block (w2.heap.size + 1) (by simp)).trans (purse_block w2 (.map #[] 0) (.cells #[.map (some w2.heap.size)] 57)); have hM := (hB4.block w2.heap.size (by simp; omega)).trans (purse_map w2 (.map #[] 0) (.cells #[.map (some w2.heap.size)] 57)); have hMV := (MapV.made w2 (aV zs n)).of_block (w' := w4) (hM.trans (heap_last w2 _).symm)) | (go_at_call 51; refine (again_any _ G w2.heap.size n R _ 0 zs _ (by omega) HIN.out hG hp hM hMV).mono ?_; rintro e w5 ⟨rfl, hg5⟩))
    go_ret2
    have h1 := (hB.alloc hB.size (.map #[] 0))
    have h2 := h1.alloc h1.size (.cells #[.map (some w2.heap.size)] 57)
    have h3 := h2.trans (hB4.mono h2.size)
    exact ⟨rfl, below_wrote h3 hg5 h3.size hB.size⟩

end Go.Proofs.Ytegmaieikocllaa
