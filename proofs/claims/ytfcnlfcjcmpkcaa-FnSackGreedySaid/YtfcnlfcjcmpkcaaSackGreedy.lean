/- SackGreedy and SackBound, the program's and the reference's. -/
import Derived.Test.YtfcnlfcjcmpkcaaSackOrder
namespace Go.Proofs.Ytfcnlfcjcmpkcaa
open Go.RowKit
set_option maxHeartbeats 1000000

theorem fits2_any (x r : Int) (w : World) :
    Calls Try.prog 37 #[.int .i64 x, .int .i64 r] w fun e w' => e = .returned (.bool (decide (x ≤ r))) ∧ w = w' := by
  by_cases h : x ≤ r
  · go_enter Try.func37, Try.ntmps37
    go_wp2
    go_ret
    exact ⟨ret_bool (by simp [h]), rfl⟩
  · go_enter Try.func37, Try.ntmps37
    go_wp2
    go_ret
    exact ⟨ret_bool (by simp; omega), rfl⟩
theorem left2_any (x r z : Int) (w : World) (hz : r - x = z) (h1 : -1000000 ≤ z) (h2 : z ≤ 1000000) :
    Calls Try.prog 38 #[.int .i64 x, .int .i64 r] w fun e w' => e = .returned (.int .i64 z) ∧ w = w' := by
  go_enter Try.func38, Try.ntmps38
  go_wp2
  go_ret
  exact ⟨by first | rfl | rw [hz], rfl⟩

theorem drop_at {D : List Int} {k : Nat} (h : k < D.length) : D.drop k = D[k]?.getD 0 :: D.drop (k + 1) := by
  rw [List.drop_eq_getElem_cons h, List.getElem?_eq_getElem h]; rfl
theorem tkn_in {zs D : List Int} {k : Nat} {r : Int} (h : k < D.length) (hw : wt zs (D[k]?.getD 0).toNat ≤ r) : tkn zs (D.drop k) r = wo zs (D[k]?.getD 0).toNat + tkn zs (D.drop (k + 1)) (r - wt zs (D[k]?.getD 0).toNat) := by
  rw [drop_at h]; simp only [tkn]; rw [if_pos hw]
theorem tkn_out {zs D : List Int} {k : Nat} {r : Int} (h : k < D.length) (hw : ¬ wt zs (D[k]?.getD 0).toNat ≤ r) : tkn zs (D.drop k) r = tkn zs (D.drop (k + 1)) r := by
  rw [drop_at h]; simp only [tkn]; rw [if_neg hw]
theorem one_in {zs D : List Int} {k : Nat} {r : Int} (h : k < D.length) (hw : wt zs (D[k]?.getD 0).toNat ≤ r) : one zs r (D.drop k) = max (wo zs (D[k]?.getD 0).toNat) (one zs r (D.drop (k + 1))) := by
  rw [drop_at h]; simp only [one]; rw [if_pos hw]
theorem one_out {zs D : List Int} {k : Nat} {r : Int} (h : k < D.length) (hw : ¬ wt zs (D[k]?.getD 0).toNat ≤ r) : one zs r (D.drop k) = one zs r (D.drop (k + 1)) := by
  rw [drop_at h]; simp only [one]; rw [if_neg hw]
theorem bnd_in {zs D : List Int} {k : Nat} {r : Int} (h : k < D.length) (hw : wt zs (D[k]?.getD 0).toNat ≤ r) : bnd zs (D.drop k) r = wo zs (D[k]?.getD 0).toNat + bnd zs (D.drop (k + 1)) (r - wt zs (D[k]?.getD 0).toNat) := by
  rw [drop_at h]; simp only [bnd]; rw [if_pos hw]
theorem bnd_out {zs D : List Int} {k : Nat} {r : Int} (h : k < D.length) (hw : ¬ wt zs (D[k]?.getD 0).toNat ≤ r) : bnd zs (D.drop k) r = wo zs (D[k]?.getD 0).toNat * r / wt zs (D[k]?.getD 0).toNat := by
  rw [drop_at h]; simp only [bnd]; rw [if_neg hw]

def greedyV (zs : List Int) (n : Nat) (room : Int) : Int := if told zs n room then greedy zs n room else 0
def sackBoundV (zs : List Int) (n : Nat) (room : Int) : Int := if told zs n room then bnd zs (dense zs n) room else 0

/-- What both greedy loops show behind k places. -/
def GrSt (zs D : List Int) (room : Int) (k : Nat) (t a l : Int) : Prop :=
  tkn zs D room = t + tkn zs (D.drop k) l ∧ one zs room D = max a (one zs room (D.drop k)) ∧ 0 ≤ t ∧ t ≤ 1000 * (k : Int) ∧ 0 ≤ a ∧ a ≤ 1000 ∧ 0 ≤ l ∧ l ≤ 600
theorem GrSt.start {zs D : List Int} {room : Int} (h : Good zs D) (h0 : 0 ≤ room) (h6 : room ≤ 600) : GrSt zs D room 0 0 0 room := by
  have := one_pos h room
  refine ⟨by simp, ?_, by omega, by simp, by omega, by omega, h0, h6⟩
  rw [List.drop_zero]; omega
theorem GrSt.step {zs D : List Int} {room : Int} {k : Nat} {t a l x y : Int} (h : GrSt zs D room k t a l) (hk : k < D.length) (hx : wt zs (D[k]?.getD 0).toNat = x) (hy : wo zs (D[k]?.getD 0).toNat = y) (hx1 : 1 ≤ x) (hy0 : 0 ≤ y) (hy1 : y ≤ 1000) :
    GrSt zs D room (k + 1) (if x ≤ l then t + y else t) (if x ≤ room then max a y else a) (if x ≤ l then l - x else l) := by
  obtain ⟨h1, h2, h3, h4, h5, h6, h7, h8⟩ := h
  refine ⟨?_, ?_, ?_, ?_, ?_, ?_, ?_, ?_⟩
  · by_cases hw : x ≤ l
    · rw [if_pos hw, if_pos hw, h1, tkn_in hk (by rw [hx]; exact hw), hx, hy]; omega
    · rw [if_neg hw, if_neg hw, h1, tkn_out hk (by rw [hx]; exact hw)]
  · by_cases hw : x ≤ room
    · rw [if_pos hw, h2, one_in hk (by rw [hx]; exact hw), hy]; omega
    · rw [if_neg hw, h2, one_out hk (by rw [hx]; exact hw)]
  · split <;> omega
  · split <;> omega
  · split <;> omega
  · split <;> omega
  · split <;> omega
  · split <;> omega
theorem GrSt.done {zs : List Int} {n : Nat} {room t a l : Int} (h : GrSt zs (dense zs n) room n t a l) : max t a = greedy zs n room := by
  obtain ⟨h1, h2, h3, h4, h5, h6, h7, h8⟩ := h
  have e : (dense zs n).drop n = [] := List.drop_of_length_le (by rw [dense_length]; exact Nat.le_refl _)
  rw [e] at h1 h2
  simp only [tkn, one] at h1 h2
  unfold greedy
  omega

theorem implSackGreedy_any (b off c n : Nat) (room : Int) (zs : List Int) (w : World) (hn : n ≤ 1152921504606846976) (hz : zs.length = 2 * n) (hr : Row w b off zs) :
    Calls Try.prog 21 #[.slice (some ⟨b, off, none⟩) n c, .int .i64 room] w fun e w' => e = .returned (.tuple #[.int .i64 (greedyV zs n room), .bool (told zs n room)]) ∧ Below w.heap.size w w' := by
  unfold greedyV
  cases ht : told zs n room
  · go_enter Try.func21, Try.ntmps21
    go_wp2_with (go_at_call 36; refine (sackTold_any _ _ _ _ _ zs _ hn hz hr).mono ?_; rw [ht]; rintro e w2 ⟨rfl, hB⟩)
    go_ret2
    exact ⟨rfl, hB⟩
  · obtain ⟨hin, h0, h6⟩ := told_yes ht
    have hlen := itemsIn_len hin
    have hgood := dense_good hin
    have hst := GrSt.start (zs := zs) (D := dense zs n) hgood h0 h6
    have hdl := dense_length zs n
    have hdone := fun t a l => GrSt.done (zs := zs) (n := n) (room := room) (t := t) (a := a) (l := l)
    have HIN := Lib.hid hin
    have HT := Lib.hid ht
    clear hin ht
    simp only [if_true]
    go_enter Try.func21, Try.ntmps21
    go_wp2_with fail
    refine (sackTold_any _ _ _ _ _ zs _ hn hz hr).mono ?_
    rw [HT.out]
    rintro e w2 ⟨rfl, hB⟩
    go_wp2_with fail
    refine (denseGoods_any _ _ _ n zs _ HIN.out hz (hr.behind hB)).mono ?_
    rintro e w3 ⟨G, rfl, hG, hGe, hB3⟩
    have hT3 := hB.trans (hB3.mono hB.size)
    obtain ⟨D, hD⟩ : ∃ D, dense zs n = D := ⟨_, rfl⟩
    rw [hD] at hG hgood hst hdl hdone
    have HG0 := Lib.hid hG
    have HGD := Lib.hid hgood
    have HST0 := Lib.hid hst
    have HDL := Lib.hid hdl
    have HDN := Lib.hid hdone
    have HT3 := Lib.hid hT3
    clear hD hB hB3 hG hgood hst hdl hdone hT3 hr hGe
    go_wp2
    go_loopw [19, 6, 7, 8] (fun i t a l wr => ∃ (k : Nat) (t' a' l' : Int), k ≤ n ∧ i = .int .i64 k ∧ t = .int .i64 t' ∧ a = .int .i64 a' ∧ l = .int .i64 l' ∧ GrSt zs D room k t' a' l' ∧ GoodsAt wr G zs D ∧ Below w.heap.size w wr) (fun i _ _ _ _ => n - (intOf i).toNat)
    case atStart => exact ⟨0, 0, 0, room, Nat.zero_le _, rfl, rfl, rfl, rfl, HST0.out, HG0.out, HT3.out⟩
    case round =>
      clear HST0 HG0 HT3
      obtain ⟨k, t, a, l, hk, rfl, rfl, rfl, rfl, hS, hG, hB⟩ := hrel
      obtain ⟨s3, s4, s5, s6, s7, s8⟩ := hS.2.2
      by_cases hlt : k < n
      · obtain ⟨d0, d1, d2⟩ := hG.cells k (by rw [HDL.out]; exact hlt)
        have hgk := HGD.out (D[k]?.getD 0) (by rw [List.getElem?_eq_getElem (by rw [HDL.out]; exact hlt)]; exact List.getElem_mem _)
        obtain ⟨x, hx⟩ : ∃ x, wt zs (D[k]?.getD 0).toNat = x := ⟨_, rfl⟩
        obtain ⟨y, hy⟩ : ∃ y, wo zs (D[k]?.getD 0).toNat = y := ⟨_, rfl⟩
        rw [hx] at d0
        rw [hy] at d1
        rw [hx, hy] at hgk
        have HS := Lib.hid (hS.step (by rw [HDL.out]; exact hlt) hx hy hgk.1 hgk.2.2.1 hgk.2.2.2)
        obtain ⟨p, hp⟩ : ∃ p, D[k]?.getD 0 = p := ⟨_, rfl⟩
        rw [hp] at d2
        have hsz := hB.size
        have HG := Lib.hid (hG.alloc (.cells #[.int .i64 x, .int .i64 y, .int .i64 p] 49))
        have HB := Lib.hid (hB.alloc hsz (.cells #[.int .i64 x, .int .i64 y, .int .i64 p] 49))
        clear hx hy hp hS hG hB
        by_cases q1 : x ≤ room
        · have p1 : decide (x ≤ room) = true := by simp [q1]
          by_cases q2 : x ≤ l
          · have p2 : decide (x ≤ l) = true := by simp [q2]
            have hrel2 := HS.out
            rw [if_pos q2, if_pos q1, if_pos q2] at hrel2
            have HR := Lib.hid hrel2
            clear hrel2
            by_cases q3 : a < y
            · go_wp2_with (first | (go_at_call 37; refine (fits2_any _ _ _).mono ?_; rintro e w' ⟨rfl, rfl⟩) | (go_at_call 38; refine (left2_any _ _ (l - x) _ rfl (by omega) (by omega)).mono ?_; rintro e w' ⟨rfl, rfl⟩))
              go_roundw
              case rel => exact ⟨k + 1, _, _, _, by omega, by go_num, rfl, rfl, rfl, by have := HR.out; rwa [show max a y = y by omega] at this, HG.out, HB.out⟩
              case measure => simp [intOf]; omega
            · go_wp2_with (first | (go_at_call 37; refine (fits2_any _ _ _).mono ?_; rintro e w' ⟨rfl, rfl⟩) | (go_at_call 38; refine (left2_any _ _ (l - x) _ rfl (by omega) (by omega)).mono ?_; rintro e w' ⟨rfl, rfl⟩))
              go_roundw
              case rel => exact ⟨k + 1, _, _, _, by omega, by go_num, rfl, rfl, rfl, by have := HR.out; rwa [show max a y = a by omega] at this, HG.out, HB.out⟩
              case measure => simp [intOf]; omega
          · have p2 : decide (x ≤ l) = false := by simp; omega
            have hrel2 := HS.out
            rw [if_neg q2, if_pos q1, if_neg q2] at hrel2
            have HR := Lib.hid hrel2
            clear hrel2
            by_cases q3 : a < y
            · go_wp2_with (go_at_call 37; refine (fits2_any _ _ _).mono ?_; rintro e w' ⟨rfl, rfl⟩)
              go_roundw
              case rel => exact ⟨k + 1, _, _, _, by omega, by go_num, rfl, rfl, rfl, by have := HR.out; rwa [show max a y = y by omega] at this, HG.out, HB.out⟩
              case measure => simp [intOf]; omega
            · go_wp2_with (go_at_call 37; refine (fits2_any _ _ _).mono ?_; rintro e w' ⟨rfl, rfl⟩)
              go_roundw
              case rel => exact ⟨k + 1, _, _, _, by omega, by go_num, rfl, rfl, rfl, by have := HR.out; rwa [show max a y = a by omega] at this, HG.out, HB.out⟩
              case measure => simp [intOf]; omega
        · have p1 : decide (x ≤ room) = false := by simp; omega
          by_cases q2 : x ≤ l
          · have p2 : decide (x ≤ l) = true := by simp [q2]
            have hrel2 := HS.out
            rw [if_pos q2, if_neg q1, if_pos q2] at hrel2
            have HR := Lib.hid hrel2
            clear hrel2
            go_wp2_with (first | (go_at_call 37; refine (fits2_any _ _ _).mono ?_; rintro e w' ⟨rfl, rfl⟩) | (go_at_call 38; refine (left2_any _ _ (l - x) _ rfl (by omega) (by omega)).mono ?_; rintro e w' ⟨rfl, rfl⟩))
            go_roundw
            case rel => exact ⟨k + 1, _, _, _, by omega, by go_num, rfl, rfl, rfl, HR.out, HG.out, HB.out⟩
            case measure => simp [intOf]; omega
          · have p2 : decide (x ≤ l) = false := by simp; omega
            have hrel2 := HS.out
            rw [if_neg q2, if_neg q1, if_neg q2] at hrel2
            have HR := Lib.hid hrel2
            clear hrel2
            go_wp2_with (go_at_call 37; refine (fits2_any _ _ _).mono ?_; rintro e w' ⟨rfl, rfl⟩)
            go_roundw
            case rel => exact ⟨k + 1, _, _, _, by omega, by go_num, rfl, rfl, rfl, HR.out, HG.out, HB.out⟩
            case measure => simp [intOf]; omega
      · obtain rfl : k = n := by omega
        have HV := Lib.hid (HDN.out t a l hS)
        clear hS
        by_cases q3 : t < a
        · go_wp2
          go_ret2
          exact ⟨ret_ib (by have := HV.out; omega) rfl, hB⟩
        · go_wp2
          go_ret2
          exact ⟨ret_ib (by have := HV.out; omega) rfl, hB⟩

theorem specSackGreedy_any (b off c n : Nat) (room : Int) (zs : List Int) (w : World) (hn : n ≤ 1152921504606846976) (hz : zs.length = 2 * n) (hr : Row w b off zs) :
    Calls Try.prog 22 #[.slice (some ⟨b, off, none⟩) n c, .int .i64 room] w fun e w' => e = .returned (.tuple #[.int .i64 (greedyV zs n room), .bool (told zs n room)]) ∧ Below w.heap.size w w' := by
  unfold greedyV
  cases ht : told zs n room
  · go_enter Try.func22, Try.ntmps22
    go_wp2_with (go_at_call 39; refine (l3Given_any _ _ _ _ _ zs _ hn hz hr).mono ?_; rw [ht]; rintro e w2 ⟨rfl, rfl⟩)
    go_ret2
    exact ⟨rfl, Below.refl _ _⟩
  · obtain ⟨hin, h0, h6⟩ := told_yes ht
    have hlen := itemsIn_len hin
    have hgood := dense_good hin
    have hst := GrSt.start (zs := zs) (D := dense zs n) hgood h0 h6
    have hdl := dense_length zs n
    have hdat := fun j hj => dense_at (zs := zs) (n := n) (j := j) hj
    have hdone := fun t a l => GrSt.done (zs := zs) (n := n) (room := room) (t := t) (a := a) (l := l)
    have HIN := Lib.hid hin
    have HT := Lib.hid ht
    clear hin ht
    simp only [if_true]
    go_enter Try.func22, Try.ntmps22
    go_wp2_with fail
    refine (l3Given_any _ _ _ _ _ zs _ hn hz hr).mono ?_
    rw [HT.out]
    rintro e w2 ⟨rfl, rfl⟩
    go_wp2_with fail
    refine (l3Order_any _ _ _ n zs _ HIN.out hz hr).mono ?_
    rintro e w3 ⟨g, c3, rfl, hO, hB3⟩
    have hrow := hO.row
    obtain ⟨D, hD⟩ : ∃ D, dense zs n = D := ⟨_, rfl⟩
    rw [hD] at hrow hgood hst hdl hdone hdat
    have HG0 := Lib.hid hrow
    have HGD := Lib.hid hgood
    have HST0 := Lib.hid hst
    have HDL := Lib.hid hdl
    have HDN := Lib.hid hdone
    have HDA := Lib.hid hdat
    have HT3 := Lib.hid hB3
    have HR0 := Lib.hid hr
    clear hD hB3 hO hrow hgood hst hdl hdone hdat hr
    go_wp2
    go_loopw [10, 8, 9, 7] (fun i t a l wr => ∃ (k : Nat) (t' a' l' : Int), k ≤ n ∧ i = .int .i64 k ∧ t = .int .i64 t' ∧ a = .int .i64 a' ∧ l = .int .i64 l' ∧ GrSt zs D room k t' a' l' ∧ Row wr g 0 D ∧ Below w.heap.size w wr) (fun i _ _ _ _ => n - (intOf i).toNat)
    case atStart => exact ⟨0, 0, 0, room, Nat.zero_le _, rfl, rfl, rfl, rfl, HST0.out, HG0.out, HT3.out⟩
    case round =>
      clear HST0 HG0 HT3
      obtain ⟨k, t, a, l, hk, rfl, rfl, rfl, rfl, hS, hG, hB⟩ := hrel
      obtain ⟨s3, s4, s5, s6, s7, s8⟩ := hS.2.2
      by_cases hlt : k < n
      · have d2 := hG.2 k (by rw [HDL.out]; exact hlt)
        obtain ⟨q, hq, hqe⟩ := HDA.out k hlt
        have hgk := HGD.out (D[k]?.getD 0) (by rw [List.getElem?_eq_getElem (by rw [HDL.out]; exact hlt)]; exact List.getElem_mem _)
        have d0 := Row.wt (HR0.out.behind hB) hz q hq
        have d1 := Row.wo (HR0.out.behind hB) hz q hq
        have hstep := fun x y h1 h2 => hS.step (x := x) (y := y) (by rw [HDL.out]; exact hlt) h1 h2
        rw [hqe] at d2 hgk hstep
        simp only [Int.toNat_natCast] at hgk hstep
        rw [Nat.zero_add] at d2
        obtain ⟨x, hx⟩ : ∃ x, wt zs q = x := ⟨_, rfl⟩
        obtain ⟨y, hy⟩ : ∃ y, wo zs q = y := ⟨_, rfl⟩
        rw [hx] at d0
        rw [hy] at d1
        rw [hx, hy] at hgk
        have HS := Lib.hid (hstep x y hx hy hgk.1 hgk.2.2.1 hgk.2.2.2)
        have hsz := hB.size
        have HG := Lib.hid (hG.alloc (.cells #[.int .i64 x, .int .i64 y] 30))
        have HB := Lib.hid (hB.alloc hsz (.cells #[.int .i64 x, .int .i64 y] 30))
        clear hx hy hS hG hB hqe hstep
        by_cases q1 : x ≤ room
        · by_cases q2 : x ≤ l
          · have hrel2 := HS.out
            rw [if_pos q2, if_pos q1, if_pos q2] at hrel2
            have HR := Lib.hid hrel2
            clear hrel2
            by_cases q3 : a < y
            · go_wp2
              go_roundw
              case rel => exact ⟨k + 1, _, _, _, by omega, by go_num, rfl, rfl, rfl, by have := HR.out; rwa [show max a y = y by omega] at this, HG.out, HB.out⟩
              case measure => simp [intOf]; omega
            · go_wp2
              go_roundw
              case rel => exact ⟨k + 1, _, _, _, by omega, by go_num, rfl, rfl, rfl, by have := HR.out; rwa [show max a y = a by omega] at this, HG.out, HB.out⟩
              case measure => simp [intOf]; omega
          · have hrel2 := HS.out
            rw [if_neg q2, if_pos q1, if_neg q2] at hrel2
            have HR := Lib.hid hrel2
            clear hrel2
            by_cases q3 : a < y
            · go_wp2
              go_roundw
              case rel => exact ⟨k + 1, _, _, _, by omega, by go_num, rfl, rfl, rfl, by have := HR.out; rwa [show max a y = y by omega] at this, HG.out, HB.out⟩
              case measure => simp [intOf]; omega
            · go_wp2
              go_roundw
              case rel => exact ⟨k + 1, _, _, _, by omega, by go_num, rfl, rfl, rfl, by have := HR.out; rwa [show max a y = a by omega] at this, HG.out, HB.out⟩
              case measure => simp [intOf]; omega
        · by_cases q2 : x ≤ l
          · have hrel2 := HS.out
            rw [if_pos q2, if_neg q1, if_pos q2] at hrel2
            have HR := Lib.hid hrel2
            clear hrel2
            go_wp2
            go_roundw
            case rel => exact ⟨k + 1, _, _, _, by omega, by go_num, rfl, rfl, rfl, HR.out, HG.out, HB.out⟩
            case measure => simp [intOf]; omega
          · have hrel2 := HS.out
            rw [if_neg q2, if_neg q1, if_neg q2] at hrel2
            have HR := Lib.hid hrel2
            clear hrel2
            go_wp2
            go_roundw
            case rel => exact ⟨k + 1, _, _, _, by omega, by go_num, rfl, rfl, rfl, HR.out, HG.out, HB.out⟩
            case measure => simp [intOf]; omega
      · obtain rfl : k = n := by omega
        have HV := Lib.hid (HDN.out t a l hS)
        clear hS
        by_cases q3 : t < a
        · go_wp2
          go_ret2
          exact ⟨ret_ib (by have := HV.out; omega) rfl, hB⟩
        · go_wp2
          go_ret2
          exact ⟨ret_ib (by have := HV.out; omega) rfl, hB⟩

/-- What both bound loops show behind k places. -/
def BnSt (zs D : List Int) (room : Int) (k : Nat) (t l : Int) : Prop :=
  bnd zs D room = t + bnd zs (D.drop k) l ∧ 0 ≤ t ∧ t ≤ 1000 * (k : Int) ∧ 0 ≤ l ∧ l ≤ 600
theorem BnSt.start {zs D : List Int} {room : Int} (h0 : 0 ≤ room) (h6 : room ≤ 600) : BnSt zs D room 0 0 room := ⟨by simp, by omega, by simp, h0, h6⟩
theorem BnSt.step {zs D : List Int} {room : Int} {k : Nat} {t l x y : Int} (h : BnSt zs D room k t l) (hk : k < D.length) (hx : wt zs (D[k]?.getD 0).toNat = x) (hy : wo zs (D[k]?.getD 0).toNat = y) (hx1 : 1 ≤ x) (hy0 : 0 ≤ y) (hy1 : y ≤ 1000) (hw : x ≤ l) : BnSt zs D room (k + 1) (t + y) (l - x) := by
  obtain ⟨h1, h2, h3, h4, h5⟩ := h
  refine ⟨?_, by omega, by omega, by omega, by omega⟩
  rw [h1, bnd_in hk (by rw [hx]; exact hw), hx, hy]; omega
theorem BnSt.stop {zs D : List Int} {room : Int} {k : Nat} {t l x y : Int} (h : BnSt zs D room k t l) (hk : k < D.length) (hx : wt zs (D[k]?.getD 0).toNat = x) (hy : wo zs (D[k]?.getD 0).toNat = y) (hw : ¬ x ≤ l) : bnd zs D room = t + y * l / x := by
  rw [h.1, bnd_out hk (by rw [hx]; exact hw), hx, hy]
theorem BnSt.done {zs : List Int} {n : Nat} {room t l : Int} (h : BnSt zs (dense zs n) room n t l) : bnd zs (dense zs n) room = t := by
  have e : (dense zs n).drop n = [] := List.drop_of_length_le (by rw [dense_length]; exact Nat.le_refl _)
  rw [h.1, e]; simp [bnd]
theorem part_facts {x y l : Int} (hx : 1 ≤ x) (hy0 : 0 ≤ y) (hy1 : y ≤ 1000) (hl0 : 0 ≤ l) (hl : l ≤ 600) (hw : ¬ x ≤ l) : ∃ u q, y * l = u ∧ 0 ≤ u ∧ u ≤ 600000 ∧ u / x = q ∧ Int.tdiv u x = q ∧ 0 ≤ q ∧ q ≤ 1000 := by
  have h1 : 0 ≤ y * l := Int.mul_nonneg hy0 hl0
  have h2 : y * l ≤ 1000 * 600 := Int.mul_le_mul hy1 hl hl0 (by omega)
  have h3 := part_le (a := y) (b := x) (r := l) hy0 (by omega) (by omega)
  refine ⟨y * l, y * l / x, rfl, h1, by omega, rfl, Int.tdiv_eq_ediv_of_nonneg h1, Int.ediv_nonneg h1 (by omega), by omega⟩

theorem implSackBound_any (b off c n : Nat) (room : Int) (zs : List Int) (w : World) (hn : n ≤ 1152921504606846976) (hz : zs.length = 2 * n) (hr : Row w b off zs) :
    Calls Try.prog 15 #[.slice (some ⟨b, off, none⟩) n c, .int .i64 room] w fun e w' => e = .returned (.tuple #[.int .i64 (sackBoundV zs n room), .bool (told zs n room)]) ∧ Below w.heap.size w w' := by
  unfold sackBoundV
  cases ht : told zs n room
  · go_enter Try.func15, Try.ntmps15
    go_wp2_with (go_at_call 36; refine (sackTold_any _ _ _ _ _ zs _ hn hz hr).mono ?_; rw [ht]; rintro e w2 ⟨rfl, hB⟩)
    go_ret2
    exact ⟨rfl, hB⟩
  · obtain ⟨hin, h0, h6⟩ := told_yes ht
    have hlen := itemsIn_len hin
    have hgood := dense_good hin
    have hst := BnSt.start (zs := zs) (D := dense zs n) h0 h6
    have hdl := dense_length zs n
    have hdone := fun t l => BnSt.done (zs := zs) (n := n) (room := room) (t := t) (l := l)
    have HIN := Lib.hid hin
    have HT := Lib.hid ht
    clear hin ht
    simp only [if_true]
    go_enter Try.func15, Try.ntmps15
    go_wp2_with fail
    refine (sackTold_any _ _ _ _ _ zs _ hn hz hr).mono ?_
    rw [HT.out]
    rintro e w2 ⟨rfl, hB⟩
    go_wp2_with fail
    refine (denseGoods_any _ _ _ n zs _ HIN.out hz (hr.behind hB)).mono ?_
    rintro e w3 ⟨G, rfl, hG, hGe, hB3⟩
    have hT3 := hB.trans (hB3.mono hB.size)
    obtain ⟨D, hD⟩ : ∃ D, dense zs n = D := ⟨_, rfl⟩
    rw [hD] at hG hgood hst hdl hdone
    have HG0 := Lib.hid hG
    have HGD := Lib.hid hgood
    have HST0 := Lib.hid hst
    have HDL := Lib.hid hdl
    have HDN := Lib.hid hdone
    have HT3 := Lib.hid hT3
    have HDD := Lib.hid hD
    clear hD hB hB3 hG hgood hst hdl hdone hT3 hr hGe
    go_wp2
    go_loopw [18, 6, 7] (fun i t l wr => ∃ (k : Nat) (t' l' : Int), k ≤ n ∧ i = .int .i64 k ∧ t = .int .i64 t' ∧ l = .int .i64 l' ∧ BnSt zs D room k t' l' ∧ GoodsAt wr G zs D ∧ Below w.heap.size w wr) (fun i _ _ _ => n - (intOf i).toNat)
    case atStart => exact ⟨0, 0, room, Nat.zero_le _, rfl, rfl, rfl, HST0.out, HG0.out, HT3.out⟩
    case round =>
      clear HST0 HG0 HT3
      obtain ⟨k, t, l, hk, rfl, rfl, rfl, hS, hG, hB⟩ := hrel
      obtain ⟨s3, s4, s7, s8⟩ := hS.2
      by_cases hlt : k < n
      · obtain ⟨d0, d1, d2⟩ := hG.cells k (by rw [HDL.out]; exact hlt)
        have hgk := HGD.out (D[k]?.getD 0) (by rw [List.getElem?_eq_getElem (by rw [HDL.out]; exact hlt)]; exact List.getElem_mem _)
        obtain ⟨x, hx⟩ : ∃ x, wt zs (D[k]?.getD 0).toNat = x := ⟨_, rfl⟩
        obtain ⟨y, hy⟩ : ∃ y, wo zs (D[k]?.getD 0).toNat = y := ⟨_, rfl⟩
        rw [hx] at d0
        rw [hy] at d1
        rw [hx, hy] at hgk
        have HS := Lib.hid (hS.step (by rw [HDL.out]; exact hlt) hx hy hgk.1 hgk.2.2.1 hgk.2.2.2)
        have HE := Lib.hid (hS.stop (by rw [HDL.out]; exact hlt) hx hy)
        obtain ⟨p, hp⟩ : ∃ p, D[k]?.getD 0 = p := ⟨_, rfl⟩
        rw [hp] at d2
        have hsz := hB.size
        have HG := Lib.hid (hG.alloc (.cells #[.int .i64 x, .int .i64 y, .int .i64 p] 49))
        have HB := Lib.hid (hB.alloc hsz (.cells #[.int .i64 x, .int .i64 y, .int .i64 p] 49))
        clear hx hy hp hS hG hB
        by_cases q2 : x ≤ l
        · have p2 : decide (x ≤ l) = true := by simp [q2]
          go_wp2_with (first | (go_at_call 37; refine (fits2_any _ _ _).mono ?_; rintro e w' ⟨rfl, rfl⟩) | (go_at_call 38; refine (left2_any _ _ (l - x) _ rfl (by omega) (by omega)).mono ?_; rintro e w' ⟨rfl, rfl⟩))
          go_roundw
          case rel => exact ⟨k + 1, _, _, by omega, by go_num, rfl, rfl, HS.out q2, HG.out, HB.out⟩
          case measure => simp [intOf]; omega
        · have p2 : decide (x ≤ l) = false := by simp; omega
          obtain ⟨u, q, e1, e2, e3, e4, e5, e6, e7⟩ := part_facts hgk.1 hgk.2.2.1 hgk.2.2.2 s7 s8 q2
          have hE := HE.out q2
          rw [e1, e4] at hE
          have HE2 := Lib.hid hE
          clear hE
          go_wp2_with (go_at_call 37; refine (fits2_any _ _ _).mono ?_; rintro e w' ⟨rfl, rfl⟩)
          go_ret2
          exact ⟨ret_ib (by rw [HDD.out, HE2.out]) rfl, HB.out⟩
      · obtain rfl : k = n := by omega
        have HV := Lib.hid (HDN.out t l hS)
        clear hS
        go_wp2
        go_ret2
        exact ⟨ret_ib (by rw [HDD.out, HV.out]) rfl, hB⟩

theorem specSackBound_any (b off c n : Nat) (room : Int) (zs : List Int) (w : World) (hn : n ≤ 1152921504606846976) (hz : zs.length = 2 * n) (hr : Row w b off zs) :
    Calls Try.prog 16 #[.slice (some ⟨b, off, none⟩) n c, .int .i64 room] w fun e w' => e = .returned (.tuple #[.int .i64 (sackBoundV zs n room), .bool (told zs n room)]) ∧ Below w.heap.size w w' := by
  unfold sackBoundV
  cases ht : told zs n room
  · go_enter Try.func16, Try.ntmps16
    go_wp2_with (go_at_call 39; refine (l3Given_any _ _ _ _ _ zs _ hn hz hr).mono ?_; rw [ht]; rintro e w2 ⟨rfl, rfl⟩)
    go_ret2
    exact ⟨rfl, Below.refl _ _⟩
  · obtain ⟨hin, h0, h6⟩ := told_yes ht
    have hlen := itemsIn_len hin
    have hgood := dense_good hin
    have hst := BnSt.start (zs := zs) (D := dense zs n) h0 h6
    have hdl := dense_length zs n
    have hdat := fun j hj => dense_at (zs := zs) (n := n) (j := j) hj
    have hdone := fun t l => BnSt.done (zs := zs) (n := n) (room := room) (t := t) (l := l)
    have HIN := Lib.hid hin
    have HT := Lib.hid ht
    clear hin ht
    simp only [if_true]
    go_enter Try.func16, Try.ntmps16
    go_wp2_with fail
    refine (l3Given_any _ _ _ _ _ zs _ hn hz hr).mono ?_
    rw [HT.out]
    rintro e w2 ⟨rfl, rfl⟩
    go_wp2_with fail
    refine (l3Order_any _ _ _ n zs _ HIN.out hz hr).mono ?_
    rintro e w3 ⟨g, c3, rfl, hO, hB3⟩
    have hrow := hO.row
    obtain ⟨D, hD⟩ : ∃ D, dense zs n = D := ⟨_, rfl⟩
    rw [hD] at hrow hgood hst hdl hdone hdat
    have HG0 := Lib.hid hrow
    have HGD := Lib.hid hgood
    have HST0 := Lib.hid hst
    have HDL := Lib.hid hdl
    have HDN := Lib.hid hdone
    have HDA := Lib.hid hdat
    have HT3 := Lib.hid hB3
    have HR0 := Lib.hid hr
    have HDD := Lib.hid hD
    clear hD hB3 hO hrow hgood hst hdl hdone hdat hr
    go_wp2
    go_loopw [8, 7, 1] (fun i t l wr => ∃ (k : Nat) (t' l' : Int), k ≤ n ∧ i = .int .i64 k ∧ t = .int .i64 t' ∧ l = .int .i64 l' ∧ BnSt zs D room k t' l' ∧ Row wr g 0 D ∧ Below w.heap.size w wr) (fun i _ _ _ => n - (intOf i).toNat)
    case atStart => exact ⟨0, 0, room, Nat.zero_le _, rfl, rfl, rfl, HST0.out, HG0.out, HT3.out⟩
    case round =>
      clear HST0 HG0 HT3
      obtain ⟨k, t, l, hk, rfl, rfl, rfl, hS, hG, hB⟩ := hrel
      obtain ⟨s3, s4, s7, s8⟩ := hS.2
      by_cases hlt : k < n
      · have d2 := hG.2 k (by rw [HDL.out]; exact hlt)
        obtain ⟨q0, hq, hqe⟩ := HDA.out k hlt
        have hgk := HGD.out (D[k]?.getD 0) (by rw [List.getElem?_eq_getElem (by rw [HDL.out]; exact hlt)]; exact List.getElem_mem _)
        have d0 := Row.wt (HR0.out.behind hB) hz q0 hq
        have d1 := Row.wo (HR0.out.behind hB) hz q0 hq
        have hstep := fun x y h1 h2 => hS.step (x := x) (y := y) (by rw [HDL.out]; exact hlt) h1 h2
        have hstop := fun x y h1 h2 => hS.stop (x := x) (y := y) (by rw [HDL.out]; exact hlt) h1 h2
        rw [hqe] at d2 hgk hstep hstop
        simp only [Int.toNat_natCast] at hgk hstep hstop
        rw [Nat.zero_add] at d2
        obtain ⟨x, hx⟩ : ∃ x, wt zs q0 = x := ⟨_, rfl⟩
        obtain ⟨y, hy⟩ : ∃ y, wo zs q0 = y := ⟨_, rfl⟩
        rw [hx] at d0
        rw [hy] at d1
        rw [hx, hy] at hgk
        have HS := Lib.hid (hstep x y hx hy hgk.1 hgk.2.2.1 hgk.2.2.2)
        have HE := Lib.hid (hstop x y hx hy)
        have hsz := hB.size
        have HG := Lib.hid (hG.alloc (.cells #[.int .i64 x, .int .i64 y] 30))
        have HB := Lib.hid (hB.alloc hsz (.cells #[.int .i64 x, .int .i64 y] 30))
        clear hx hy hS hG hB hqe hstep hstop
        by_cases q2 : x ≤ l
        · go_wp2
          go_roundw
          case rel => exact ⟨k + 1, _, _, by omega, by go_num, rfl, rfl, HS.out q2, HG.out, HB.out⟩
          case measure => simp [intOf]; omega
        · obtain ⟨u, q, e1, e2, e3, e4, e5, e6, e7⟩ := part_facts hgk.1 hgk.2.2.1 hgk.2.2.2 s7 s8 q2
          have hE := HE.out q2
          rw [e1, e4] at hE
          have HE2 := Lib.hid hE
          clear hE
          go_wp2
          go_ret2
          exact ⟨ret_ib (by rw [HDD.out, HE2.out]) rfl, HB.out⟩
      · obtain rfl : k = n := by omega
        have HV := Lib.hid (HDN.out t l hS)
        clear hS
        go_wp2
        go_ret2
        exact ⟨ret_ib (by rw [HDD.out, HV.out]) rfl, hB⟩

end Go.Proofs.Ytfcnlfcjcmpkcaa
