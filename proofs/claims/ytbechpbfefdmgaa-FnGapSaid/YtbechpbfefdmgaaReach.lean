/- SumReach, SumGap: contracts. -/
import Derived.Test.YtbechpbfefdmgaaMissing
namespace Go.Proofs.Ytbechpbfefdmgaa
open Go.RowKit

/-- The places below k with a number greater than 0. -/
def reachTo (C : List Int) (k : Nat) : List Int := ((List.range k).filter fun (v : Nat) => decide (0 < C[v]?.getD 0)).map fun (v : Nat) => (v : Int)
theorem reachTo_hit {C : List Int} {k : Nat} (h : 0 < C[k]?.getD 0) : reachTo C (k + 1) = reachTo C k ++ [(k : Int)] := by simp [reachTo, List.range_succ, h]
theorem reachTo_miss {C : List Int} {k : Nat} (h : ¬ 0 < C[k]?.getD 0) : reachTo C (k + 1) = reachTo C k := by
  unfold reachTo
  rw [List.range_succ, List.filter_append]
  simp [h]
theorem reachTo_le (C : List Int) (k : Nat) : (reachTo C k).length ≤ k := by
  unfold reachTo; rw [List.length_map]; exact Nat.le_trans (List.length_filter_le _ _) (by simp)
def reachOf (zs : List Int) : List Int := if isIn zs then reachTo (counts zs) (counts zs).length else []
theorem reachOf_out {zs : List Int} (h : isIn zs = false) : reachOf zs = [] := by unfold reachOf; rw [h]; rfl
theorem reachOf_in {zs : List Int} (h : isIn zs = true) : reachOf zs = reachTo (counts zs) (counts zs).length := by unfold reachOf; rw [h]; rfl
theorem reachOf_len (zs : List Int) : (reachOf zs).length ≤ 601 := by
  cases h : isIn zs with
  | false => rw [reachOf_out h]; simp
  | true => rw [reachOf_in h]; exact Nat.le_trans (reachTo_le _ _) (counts_len h)

set_option maxHeartbeats 1000000
theorem implSumReach_any (b off c : Nat) (zs : List Int) (w : World) (hn : zs.length ≤ 1152921504606846976) (hr : Row w b off zs) :
    Calls Try.prog 44 #[.slice (some ⟨b, off, none⟩) zs.length c] w fun e w' => ∃ g c', e = .returned (.tuple #[.slice (some ⟨g, 0, none⟩) (reachOf zs).length c', .bool (isIn zs)]) ∧ Owns w' w.heap.size g c' (reachOf zs) ∧ Below w.heap.size w w' := by
  have hC := implSumCounts_any b off c zs w hn hr
  obtain ⟨i0, hi, hz0, hz1, hz2⟩ := info_parts info_int
  cases hin : isIn zs with
  | false =>
    rw [reachOf_out hin]
    rw [hin] at hC
    have HC := Lib.hid hC
    clear hC hin
    go_enter Try.func44, Try.ntmps44
    go_wp2_with (go_at_call 20; refine HC.out.mono ?_; rintro e w1 ⟨g, c', rfl, hO, hB⟩)
    go_ret2
    exact ⟨_, _, rfl, owns_empty _ _ hB.size, hB.alloc hB.size _⟩
  | true =>
    rw [reachOf_in hin]
    rw [hin, countsOf_in hin] at hC
    have hln := counts_len hin
    obtain ⟨C, hCd⟩ : ∃ C, counts zs = C := ⟨_, rfl⟩
    rw [hCd] at hC hln ⊢
    have HC := Lib.hid hC
    clear hC hin hCd
    go_enter Try.func44, Try.ntmps44
    go_wp2_with (go_at_call 20; refine HC.out.mono ?_; rintro e w1 ⟨g, c', rfl, hO, hB⟩)
    have hR0 := owns_empty w1 w1.heap.size (Nat.le_refl _)
    have hB0 : Below w1.heap.size w1 (w1.alloc (.cells #[] 3)) := by go_grown
    have HO := Lib.hid hO
    have HR0 := Lib.hid hR0
    clear hO hR0
    go_loopw [20, 6] (fun i o wr => ∃ k g2 c2 : Nat, k ≤ C.length ∧ i = .int .i64 k ∧ o = .slice (some ⟨g2, 0, none⟩) (reachTo C k).length c2 ∧ Owns wr w1.heap.size g2 c2 (reachTo C k) ∧ Below w1.heap.size w1 wr) (fun i _ _ => C.length - (intOf i).toNat)
    case atStart => exact ⟨0, _, _, Nat.zero_le _, rfl, rfl, HR0.out, hB0⟩
    case round =>
      clear HR0 hB0
      obtain ⟨k, g2, c2, hk, rfl, rfl, hR, hB1⟩ := hrel
      by_cases hlt : k < C.length
      · have hcell := (HO.out.behind hB1).row.2 k hlt
        rw [Nat.zero_add] at hcell
        have hL := reachTo_le C k
        have hhit := reachTo_hit (C := C) (k := k)
        have hmiss := reachTo_miss (C := C) (k := k)
        obtain ⟨x, hx⟩ : ∃ x, C[k]?.getD 0 = x := ⟨_, rfl⟩
        rw [hx] at hcell hhit hmiss
        obtain ⟨L, hLd⟩ : ∃ L, reachTo C k = L := ⟨_, rfl⟩
        rw [hLd] at hhit hmiss hL hR ⊢
        have HHIT := Lib.hid hhit
        have HMISS := Lib.hid hmiss
        clear hx hhit hmiss hLd
        by_cases hpos : 0 < x
        · go_wp2_with (at_builtin; refine wpList_append_own _ rfl _ _ 22 rfl w1.heap.size 3 i0 (.int .i64 0) 1 8 Try.underlying22 hi hz0 hz1 hz2 rfl (by decide) _ _ _ rfl (hR.alloc _) ⟨wr.heap.size, 0, none⟩ 1 1 [.int .i64 (k : Int)] rfl rfl (cell_one_new _ _ _) (by simp [Value.oneCell']) (by unfold maxLen; omega) (by omega) (by have := hB1.size; simp; omega) ?_; intro v' w2 hown' hgrow _; obtain ⟨g3, c3, rfl, hO3, hB3⟩ := owns_appended hR hown' hgrow hB1 (Nat.le_refl _) hB1.size)
          go_roundw
          case rel => exact ⟨k + 1, g3, c3, by omega, by go_num, by rw [HHIT.out hpos, List.length_append]; rfl, by rw [HHIT.out hpos]; exact hO3, hB3⟩
          case measure => simp [intOf]; omega
        · go_wp2
          go_roundw
          case rel => exact ⟨k + 1, g2, c2, by omega, by go_num, by rw [HMISS.out hpos], by rw [HMISS.out hpos]; exact hR, hB1⟩
          case measure => simp [intOf]; omega
      · obtain rfl : k = C.length := by omega
        go_wp2
        go_ret2
        exact ⟨_, _, rfl, hR.base (by have := hR.ge; have := hB.size; omega), hB.trans (hB1.mono hB.size)⟩

theorem specSumReach_any (b off c : Nat) (zs : List Int) (w : World) (hn : zs.length ≤ 1152921504606846976) (hr : Row w b off zs) :
    Calls Try.prog 45 #[.slice (some ⟨b, off, none⟩) zs.length c] w fun e w' => ∃ g c', e = .returned (.tuple #[.slice (some ⟨g, 0, none⟩) (reachOf zs).length c', .bool (isIn zs)]) ∧ Owns w' w.heap.size g c' (reachOf zs) ∧ Below w.heap.size w w' := by
  obtain ⟨i0, hi, hz0, hz1, hz2⟩ := info_parts info_int
  cases hin : isIn zs with
  | false =>
    rw [reachOf_out hin]
    go_enter Try.func45, Try.ntmps45
    go_wp2_with (go_at_call 33; refine (specSumIn_any _ _ _ _ _ hn (hr.alloc _)).mono ?_; rintro e w' ⟨rfl, rfl⟩)
    go_ret2
    exact ⟨_, _, rfl, owns_empty _ _ (Nat.le_refl _), by go_grown⟩
  | true =>
    have hC := l1Counts_any b off c zs (w.alloc (.cells #[] 3)) hin (hr.alloc _)
    rw [reachOf_in hin]
    have hln := counts_len hin
    obtain ⟨C, hCd⟩ : ∃ C, counts zs = C := ⟨_, rfl⟩
    rw [hCd] at hC hln ⊢
    have HC := Lib.hid hC
    clear hC hCd
    go_enter Try.func45, Try.ntmps45
    go_wp2_with (first | (go_at_call 33; refine (specSumIn_any _ _ _ _ _ hn (hr.alloc _)).mono ?_; rintro e w' ⟨rfl, rfl⟩) | (go_at_call 54; refine HC.out.mono ?_; rintro e w1 ⟨g, c', rfl, hO, hB⟩))
    clear hin
    have hE := (owns_empty w w.heap.size (Nat.le_refl _)).behind hB
    have hBw : Below w.heap.size w w1 := ((Below.refl w.heap.size w).alloc (Nat.le_refl _) _).trans (hB.mono (by simp))
    have hg1 : g ≠ w.heap.size := by have := hO.ge; simp at this; omega
    have HO := Lib.hid hO.row
    have HE := Lib.hid hE
    have hgl := hO.lt
    have hszw := hBw.size
    clear hO hE hB
    go_loopw [6, 4] (fun i o wr => ∃ k g2 c2 : Nat, k ≤ C.length ∧ i = .int .i64 k ∧ o = .slice (some ⟨g2, 0, none⟩) (reachTo C k).length c2 ∧ Owns wr w.heap.size g2 c2 (reachTo C k) ∧ Row wr g 0 C ∧ g ≠ g2 ∧ Below w.heap.size w wr) (fun i _ _ => C.length - (intOf i).toNat)
    case atStart => exact ⟨0, _, _, Nat.zero_le _, rfl, rfl, HE.out, HO.out, hg1, hBw⟩
    case round =>
      clear HE HO hBw hgl
      obtain ⟨k, g2, c2, hk, rfl, rfl, hR, hO, hne, hB1⟩ := hrel
      by_cases hlt : k < C.length
      · have hcell := hO.2 k hlt
        rw [Nat.zero_add] at hcell
        have hgl := hO.1
        have hL := reachTo_le C k
        have hhit := reachTo_hit (C := C) (k := k)
        have hmiss := reachTo_miss (C := C) (k := k)
        obtain ⟨x, hx⟩ : ∃ x, C[k]?.getD 0 = x := ⟨_, rfl⟩
        rw [hx] at hcell hhit hmiss
        obtain ⟨L, hLd⟩ : ∃ L, reachTo C k = L := ⟨_, rfl⟩
        rw [hLd] at hhit hmiss hL hR ⊢
        have HHIT := Lib.hid hhit
        have HMISS := Lib.hid hmiss
        clear hx hhit hmiss hLd
        by_cases hpos : 0 < x
        · go_wp2_with (at_builtin; refine wpList_append_own_at _ rfl _ _ 22 rfl w.heap.size 3 i0 (.int .i64 0) 1 8 Try.underlying22 hi hz0 hz1 hz2 rfl (by decide) _ _ _ rfl (hR.alloc _) ⟨wr.heap.size, 0, none⟩ 1 1 [.int .i64 (k : Int)] rfl rfl (cell_one_new _ _ _) (by simp [Value.oneCell']) (by unfold maxLen; omega) (by omega) (by have := hB1.size; simp; omega) ?_; intro v' w2 hown' hgrow _ hat; have hO2 : Row w2 g 0 C := (hO.alloc (.cells #[.int .i64 (k : Int)] 3)).grown (g := g2) hgrow hne; obtain ⟨g3, c3, rfl, hO3, hB3⟩ := owns_appended hR hown' hgrow hB1 (Nat.le_refl _) hB1.size)
          have hne3 : g ≠ g3 := by
            rcases hat with h | h
            · have h' : g3 = g2 := Option.some.inj (show some g3 = some g2 from h)
              omega
            · have h' : g3 = (wr.alloc (.cells #[.int .i64 (k : Int)] 3)).heap.size := Option.some.inj (show some g3 = some _ from h)
              rw [World.size_alloc] at h'
              omega
          go_roundw
          case rel => exact ⟨k + 1, g3, c3, by omega, by go_num, by rw [HHIT.out hpos, List.length_append]; rfl, by rw [HHIT.out hpos]; exact hO3, hO2, hne3, hB3⟩
          case measure => simp [intOf]; omega
        · go_wp2
          go_roundw
          case rel => exact ⟨k + 1, g2, c2, by omega, by go_num, by rw [HMISS.out hpos], by rw [HMISS.out hpos]; exact hR, hO, hne, hB1⟩
          case measure => simp [intOf]; omega
      · obtain rfl : k = C.length := by omega
        go_wp2
        go_ret2
        exact ⟨_, _, rfl, hR, hB1⟩

/-- The greatest difference of two numbers beside each other among the first k. -/
def gapTo (R : List Int) : Nat → Int
  | 0 => 0
  | k + 1 => if k = 0 then 0 else max (gapTo R k) (R[k]?.getD 0 - R[k - 1]?.getD 0)
theorem gapTo_one (R : List Int) : gapTo R 1 = 0 := rfl
theorem gapTo_succ (R : List Int) (k : Nat) (h : 1 ≤ k) : gapTo R (k + 1) = max (gapTo R k) (R[k]?.getD 0 - R[k - 1]?.getD 0) := by
  simp only [gapTo]; rw [if_neg (by omega)]
def gapV (zs : List Int) : Int := gapTo (reachOf zs) (reachOf zs).length
theorem reachTo_bd (C : List Int) (k j : Nat) (hk : k ≤ 601) : 0 ≤ (reachTo C k)[j]?.getD 0 ∧ (reachTo C k)[j]?.getD 0 ≤ 601 := by
  cases h : (reachTo C k)[j]? with
  | none => simp
  | some x =>
    have hm := List.mem_of_getElem? h
    unfold reachTo at hm
    obtain ⟨v, hv, rfl⟩ := List.mem_map.1 hm
    have := List.mem_range.1 (List.mem_filter.1 hv).1
    simp; omega
theorem reachOf_bd (zs : List Int) (j : Nat) : 0 ≤ (reachOf zs)[j]?.getD 0 ∧ (reachOf zs)[j]?.getD 0 ≤ 601 := by
  cases h : isIn zs with
  | false => rw [reachOf_out h]; simp
  | true => rw [reachOf_in h]; exact reachTo_bd _ _ _ (counts_len h)
theorem gapTo_bd (R : List Int) (k : Nat) (h : ∀ j : Nat, 0 ≤ R[j]?.getD 0 ∧ R[j]?.getD 0 ≤ 601) : 0 ≤ gapTo R k ∧ gapTo R k ≤ 601 := by
  induction k with
  | zero => simp [gapTo]
  | succ k ih =>
    simp only [gapTo]
    split
    · omega
    · have h1 := h k; have h2 := h (k - 1); omega

theorem implSumGap_any (b off c : Nat) (zs : List Int) (w : World) (hn : zs.length ≤ 1152921504606846976) (hr : Row w b off zs) :
    Calls Try.prog 26 #[.slice (some ⟨b, off, none⟩) zs.length c] w fun e w' => e = .returned (.tuple #[.int .i64 (gapV zs), .bool (isIn zs)]) ∧ Below w.heap.size w w' := by
  have hC := implSumReach_any b off c zs w hn hr
  cases hin : isIn zs with
  | false =>
    have hg : gapV zs = 0 := by unfold gapV; rw [reachOf_out hin]; rfl
    rw [hg]
    rw [hin] at hC
    have HC := Lib.hid hC
    clear hC hin hg
    go_enter Try.func26, Try.ntmps26
    go_wp2_with (go_at_call 44; refine HC.out.mono ?_; rintro e w1 ⟨g, c', rfl, hO, hB⟩)
    go_ret2
    exact ⟨rfl, hB⟩
  | true =>
    unfold gapV
    rw [hin] at hC
    have hbd := reachOf_bd zs
    have hln := reachOf_len zs
    obtain ⟨R, hRd⟩ : ∃ R, reachOf zs = R := ⟨_, rfl⟩
    rw [hRd] at hC hbd hln ⊢
    have HC := Lib.hid hC
    have HBD := Lib.hid hbd
    clear hC hin hbd hRd
    go_enter Try.func26, Try.ntmps26
    go_wp2_with (go_at_call 44; refine HC.out.mono ?_; rintro e w1 ⟨g, c', rfl, hO, hB⟩)
    have HO := Lib.hid hO.row
    clear hO
    go_loopw [7, 6] (fun i o wr => ∃ k n : Nat, 1 ≤ k ∧ (k ≤ R.length ∨ k = 1) ∧ i = .int .i64 k ∧ o = .int .i64 (gapTo R k) ∧ wr = w1.drewN n) (fun i _ _ => R.length - (intOf i).toNat)
    case atStart => exact ⟨1, 0, Nat.le_refl _, .inr rfl, rfl, rfl, rfl⟩
    case round =>
      obtain ⟨k, n, hk1, hk, rfl, rfl, rfl⟩ := hrel
      by_cases hlt : k < R.length
      · have hc1 := HO.out.2 k hlt
        rw [Nat.zero_add] at hc1
        have hc2 := HO.out.2 (k - 1) (by omega)
        rw [Nat.zero_add] at hc2
        have hb1 := HBD.out k
        have hb2 := HBD.out (k - 1)
        have hb3 := gapTo_bd R k HBD.out
        have hst := gapTo_succ R k hk1
        obtain ⟨x, hx⟩ : ∃ x, R[k]?.getD 0 = x := ⟨_, rfl⟩
        obtain ⟨y, hy⟩ : ∃ y, R[k - 1]?.getD 0 = y := ⟨_, rfl⟩
        obtain ⟨m, hm⟩ : ∃ m, gapTo R k = m := ⟨_, rfl⟩
        rw [hx] at hc1 hb1 hst
        rw [hy] at hc2 hb2 hst
        rw [hm] at hb3 hst ⊢
        have hif := max_if m (x - y)
        obtain ⟨z, hz⟩ : ∃ z, max m (x - y) = z := ⟨_, rfl⟩
        rw [hz] at hif hst
        have HS := Lib.hid hst
        clear hx hy hm hst hz
        go_wp2
        go_quiet (fail)
        go_wp2
        go_roundw
        case rel => exact ⟨k + 1, _, by omega, by omega, by go_num, by rw [HS.out], rfl⟩
        case measure => simp [intOf]; omega
      · go_wp2
        go_ret2
        have : gapTo R k = gapTo R R.length := by
          rcases hk with h | h
          · rw [show k = R.length by omega]
          · subst h
            have : R.length = 0 ∨ R.length = 1 := by omega
            rcases this with e | e <;> rw [e] <;> rfl
        exact ⟨by rw [this]; rfl, below_drewN hB _⟩

theorem specSumGap_any (b off c : Nat) (zs : List Int) (w : World) (hn : zs.length ≤ 1152921504606846976) (hr : Row w b off zs) :
    Calls Try.prog 27 #[.slice (some ⟨b, off, none⟩) zs.length c] w fun e w' => e = .returned (.tuple #[.int .i64 (gapV zs), .bool (isIn zs)]) ∧ Below w.heap.size w w' := by
  have hC := specSumReach_any b off c zs w hn hr
  cases hin : isIn zs with
  | false =>
    have hg : gapV zs = 0 := by unfold gapV; rw [reachOf_out hin]; rfl
    rw [hg]
    rw [hin, reachOf_out hin] at hC
    have HC := Lib.hid hC
    clear hC hin hg
    go_enter Try.func27, Try.ntmps27
    go_wp2_with (go_at_call 45; refine HC.out.mono ?_; rintro e w1 ⟨g, c', rfl, hO, hB⟩)
    go_loop [7, 6] (fun i o => i = .int .i64 1 ∧ o = .int .i64 0) (fun _ _ => 0)
    case atStart => exact ⟨rfl, rfl⟩
    case round =>
      obtain ⟨rfl, rfl⟩ := hrel
      go_wp2
      go_ret2
      exact ⟨rfl, hB⟩
  | true =>
    unfold gapV
    rw [hin] at hC
    have hbd := reachOf_bd zs
    have hln := reachOf_len zs
    obtain ⟨R, hRd⟩ : ∃ R, reachOf zs = R := ⟨_, rfl⟩
    rw [hRd] at hC hbd hln ⊢
    have HC := Lib.hid hC
    have HBD := Lib.hid hbd
    clear hC hin hbd hRd
    go_enter Try.func27, Try.ntmps27
    go_wp2_with (go_at_call 45; refine HC.out.mono ?_; rintro e w1 ⟨g, c', rfl, hO, hB⟩)
    have HO := Lib.hid hO.row
    clear hO
    go_loopw [7, 6] (fun i o wr => ∃ k n : Nat, 1 ≤ k ∧ (k ≤ R.length ∨ k = 1) ∧ i = .int .i64 k ∧ o = .int .i64 (gapTo R k) ∧ wr = w1.drewN n) (fun i _ _ => R.length - (intOf i).toNat)
    case atStart => exact ⟨1, 0, Nat.le_refl _, .inr rfl, rfl, rfl, rfl⟩
    case round =>
      obtain ⟨k, n, hk1, hk, rfl, rfl, rfl⟩ := hrel
      by_cases hlt : k < R.length
      · have hc1 := HO.out.2 k hlt
        rw [Nat.zero_add] at hc1
        have hc2 := HO.out.2 (k - 1) (by omega)
        rw [Nat.zero_add] at hc2
        have hb1 := HBD.out k
        have hb2 := HBD.out (k - 1)
        have hb3 := gapTo_bd R k HBD.out
        have hst := gapTo_succ R k hk1
        obtain ⟨x, hx⟩ : ∃ x, R[k]?.getD 0 = x := ⟨_, rfl⟩
        obtain ⟨y, hy⟩ : ∃ y, R[k - 1]?.getD 0 = y := ⟨_, rfl⟩
        obtain ⟨m, hm⟩ : ∃ m, gapTo R k = m := ⟨_, rfl⟩
        rw [hx] at hc1 hb1 hst
        rw [hy] at hc2 hb2 hst
        rw [hm] at hb3 hst ⊢
        have hif := max_if m (x - y)
        obtain ⟨z, hz⟩ : ∃ z, max m (x - y) = z := ⟨_, rfl⟩
        rw [hz] at hif hst
        have HS := Lib.hid hst
        clear hx hy hm hst hz
        go_wp2
        go_quiet (fail)
        go_wp2
        go_roundw
        case rel => exact ⟨k + 1, _, by omega, by omega, by go_num, by rw [HS.out], rfl⟩
        case measure => simp [intOf]; omega
      · go_wp2
        go_ret2
        have : gapTo R k = gapTo R R.length := by
          rcases hk with h | h
          · rw [show k = R.length by omega]
          · subst h
            have : R.length = 0 ∨ R.length = 1 := by omega
            rcases this with e | e <;> rw [e] <;> rfl
        exact ⟨by rw [this]; rfl, below_drewN hB _⟩


end Go.Proofs.Ytbechpbfefdmgaa
