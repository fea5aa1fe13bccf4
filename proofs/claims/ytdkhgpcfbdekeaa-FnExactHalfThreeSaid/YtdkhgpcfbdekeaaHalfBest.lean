/- HalfBest of the program (a closure that calls itself) and of the reference: contracts. -/
import Derived.Test.YtdkhgpcfbdekeaaSigns
import Derived.Test.YtdkhgpcfbdekeaaLeaf
import Derived.StillTailTactics
import Derived.RangeFuncNested
import Derived.Laws.EntriesVeiled
namespace Go.Proofs.Ytdkhgpcfbdekeaa
open Go.RowKit

set_option maxHeartbeats 1000000
theorem sizeOf_any (d : Int) (w : World) (h1 : -1152921504606846976 ≤ d) (h2 : d ≤ 1152921504606846976) :
    Calls Try.prog 45 #[.int .i64 d] w fun e w' => e = .returned (.int .i64 (max d (-d))) ∧ w' = w := by
  have hif := max_if d (-d)
  obtain ⟨z, hz⟩ : ∃ z, max d (-d) = z := ⟨_, rfl⟩
  rw [hz] at hif ⊢
  clear hz
  go_enter Try.func45, Try.ntmps45
  go_wp2
  go_ret
  exact ⟨rfl, rfl⟩

theorem part_any (Ba Bb Bp b off c : Nat) (zs : List Int) (hin : isIn zs = true) (h1 : Ba ≠ Bb) (h2 : Bp ≠ Bb) (h3 : b ≠ Bb) (m : Nat) : ∀ (p : Nat) (pi d best : Int) (w : World), pi = (p : Int) → p + m = zs.length → -60 * (p : Int) ≤ d → d ≤ 60 * (p : Int) → 0 ≤ best → best ≤ 600 →
    Boxed w Ba 22 (.slice (some ⟨b, off, none⟩) zs.length c) → Boxed w Bb 3 (.int .i64 best) → Boxed w Bp 45 (.func (.func 44) #[] #[.pointer (some ⟨Ba, 0, none⟩), .pointer (some ⟨Bb, 0, none⟩), .pointer (some ⟨Bp, 0, none⟩)]) → Row w b off zs →
    Calls Try.prog 44 #[.int .i64 pi, .int .i64 d, .pointer (some ⟨Ba, 0, none⟩), .pointer (some ⟨Bb, 0, none⟩), .pointer (some ⟨Bp, 0, none⟩)] w fun e w' =>
      e = .returned (.tuple #[]) ∧ Boxed w' Bb 3 (.int .i64 (min best (bestS (zs.drop p) d))) ∧ w.grownBy w' (some Bb) := by
  have hlen := isIn_len hin
  have HIN := Lib.hid hin
  clear hin
  induction m with
  | zero =>
    rintro p pi d best w rfl hp hd1 hd2 hb1 hb2 hA hB hP hr
    have hpe : p = zs.length := by omega
    have hq : ((p : Int) == (zs.length : Int)) = true := by simp; omega
    have hfin : bestS (zs.drop p) d = max d (-d) := by rw [hpe]; exact bestS_end zs d
    have HF := Lib.hid hfin
    have hcA := hA.cell
    have hcB := hB.cell
    have hfB := hB.frozen
    have hif := min_if best (max d (-d))
    have hsz := fun W : World => sizeOf_any d W (by omega) (by omega)
    obtain ⟨z, hz⟩ : ∃ z, max d (-d) = z := ⟨_, rfl⟩
    have HZ := Lib.hid hz
    rw [hz] at hif
    simp only [hz] at hsz
    have HSZ := Lib.hid hsz
    clear hsz
    obtain ⟨y, hy⟩ : ∃ y, min best z = y := ⟨_, rfl⟩
    rw [hy] at hif
    have HY := Lib.hid hy
    clear hpe hfin hz hy
    go_enter Try.func44, Try.ntmps44
    go_wp2
    refine wp_region_still_tail 4 (by kernel_rfl) (by kernel_rfl) ?_
    simp only [List.take_succ_cons, List.take_zero, List.drop_succ_cons, List.drop_zero]
    still_step
    still_step
    still_call (HSZ.out _)
    still_step
    refine wpStill_nil ?_
    change wpList _ _ _ _ _ w.drew
    go_wp2
    refine bodyPost_ret (results_none rfl _ _ _) rfl ?_
    refine ⟨rfl, ?_, ?_⟩
    · rw [HF.out, HZ.out, HY.out]
      exact hB.set (W := w) _
    · exact ⟨rfl, rfl, rfl, by simp [World.setCell], fun i _ hne => Below.heap_setCell w _ _ i (fun e => hne (by rw [e]))⟩
  | succ m ih =>
    rintro p pi d best w rfl hp hd1 hd2 hb1 hb2 hA hB hP hr
    have hlt : p < zs.length := by omega
    have hq : ((p : Int) == (zs.length : Int)) = false := by simp; omega
    have hcell := hr.2 p hlt
    have hx0 := getD_bd HIN.out p
    have hstep := bestS_drop zs p hlt d
    have hn1 := bestS_nonneg (zs.drop (p + 1)) (d + zs[p]?.getD 0)
    obtain ⟨x, hx⟩ : ∃ x, zs[p]?.getD 0 = x := ⟨_, rfl⟩
    rw [hx] at hcell hx0 hstep hn1
    obtain ⟨y1, hy1⟩ : ∃ y, bestS (zs.drop (p + 1)) (d + x) = y := ⟨_, rfl⟩
    obtain ⟨y2, hy2⟩ : ∃ y, bestS (zs.drop (p + 1)) (d - x) = y := ⟨_, rfl⟩
    rw [hy1, hy2] at hstep
    rw [hy1] at hn1
    have HX := Lib.hid hx
    have HY1 := Lib.hid hy1
    have HY2 := Lib.hid hy2
    have HS := Lib.hid hstep
    have HIH := Lib.hid ih
    have hw1 : IntKind.i64.wrap ((p : Int) + 1) = (p : Int) + 1 := IntWalk.i64_in _ (by omega)
    have hw2 : IntKind.i64.wrap (d + x) = d + x := IntWalk.i64_in _ (by omega)
    have hw3 : IntKind.i64.wrap (d - x) = d - x := IntWalk.i64_in _ (by omega)
    have hcA := hA.cell
    have hcP := hP.cell
    clear hx hy1 hy2 hstep ih
    go_enter Try.func44, Try.ntmps44
    go_wp2
    refine wp_region_still_tail 9 (by kernel_rfl) (by kernel_rfl) ?_
    simp only [List.take_succ_cons, List.take_zero, List.drop_succ_cons, List.drop_zero]
    repeat still_step
    try refine wpStill_nil ?_
    change wpList _ _ _ _ _ w.drew
    go_wp2_with fail
    refine (HIH.out (p + 1) ((p : Int) + 1) (d + x) best w.drew (by omega) (by omega) (by omega) (by omega) hb1 hb2 hA hB hP hr).mono ?_
    rintro e w1 ⟨rfl, hB1, hg1⟩
    rw [HY1.out] at hB1
    have hg1' : w.grownBy w1 (some Bb) := ⟨hg1.os, hg1.tape, hg1.output, hg1.size, hg1.block⟩
    have hA1 := hA.kept hg1' (by simpa using h1)
    have hP1 := hP.kept hg1' (by simpa using h2)
    have hr1 := hr.grown hg1' h3
    have hcA1 := hA1.cell
    have hcP1 := hP1.cell
    have hcell1 := hr1.2 p hlt
    rw [HX.out] at hcell1
    clear hcA hcP hcell hg1
    go_wp2
    refine wp_region_still_tail 9 (by kernel_rfl) (by kernel_rfl) ?_
    simp only [List.take_succ_cons, List.take_zero, List.drop_succ_cons, List.drop_zero]
    repeat still_step
    try refine wpStill_nil ?_
    change wpList _ _ _ _ _ w1.drew
    go_wp2_with fail
    refine (HIH.out (p + 1) ((p : Int) + 1) (d - x) (min best y1) w1.drew (by omega) (by omega) (by omega) (by omega) (by omega) (by omega) hA1 hB1 hP1 hr1).mono ?_
    rintro e w2 ⟨rfl, hB2, hg2⟩
    rw [HY2.out] at hB2
    have hg2' : w1.grownBy w2 (some Bb) := ⟨hg2.os, hg2.tape, hg2.output, hg2.size, hg2.block⟩
    clear hcA1 hcP1 hcell1 hg2
    go_wp2
    go_end0
    refine ⟨rfl, ?_, grown_trans hg1' hg2'⟩
    rw [HS.out]
    rwa [show min best (min y1 y2) = min (min best y1) y2 by omega]

def halfBestV (zs : List Int) : Int := if isIn zs then restV zs (halfArg zs) else 0
theorem halfBestV_out {zs : List Int} (h : isIn zs = false) : halfBestV zs = 0 := by unfold halfBestV; rw [h]; rfl
theorem halfBestV_in {zs : List Int} (h : isIn zs = true) : halfBestV zs = restV zs (halfArg zs) := by unfold halfBestV; rw [h]; rfl

theorem implHalfBest_any (b off c : Nat) (zs : List Int) (w : World) (hn : zs.length ≤ 1152921504606846976) (hr : Row w b off zs) :
    Calls Try.prog 19 #[.slice (some ⟨b, off, none⟩) zs.length c] w fun e w' => e = .returned (.tuple #[.int .i64 (halfBestV zs), .bool (isIn zs)]) ∧ Below w.heap.size w w' := by
  cases hin : isIn zs with
  | false =>
    rw [halfBestV_out hin]
    go_enter Try.func19, Try.ntmps19
    go_wp2_with (go_at_call 40; refine (implSumIn_any _ _ _ _ _ hn (hr.alloc _)).mono ?_; rintro e w' ⟨rfl, rfl⟩)
    go_ret2
    exact ⟨rfl, by go_grown⟩
  | true =>
    rw [halfBestV_in hin, ← best_le_tot hin]
    have htb := tot_bd hin zs.length
    have hlen := isIn_len hin
    obtain ⟨T, hT⟩ : ∃ T, tot zs zs.length = T := ⟨_, rfl⟩
    rw [hT] at htb ⊢
    have HIN := Lib.hid hin
    have HT := Lib.hid hT
    clear hT
    have hb := hr.1
    go_enter Try.func19, Try.ntmps19
    go_wp2_with (first | (go_at_call 40; refine (implSumIn_any _ _ _ _ _ hn (hr.alloc _)).mono ?_; rintro e w' ⟨rfl, rfl⟩) | (go_at_call 41; refine (totalOf_any _ _ _ _ _ HIN.out (hr.alloc _)).mono ?_; rw [HT.out]; rintro e w' ⟨rfl, rfl⟩) )
    have bA := ((Boxed.new w 22 (.slice (some ⟨b, off, none⟩) zs.length c)).alloc (.cells #[.int .i64 T] 3)).alloc (.cells #[.func (.func 44) #[] #[.pointer (some ⟨w.heap.size, 0, none⟩), .pointer (some ⟨w.heap.size + 1, 0, none⟩), .pointer (some ⟨w.heap.size + 1 + 1, 0, none⟩)]] 45)
    have bB := (Boxed.new (w.alloc (.cells #[.slice (some ⟨b, off, none⟩) zs.length c] 22)) 3 (.int .i64 T)).alloc (.cells #[.func (.func 44) #[] #[.pointer (some ⟨w.heap.size, 0, none⟩), .pointer (some ⟨w.heap.size + 1, 0, none⟩), .pointer (some ⟨w.heap.size + 1 + 1, 0, none⟩)]] 45)
    have bP := Boxed.new ((w.alloc (.cells #[.slice (some ⟨b, off, none⟩) zs.length c] 22)).alloc (.cells #[.int .i64 T] 3)) 45 (.func (.func 44) #[] #[.pointer (some ⟨w.heap.size, 0, none⟩), .pointer (some ⟨w.heap.size + 1, 0, none⟩), .pointer (some ⟨w.heap.size + 1 + 1, 0, none⟩)])
    have hr3 := ((hr.alloc (.cells #[.slice (some ⟨b, off, none⟩) zs.length c] 22)).alloc (.cells #[.int .i64 T] 3)).alloc (.cells #[.func (.func 44) #[] #[.pointer (some ⟨w.heap.size, 0, none⟩), .pointer (some ⟨w.heap.size + 1, 0, none⟩), .pointer (some ⟨w.heap.size + 1 + 1, 0, none⟩)]] 45)
    have hB0 : Below w.heap.size w (((w.alloc (.cells #[.slice (some ⟨b, off, none⟩) zs.length c] 22)).alloc (.cells #[.int .i64 T] 3)).alloc (.cells #[.func (.func 44) #[] #[.pointer (some ⟨w.heap.size, 0, none⟩), .pointer (some ⟨w.heap.size + 1, 0, none⟩), .pointer (some ⟨w.heap.size + 1 + 1, 0, none⟩)]] 45)) := by go_grown
    simp only [World.size_alloc] at bB bP
    refine (part_any w.heap.size (w.heap.size + 1) (w.heap.size + 1 + 1) b off c zs HIN.out (by omega) (by omega) (by omega) zs.length 0 0 0 T _ rfl (by omega) (by omega) (by omega) htb.1 (by omega) bA bB bP hr3).mono ?_
    rintro e w2 ⟨rfl, hB2, hg2⟩
    have hBf := below_wrote hB0 hg2 (by simp; omega) (by omega)
    have hc2 := hB2.cell
    clear bA bB bP hr3 hB0 hg2
    go_wp2
    go_ret2
    exact ⟨rfl, hBf⟩

theorem l2Rest_any (k b off c : Nat) (zs : List Int) (w : World) (hk : k < 4294967296) (hin : isIn zs = true) (hr : Row w b off zs) :
    Calls Try.prog 58 #[.slice (some ⟨b, off, none⟩) zs.length c, .int .i64 k] w fun e w' => e = .returned (.int .i64 (restV zs k)) ∧ ∃ n, w' = w.drewN n := by
  have hlen := isIn_len hin
  obtain ⟨N, hN, hN1, hN2, hN3⟩ := pow_walk zs.length (by omega)
  have hall := cs_all zs zs.length
  rw [hN] at hall
  have htb := tot_bd hin zs.length
  have hcb := cs_bd hin k zs.length
  obtain ⟨T, hT⟩ : ∃ T, tot zs zs.length = T := ⟨_, rfl⟩
  obtain ⟨S, hS⟩ : ∃ S, cs zs k zs.length = S := ⟨_, rfl⟩
  have hv : restV zs k = max (T - 2 * S) (-(T - 2 * S)) := by unfold restV; rw [hT, hS]
  rw [hT] at hall htb hcb
  rw [hS] at hcb
  have h1 : ∀ W : World, Row W b off zs → Calls Try.prog 47 #[.slice (some ⟨b, off, none⟩) zs.length c, .int .i64 ((N : Int) - 1)] W fun e w' => e = .returned (.int .i64 T) ∧ ∃ n, w' = W.drewN n := fun W hW => by
    have := l1Sum_any (N - 1) b off c zs W (by omega) hin hW
    rw [hall, show (((N - 1 : Nat)) : Int) = (N : Int) - 1 by omega] at this
    exact this
  have h2 : ∀ W : World, Row W b off zs → Calls Try.prog 47 #[.slice (some ⟨b, off, none⟩) zs.length c, .int .i64 (k : Int)] W fun e w' => e = .returned (.int .i64 S) ∧ ∃ n, w' = W.drewN n := fun W hW => by
    have := l1Sum_any k b off c zs W hk hin hW
    rw [hS] at this
    exact this
  have hneg : (0 : Int) - (T - 2 * S) = -(T - 2 * S) := by omega
  have hif := max_if (T - 2 * S) (-(T - 2 * S))
  rw [hv]
  obtain ⟨z, hz⟩ : ∃ z, max (T - 2 * S) (-(T - 2 * S)) = z := ⟨_, rfl⟩
  rw [hz] at hif ⊢
  have H1 := Lib.hid h1
  have H2 := Lib.hid h2
  have HN := Lib.hid hN
  have HZ := Lib.hid hz
  clear h1 h2 hN hN3 hin hall hT hS hv hz hif hneg
  go_enter Try.func58, Try.ntmps58
  go_wp2_with fail
  refine (l1All_N _ _ _ N _ (by omega) HN.out).mono ?_
  rintro e w' ⟨rfl, rfl⟩
  go_wp2_with fail
  refine (H1.out _ hr).mono ?_
  rintro e w' ⟨rfl, n1, rfl⟩
  go_wp2_with fail
  refine (H2.out _ (hr.drewN _)).mono ?_
  rintro e w' ⟨rfl, n2, rfl⟩
  go_wp2_with fail
  all_goals
    go_ret
    exact ⟨ret_int (by have := HZ.out; omega), _, rfl⟩

theorem l2Best_any (b off c : Nat) (zs : List Int) (w : World) (hin : isIn zs = true) (hr : Row w b off zs) :
    Calls Try.prog 43 #[.slice (some ⟨b, off, none⟩) zs.length c] w fun e w' => e = .returned (.tuple #[.int .i64 (halfArg zs : Int), .int .i64 (restV zs (halfArg zs))]) ∧ ∃ n, w' = w.drewN n := by
  have hlen := isIn_len hin
  obtain ⟨N, hN, hN1, hN2, hN3⟩ := pow_walk zs.length (by omega)
  have hv : halfArg zs = argTo (restV zs) N := by unfold halfArg; rw [hN]
  rw [hv]
  have HIN := Lib.hid hin
  have HN := Lib.hid hN
  clear hN hN3 hin hv
  go_enter Try.func43, Try.ntmps43
  go_wp2
  go_loopw [5, 4] (fun i o wr => ∃ k n : Nat, 1 ≤ k ∧ k ≤ N ∧ i = .int .i64 k ∧ o = .int .i64 ((argTo (restV zs) k : Nat) : Int) ∧ wr = w.drewN n) (fun i _ _ => N - (intOf i).toNat)
  case atStart => exact ⟨1, 0, Nat.le_refl _, hN1, rfl, by simp [argTo], rfl⟩
  case round =>
    obtain ⟨k, n, hk1, hk, rfl, rfl, rfl⟩ := hrel
    have hst : argTo (restV zs) (k + 1) = if restV zs k < restV zs (argTo (restV zs) k) then k else argTo (restV zs) k := rfl
    have hal := argTo_le (restV zs) k
    obtain ⟨a, ha⟩ : ∃ a, argTo (restV zs) k = a := ⟨_, rfl⟩
    rw [ha] at hst hal ⊢
    have HS := Lib.hid hst
    have HA := Lib.hid ha
    clear hst ha
    by_cases hlt : k < N
    · by_cases hq : restV zs k < restV zs a
      · have HQ := Lib.hid hq
        go_wp2_with (first | (go_at_call 46; refine (l1All_N _ _ _ N _ (by omega) HN.out).mono ?_; rintro e w' ⟨rfl, rfl⟩) | (go_at_call 58; refine (l2Rest_any _ _ _ _ zs _ (by omega) HIN.out (hr.drewN _)).mono ?_; rintro e w' ⟨rfl, n2, rfl⟩))
        go_roundw
        case rel => exact ⟨k + 1, _, by omega, by omega, by go_num, by rw [HS.out, if_pos HQ.out], rfl⟩
        case measure => simp [intOf]; omega
      · have HQ := Lib.hid hq
        go_wp2_with (first | (go_at_call 46; refine (l1All_N _ _ _ N _ (by omega) HN.out).mono ?_; rintro e w' ⟨rfl, rfl⟩) | (go_at_call 58; refine (l2Rest_any _ _ _ _ zs _ (by omega) HIN.out (hr.drewN _)).mono ?_; rintro e w' ⟨rfl, n2, rfl⟩))
        go_roundw
        case rel => exact ⟨k + 1, _, by omega, by omega, by go_num, by rw [HS.out, if_neg (by have := HQ.out; omega)], rfl⟩
        case measure => simp [intOf]; omega
    · obtain rfl : k = N := by omega
      go_wp2_with (first | (go_at_call 46; refine (l1All_N _ _ _ k _ (by omega) HN.out).mono ?_; rintro e w' ⟨rfl, rfl⟩) | (go_at_call 58; refine (l2Rest_any _ _ _ _ zs _ (by omega) HIN.out (hr.drewN _)).mono ?_; rintro e w' ⟨rfl, n2, rfl⟩))
      go_ret2
      exact ⟨by rw [HA.out]; rfl, _, rfl⟩

theorem specHalfBest_any (b off c : Nat) (zs : List Int) (w : World) (hn : zs.length ≤ 1152921504606846976) (hr : Row w b off zs) :
    Calls Try.prog 18 #[.slice (some ⟨b, off, none⟩) zs.length c] w fun e w' => e = .returned (.tuple #[.int .i64 (halfBestV zs), .bool (isIn zs)]) ∧ Below w.heap.size w w' := by
  cases hin : isIn zs with
  | false =>
    rw [halfBestV_out hin]
    go_enter Try.func18, Try.ntmps18
    go_wp2_with (go_at_call 38; refine (specSumIn_any _ _ _ _ _ hn hr).mono ?_; rintro e w' ⟨rfl, rfl⟩)
    go_ret2
    exact ⟨rfl, Below.refl _ _⟩
  | true =>
    rw [halfBestV_in hin]
    go_enter Try.func18, Try.ntmps18
    go_wp2_with (first | (go_at_call 38; refine (specSumIn_any _ _ _ _ _ hn hr).mono ?_; rintro e w' ⟨rfl, rfl⟩) | (go_at_call 43; refine (l2Best_any _ _ _ _ _ hin hr).mono ?_; rintro e w' ⟨rfl, n, rfl⟩))
    go_ret2
    exact ⟨rfl, below_drewN (Below.refl _ _) _⟩

def halfChoiceV (zs : List Int) : Int := if isIn zs then (halfArg zs : Int) else 0
theorem halfChoiceV_out {zs : List Int} (h : isIn zs = false) : halfChoiceV zs = 0 := by unfold halfChoiceV; rw [h]; rfl
theorem halfChoiceV_in {zs : List Int} (h : isIn zs = true) : halfChoiceV zs = (halfArg zs : Int) := by unfold halfChoiceV; rw [h]; rfl

theorem specHalfChoice_any (b off c : Nat) (zs : List Int) (w : World) (hn : zs.length ≤ 1152921504606846976) (hr : Row w b off zs) :
    Calls Try.prog 22 #[.slice (some ⟨b, off, none⟩) zs.length c] w fun e w' => e = .returned (.tuple #[.int .i64 (halfChoiceV zs), .bool (isIn zs)]) ∧ Below w.heap.size w w' := by
  cases hin : isIn zs with
  | false =>
    rw [halfChoiceV_out hin]
    go_enter Try.func22, Try.ntmps22
    go_wp2_with (go_at_call 38; refine (specSumIn_any _ _ _ _ _ hn hr).mono ?_; rintro e w' ⟨rfl, rfl⟩)
    go_ret2
    exact ⟨rfl, Below.refl _ _⟩
  | true =>
    rw [halfChoiceV_in hin]
    go_enter Try.func22, Try.ntmps22
    go_wp2_with (first | (go_at_call 38; refine (specSumIn_any _ _ _ _ _ hn hr).mono ?_; rintro e w' ⟨rfl, rfl⟩) | (go_at_call 43; refine (l2Best_any _ _ _ _ _ hin hr).mono ?_; rintro e w' ⟨rfl, n, rfl⟩))
    go_ret2
    exact ⟨rfl, below_drewN (Below.refl _ _) _⟩

end Go.Proofs.Ytdkhgpcfbdekeaa
