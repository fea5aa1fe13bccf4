/- Plain facts on gaps: no gap is greater than the greatest number; and the laws' own greatest. -/
import Derived.Test.YtbechpbfefdmgaaReach
import Derived.Test.YtbechpbfefdmgaaSumLaws
namespace Go.Proofs.Ytbechpbfefdmgaa
open Go.RowKit

theorem reach_up (C : List Int) (k : Nat) : (reachTo C k).Pairwise (fun a b => a < b) := by
  unfold reachTo
  rw [List.pairwise_map]
  exact (List.pairwise_lt_range.filter _).imp (fun h => by omega)
theorem reach_mem (C : List Int) (k : Nat) (x : Int) : x ∈ reachTo C k ↔ ∃ v : Nat, v < k ∧ 0 < C[v]?.getD 0 ∧ x = (v : Int) := by
  unfold reachTo
  simp only [List.mem_map, List.mem_filter, List.mem_range, decide_eq_true_eq]
  constructor
  · rintro ⟨v, ⟨h1, h2⟩, rfl⟩; exact ⟨v, h1, h2, rfl⟩
  · rintro ⟨v, h1, h2, rfl⟩; exact ⟨v, ⟨h1, h2⟩, rfl⟩

theorem counts_pos {L : List Int} (h : isIn L = true) (v : Nat) : v < (counts L).length ∧ 0 < (counts L)[v]?.getD 0 ↔ 0 < cnt L L.length (v : Int) := by
  have ht := tot_bd h L.length
  constructor
  · rintro ⟨h1, h2⟩
    unfold counts at h1 h2
    rw [countsTo_length] at h1
    rw [countsTo_getD L L.length v h1] at h2
    omega
  · intro hc
    have hv : v < (tot L L.length).toNat + 1 := by
      rcases Nat.lt_or_ge v ((tot L L.length).toNat + 1) with h1 | h1
      · exact h1
      · have := cnt_out h L.length (v : Int) (.inr (by omega)); omega
    unfold counts
    rw [countsTo_length, countsTo_getD L L.length v hv]
    exact ⟨hv, by omega⟩

theorem up_lt {R : List Int} (h : R.Pairwise (fun a b => a < b)) {i j : Nat} (hij : i < j) (hj : j < R.length) : R[i]?.getD 0 < R[j]?.getD 0 := by
  rw [List.getElem?_eq_getElem (by omega), List.getElem?_eq_getElem hj]
  exact List.pairwise_iff_getElem.1 h i j (by omega) hj hij

theorem reachOf_mem {L : List Int} (h : isIn L = true) (x : Int) : x ∈ reachOf L ↔ ∃ v : Nat, v < (counts L).length ∧ 0 < (counts L)[v]?.getD 0 ∧ x = (v : Int) := by
  rw [reachOf_in h]; exact reach_mem _ _ _

/-- No gap is greater than the greatest number. -/
theorem gap_step {L : List Int} (h : isIn L = true) (r : Nat) (hr : r + 1 < (reachOf L).length) : (reachOf L)[r + 1]?.getD 0 - (reachOf L)[r]?.getD 0 ≤ grt L L.length := by
  have hR := reachOf_in h
  have hup : (reachOf L).Pairwise (fun a b => a < b) := by rw [hR]; exact reach_up _ _
  have hm : (reachOf L)[r + 1]'hr ∈ reachOf L := List.getElem_mem hr
  have hlt : (reachOf L)[r]?.getD 0 < (reachOf L)[r + 1]?.getD 0 := up_lt hup (Nat.lt_succ_self r) hr
  have h0 := (reachOf_bd L r).1
  have e1 : (reachOf L)[r + 1]?.getD 0 = (reachOf L)[r + 1]'hr := by rw [List.getElem?_eq_getElem hr]; rfl
  obtain ⟨v, hv1, hv2, hv3⟩ := (reachOf_mem h _).1 hm
  have hev : (reachOf L)[r + 1]?.getD 0 = (v : Int) := by rw [e1]; exact hv3
  have hc := (counts_pos h v).1 ⟨hv1, hv2⟩
  obtain ⟨j, hj, hcj⟩ := cnt_less L.length (v : Int) (by omega) hc
  have hg := grt_ge L L.length j hj
  have hLj := isIn_get h j hj
  have hv' : 0 ≤ (v : Int) - L[j]?.getD 0 := by
    rcases Int.lt_or_le ((v : Int) - L[j]?.getD 0) 0 with h1 | h1
    · have := cnt_out h L.length _ (.inl h1); omega
    · exact h1
  obtain ⟨u, hu⟩ := Int.eq_ofNat_of_zero_le hv'
  rw [hu] at hcj
  obtain ⟨hu1, hu2⟩ := (counts_pos h u).2 hcj
  have hmu : (u : Int) ∈ reachOf L := by rw [hR, reach_mem]; exact ⟨u, hu1, hu2, rfl⟩
  obtain ⟨i, hi, hie⟩ := List.getElem_of_mem hmu
  have hie2 : (reachOf L)[i]?.getD 0 = (u : Int) := by rw [List.getElem?_eq_getElem hi]; exact hie
  have hir : i < r + 1 := by
    rcases Nat.lt_or_ge i (r + 1) with h1 | h1
    · exact h1
    · rcases Nat.lt_or_eq_of_le h1 with h2 | h2
      · have := up_lt hup h2 hi; omega
      · rw [← h2] at hie2; omega
  rcases Nat.lt_or_eq_of_le (Nat.le_of_lt_succ hir) with h2 | h2
  · have := up_lt hup h2 (by omega); omega
  · rw [h2] at hie2; omega

theorem gapTo_le {R : List Int} {G : Int} (hG : 0 ≤ G) (k : Nat) (hk : k ≤ R.length) (h : ∀ r, r + 1 < R.length → R[r + 1]?.getD 0 - R[r]?.getD 0 ≤ G) : gapTo R k ≤ G := by
  induction k with
  | zero => simp [gapTo]; exact hG
  | succ k ih =>
    rcases Nat.eq_zero_or_pos k with rfl | hp
    · rw [gapTo_one]; exact hG
    · rw [gapTo_succ R k hp]
      have h1 := ih (by omega)
      have h2 := h (k - 1) (by omega)
      rw [show k - 1 + 1 = k by omega] at h2
      omega
theorem gapTo_ge {R : List Int} (k : Nat) (hk : 2 ≤ k) : R[1]?.getD 0 - R[0]?.getD 0 ≤ gapTo R k := by
  induction k with
  | zero => omega
  | succ k ih =>
    rw [gapTo_succ R k (by omega)]
    rcases Nat.lt_or_eq_of_le hk with h | h
    · have := ih (by omega); omega
    · obtain rfl : k = 1 := by omega
      show _ ≤ max _ (R[1]?.getD 0 - R[0]?.getD 0)
      omega

theorem gap_greatest {L : List Int} (h : isIn L = true) : gapV L ≤ grt L L.length := gapTo_le (grt_pos L _) _ (Nat.le_refl _) (gap_step h)
theorem gap_some {L : List Int} (h : isIn L = true) (hn : 0 < L.length) : 1 ≤ gapV L := by
  have hR := reachOf_in h
  have hup : (reachOf L).Pairwise (fun a b => a < b) := by rw [hR]; exact reach_up _ _
  have hmem : ∀ c, c < 2 ^ L.length → cs L c L.length ∈ reachOf L := by
    intro c hc
    have hb := cs_bd h c L.length
    obtain ⟨u, hu⟩ := Int.eq_ofNat_of_zero_le hb.1
    have := (counts_pos h u).2 (by rw [cnt_pos]; exact ⟨c, hc, hu⟩)
    rw [hR, reach_mem]
    exact ⟨u, this.1, this.2, hu⟩
  have hp := Nat.pow_pos (n := L.length) (show 0 < 2 by omega)
  have m0 := hmem 0 hp
  have m1 := hmem (2 ^ L.length - 1) (by omega)
  rw [cs_zero] at m0
  rw [cs_all] at m1
  have htp : 0 < tot L L.length := by
    have : ∀ k, 0 < k → k ≤ L.length → 0 < tot L k := by
      intro k hk hkl
      obtain ⟨k', rfl⟩ : ∃ k', k = k' + 1 := ⟨k - 1, by omega⟩
      have h1 := isIn_get h k' (by omega)
      have h2 := tot_bd h k'
      simp only [tot]; omega
    exact this _ hn (Nat.le_refl _)
  obtain ⟨i, hi, hie⟩ := List.getElem_of_mem m0
  obtain ⟨j, hj, hje⟩ := List.getElem_of_mem m1
  have hl : 2 ≤ (reachOf L).length := by
    rcases Nat.lt_or_ge (reachOf L).length 2 with h2 | h2
    · have e1 : i = 0 := by omega
      have e2 : j = 0 := by omega
      subst e1; subst e2
      rw [hie] at hje; omega
    · exact h2
  have h1 : (reachOf L)[0]?.getD 0 < (reachOf L)[1]?.getD 0 := up_lt hup (Nat.lt_succ_self 0) hl
  have h2 := gapTo_ge (R := reachOf L) (reachOf L).length hl
  unfold gapV
  omega

set_option maxHeartbeats 400000
theorem greatest_any (b off c : Nat) (zs : List Int) (w : World) (hlen : zs.length ≤ 1000000) (hr : Row w b off zs) :
    Calls Try.prog 28 #[.slice (some ⟨b, off, none⟩) zs.length c] w fun e w' => e = .returned (.int .i64 (grt zs zs.length)) ∧ w = w' := by
  go_enter Try.func28, Try.ntmps28
  go_wp2
  go_loop [4, 3] (fun i s => ∃ j : Nat, j ≤ zs.length ∧ i = .int .i64 j ∧ s = .int .i64 (grt zs j)) (fun i _ => zs.length - (intOf i).toNat)
  case atStart => exact ⟨0, Nat.zero_le _, rfl, rfl⟩
  case round =>
    obtain ⟨j, hj, rfl, rfl⟩ := hrel
    by_cases hlt : j < zs.length
    · have hcell := hr.2 j hlt
      have hst : grt zs (j + 1) = max (grt zs j) (zs[j]?.getD 0) := rfl
      obtain ⟨x, hx⟩ : ∃ x, zs[j]?.getD 0 = x := ⟨_, rfl⟩
      obtain ⟨s, hs⟩ : ∃ s, grt zs j = s := ⟨_, rfl⟩
      rw [hx, hs] at hst
      rw [hx] at hcell
      rw [hs]
      have HS := Lib.hid hst
      clear hx hs hst hr
      by_cases hsx : s < x
      · go_wp2
        go_round
        case rel => exact ⟨j + 1, by omega, by go_num, by rw [HS.out]; congr 1; omega⟩
        case measure => simp [intOf]; omega
      · go_wp2
        go_round
        case rel => exact ⟨j + 1, by omega, by go_num, by rw [HS.out]; congr 1; omega⟩
        case measure => simp [intOf]; omega
    · obtain rfl : j = zs.length := by omega
      go_wp2
      go_ret
      exact ⟨rfl, rfl⟩

end Go.Proofs.Ytbechpbfefdmgaa
