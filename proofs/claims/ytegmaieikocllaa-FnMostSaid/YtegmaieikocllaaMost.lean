/- SackMost, the program's and the reference's. -/
import Derived.Test.YtegmaieikocllaaSackBest
import Derived.Test.YtegmaieikocllaaL1Sorted
import Derived.Test.YtegmaieikocllaaOnes
namespace Go.Proofs.Ytegmaieikocllaa
open Go.RowKit
set_option maxHeartbeats 1000000

theorem implSackMost_any (b off c n : Nat) (room : Int) (zs : List Int) (w : World) (hn : n ≤ 1152921504606846976) (hz : zs.length = 2 * n) (hr : Row w b off zs) :
    Calls Try.prog 36 #[.slice (some ⟨b, off, none⟩) n c, .int .i64 room] w fun e w' => e = .returned (.tuple #[.int .i64 (mostV zs n room), .bool (told zs n room)]) ∧ Below w.heap.size w w' := by
  unfold mostV
  cases ht : told zs n room
  · go_enter Try.func36, Try.ntmps36
    go_wp2_with (go_at_call 49; refine (sackTold_any _ _ _ _ _ zs _ hn hz hr).mono ?_; rw [ht]; rintro e w2 ⟨rfl, hB⟩)
    go_ret2
    exact ⟨rfl, hB⟩
  · obtain ⟨hin, h0, h6⟩ := told_yes ht
    have hlen := itemsIn_len hin
    unfold most
    obtain ⟨N, hN, hN1, hN2, hN3⟩ := pow_walk n (by omega)
    have hNN := Lib.hid hN
    rw [hN]
    have HIN := Lib.hid hin
    have HT := Lib.hid ht
    clear hin ht hN
    simp only [if_true]
    go_enter Try.func36, Try.ntmps36
    go_wp2_with (go_at_call 49; refine (sackTold_any _ _ _ _ _ zs _ hn hz hr).mono ?_; rw [HT.out]; rintro e w2 ⟨rfl, hB⟩)
    simp only [hN3]
    go_loopw [17, 6] (fun i v wr => ∃ k : Nat, k ≤ N ∧ i = .int .i64 k ∧ v = .int .i64 (mostTo zs n room k) ∧ Below w.heap.size w wr) (fun i _ _ => N - (intOf i).toNat)
    case atStart => exact ⟨0, Nat.zero_le _, rfl, rfl, hB⟩
    case round =>
      clear hB
      obtain ⟨k, hk, rfl, rfl, hB⟩ := hrel
      have hbv := mostTo_bd hz room k
      by_cases hlt : k < N
      · have hw := wt_bd HIN.out k n (Nat.le_refl _)
        have hs1 := mostTo_succ hz room k
        have hpl := pop_le k n
        have hk2 : k < 2 ^ n := by rw [hNN.out]; exact hlt
        obtain ⟨x, hx⟩ : ∃ x, cf (wt zs) k n = x := ⟨_, rfl⟩
        obtain ⟨y, hy⟩ : ∃ y, pop k n = y := ⟨_, rfl⟩
        obtain ⟨s, hs⟩ : ∃ s, mostTo zs n room k = s := ⟨_, rfl⟩
        rw [hx, hy, hs] at hs1
        rw [hx] at hw
        rw [hy] at hpl
        rw [hs] at hbv ⊢
        have HS1 := Lib.hid hs1
        have HX := Lib.hid hx
        have HY := Lib.hid hy
        have HK2 := Lib.hid hk2
        have hsz := hB.size
        have HB := Lib.hid hB
        clear hx hy hs hs1 hB hk2
        by_cases q1 : x ≤ room
        · go_wp2_with (first | (go_at_call 50; refine (load_any _ _ _ _ _ zs _ (by omega) HIN.out hz (hr.behind HB.out)).mono ?_; rw [HX.out]; rintro e w' ⟨rfl, hB2⟩) | (go_at_call 56; refine (places_any k n hlen HK2.out _).mono ?_; rw [HY.out]; rintro e w'' ⟨rfl, rfl⟩))
          go_roundw
          case rel => exact ⟨k + 1, by omega, by go_num, by rw [HS1.out, if_pos q1]; congr 1; rw [max_if]; try omega, HB.out.trans (hB2.mono hsz)⟩
          case measure => simp [intOf]; omega
        · go_wp2_with (go_at_call 50; refine (load_any _ _ _ _ _ zs _ (by omega) HIN.out hz (hr.behind HB.out)).mono ?_; rw [HX.out]; rintro e w' ⟨rfl, hB2⟩)
          go_roundw
          case rel => exact ⟨k + 1, by omega, by go_num, by rw [HS1.out, if_neg (by omega)], HB.out.trans (hB2.mono hsz)⟩
          case measure => simp [intOf]; omega
      · obtain rfl : k = N := by omega
        go_wp2
        go_ret2
        exact ⟨rfl, hB⟩

theorem lsf_in {S : List Int} {j : Nat} {R : Int} (hj : j < S.length) (h : S[j]?.getD 0 ≤ R) : lsf (S.drop j) R = 1 + lsf (S.drop (j + 1)) (R - S[j]?.getD 0) := by
  rw [List.drop_eq_getElem_cons hj]
  rw [List.getElem?_eq_getElem hj] at h ⊢
  simp only [Option.getD_some] at h ⊢
  simp only [lsf]
  rw [if_pos h]
theorem lsf_out {S : List Int} {j : Nat} {R : Int} (hj : j < S.length) (h : ¬ S[j]?.getD 0 ≤ R) : lsf (S.drop j) R = 0 := by
  rw [List.drop_eq_getElem_cons hj]
  rw [List.getElem?_eq_getElem hj] at h
  simp only [Option.getD_some] at h
  simp only [lsf]
  rw [if_neg h]
theorem lsf_end {S : List Int} {R : Int} : lsf (S.drop S.length) R = 0 := by rw [List.drop_length]; rfl

theorem specSackMost_any (b off c n : Nat) (room : Int) (zs : List Int) (w : World) (hn : n ≤ 1152921504606846976) (hz : zs.length = 2 * n) (hr : Row w b off zs) :
    Calls Try.prog 35 #[.slice (some ⟨b, off, none⟩) n c, .int .i64 room] w fun e w' => e = .returned (.tuple #[.int .i64 (mostV zs n room), .bool (told zs n room)]) ∧ Below w.heap.size w w' := by
  obtain ⟨i0, hi, hz0, hz1, hz2⟩ := info_parts info_int
  unfold mostV
  cases ht : told zs n room
  · go_enter Try.func35, Try.ntmps35
    go_wp2_with (go_at_call 47; refine (l3Given_any _ _ _ _ _ zs _ hn hz hr).mono ?_; rw [ht]; rintro e w2 ⟨rfl, rfl⟩)
    go_ret2
    exact ⟨rfl, Below.refl _ _⟩
  · obtain ⟨hin, h0, h6⟩ := told_yes ht
    have hlen := itemsIn_len hin
    have hml := most_lsf hz hin room h0
    have hSl : (sorted (weights zs n)).length = n := by rw [sorted_length, weights_length]
    have hSb : ∀ j : Nat, j < n → 1 ≤ (sorted (weights zs n))[j]?.getD 0 ∧ (sorted (weights zs n))[j]?.getD 0 ≤ 60 := by
      intro j hj
      have hall : ∀ x, x ∈ weights zs n → 1 ≤ x ∧ x ≤ 60 := by
        intro x hx
        unfold weights at hx
        simp only [List.mem_map, List.mem_range] at hx
        obtain ⟨i, hi, rfl⟩ := hx
        have := itemsIn_get hin i hi; omega
      rw [List.getElem?_eq_getElem (by omega)]
      exact hall _ ((sorted_perm _).mem_iff.1 (List.getElem_mem _))
    have hO0 := owns_empty w w.heap.size (Nat.le_refl _)
    have hB0 : Below w.heap.size w (w.alloc (.cells #[] 3)) := by go_grown
    have HIN := Lib.hid hin
    have HT := Lib.hid ht
    have HML := Lib.hid hml
    have HSL := Lib.hid hSl
    have HSB := Lib.hid hSb
    clear hin ht hml hSl hSb
    simp only [if_true]
    go_enter Try.func35, Try.ntmps35
    go_wp2_with (go_at_call 47; refine (l3Given_any _ _ _ _ _ zs _ hn hz hr).mono ?_; rw [HT.out]; rintro e w2 ⟨rfl, rfl⟩)
    go_loopw [7, 6] (fun i s wr => ∃ k g c1 : Nat, k ≤ n ∧ i = .int .i64 k ∧ s = .slice (some ⟨g, 0, none⟩) k c1 ∧ Owns wr w.heap.size g c1 (weights zs k) ∧ Below w.heap.size w wr) (fun i _ _ => n - (intOf i).toNat)
    case atStart => exact ⟨0, w.heap.size, 0, Nat.zero_le _, rfl, rfl, hO0, hB0⟩
    case round =>
      clear hO0 hB0
      obtain ⟨k, g, c1, hk, rfl, rfl, hO, hB⟩ := hrel
      have hwl := weights_length zs k
      by_cases hlt : k < n
      · have c1' := Row.wt (hr.behind hB) hz k hlt
        have hws := weights_succ zs k
        obtain ⟨x, hx⟩ : ∃ x, wt zs k = x := ⟨_, rfl⟩
        rw [hx] at c1' hws
        obtain ⟨L, hL⟩ : ∃ L, weights zs k = L := ⟨_, rfl⟩
        rw [hL] at hO hwl hws
        have HWS := Lib.hid hws
        have HO := Lib.hid hO
        have HB := Lib.hid hB
        have HWL := Lib.hid hwl
        have hsz := hB.size
        clear hx hL hws hO hB
        subst hwl
        go_wp2_with (at_builtin; refine wpList_append_own _ rfl _ _ 32 rfl w.heap.size 3 i0 (.int .i64 0) 1 8 Try.underlying32 hi hz0 hz1 hz2 rfl (by decide) _ _ _ rfl (HO.out.alloc _) ⟨wr.heap.size, 0, none⟩ 1 1 [.int .i64 x] rfl rfl (cell_one_new _ _ _) (by simp [Value.oneCell']) (by unfold maxLen; omega) (by omega) (by simp; omega) ?_; intro v' w5 hown' hgrow _; obtain ⟨g2, c2, rfl, hO5, hB5⟩ := owns_appended HO.out hown' hgrow HB.out (Nat.le_refl _) hsz)
        go_roundw
        case rel => exact ⟨L.length + 1, g2, c2, by omega, by go_num, rfl, by rw [HWS.out]; exact hO5, hB5⟩
        case measure => simp [intOf]; omega
      · obtain rfl : k = n := by omega
        have hso := l1Sorted_any g 0 c1 (weights zs k) wr (by omega) hO.row
        rw [hwl] at hso
        go_wp2_with fail
        refine hso.mono ?_
        clear hso
        rintro e w3 ⟨g3, c3, rfl, hO3, hB3⟩
        have hB4 := hB.trans (hB3.mono hB.size)
        have hrow := hO3.row
        obtain ⟨S, hS⟩ : ∃ S, sorted (weights zs k) = S := ⟨_, rfl⟩
        have hml := HML.out
        have hSl := HSL.out
        have hSb := HSB.out
        rw [hS] at hrow hml hSl hSb
        have HML := Lib.hid hml
        have HSB := Lib.hid hSb
        have HB := Lib.hid hB4
        have HSL := Lib.hid hSl
        clear hml hSb hB4 hO3 hB3 hO hB hS hwl
        go_wp2
        go_loopw [10, 9, 1] (fun i m r wr2 => ∃ (j q : Nat) (R : Int), j ≤ k ∧ i = .int .i64 j ∧ m = .int .i64 j ∧ r = .int .i64 R ∧ 0 ≤ R ∧ R ≤ 600 ∧ lsf S room = (j : Int) + lsf (S.drop j) R ∧ wr2 = w3.drewN q) (fun i _ _ _ => k - (intOf i).toNat)
        case atStart => exact ⟨0, 0, room, Nat.zero_le _, rfl, rfl, rfl, h0, h6, by simp, rfl⟩
        case round =>
          obtain ⟨j, q, R, hj, rfl, rfl, rfl, hR0, hR6, hl, rfl⟩ := hrel
          have HL := Lib.hid hl
          clear hl
          by_cases hlt : j < k
          · have cA := hrow.2 j (by omega)
            have hSb := HSB.out j hlt
            rw [Nat.zero_add] at cA
            have hii := fun h => lsf_in (S := S) (j := j) (R := R) (by omega) h
            have hoo := fun h => lsf_out (S := S) (j := j) (R := R) (by omega) h
            obtain ⟨y, hy⟩ : ∃ y, S[j]?.getD 0 = y := ⟨_, rfl⟩
            rw [hy] at cA hSb hii hoo
            have HII := Lib.hid hii
            have HOO := Lib.hid hoo
            clear hy hii hoo hrow hSl
            by_cases hyR : y ≤ R
            · go_wp2
              go_roundw
              case rel => exact ⟨j + 1, q, R - y, by omega, by go_num, by go_num, rfl, by omega, by omega, by rw [HL.out, HII.out hyR]; omega, rfl⟩
              case measure => simp [intOf]; omega
            · go_wp2
              go_ret2
              exact ⟨ret_ib (by rw [HML.out, HL.out, HOO.out hyR]; simp) rfl, below_drewN HB.out _⟩
          · obtain rfl : j = k := by omega
            have he : lsf (S.drop j) R = 0 := by rw [← HSL.out]; exact lsf_end
            have HE := Lib.hid he
            clear hrow hSl he
            go_wp2
            go_ret2
            exact ⟨ret_ib (by rw [HML.out, HL.out, HE.out]; simp) rfl, below_drewN HB.out _⟩

end Go.Proofs.Ytegmaieikocllaa
