/- The reference's counts, number by number: the contract of l1Counts. -/
import Derived.Test.YtbechpbfefdmgaaLeaf
import Derived.BigRegion
import Derived.RegionTactic
import Derived.ChangeAlike
namespace Go.Proofs.Ytbechpbfefdmgaa
open Go.RowKit

/-- The next counts when j of the last ones have been added. -/
def nextTo (out : List Int) (a j : Nat) : List Int := (List.range (out.length + a)).map fun (u : Nat) => (if u < j then out[u]?.getD 0 else 0) + (if a ≤ u ∧ u < a + j then out[u - a]?.getD 0 else 0)
theorem nextTo_length (out : List Int) (a j : Nat) : (nextTo out a j).length = out.length + a := by simp [nextTo]
theorem nextTo_get (out : List Int) (a j u : Nat) (h : u < out.length + a) : (nextTo out a j)[u]?.getD 0 = (if u < j then out[u]?.getD 0 else 0) + (if a ≤ u ∧ u < a + j then out[u - a]?.getD 0 else 0) := by
  simp [nextTo, h]
theorem nextTo_zero (out : List Int) (a : Nat) : nextTo out a 0 = List.replicate (out.length + a) 0 := by
  apply List.ext_getElem
  · simp [nextTo]
  · intro i h1 h2
    simp [nextTo]
    intro h3 h4; omega
theorem nextTo_mid (out : List Int) (a j : Nat) (ha : 1 ≤ a) :
    ((nextTo out a j).set j ((nextTo out a j)[j]?.getD 0 + out[j]?.getD 0))[j + a]?.getD 0 = (nextTo out a j)[j + a]?.getD 0 := by
  rw [List.getElem?_set_ne (by omega)]
theorem nextTo_step (out : List Int) (a j : Nat) (ha : 1 ≤ a) (hj : j < out.length) :
    ((nextTo out a j).set j ((nextTo out a j)[j]?.getD 0 + out[j]?.getD 0)).set (j + a) ((nextTo out a j)[j + a]?.getD 0 + out[j]?.getD 0) = nextTo out a (j + 1) := by
  have h1 := nextTo_get out a j j (by omega)
  have h2 := nextTo_get out a j (j + a) (by omega)
  obtain ⟨x, hx⟩ : ∃ x, (nextTo out a j)[j]?.getD 0 = x := ⟨_, rfl⟩
  obtain ⟨y, hy⟩ : ∃ y, (nextTo out a j)[j + a]?.getD 0 = y := ⟨_, rfl⟩
  rw [hx] at h1 ⊢
  rw [hy] at h2 ⊢
  apply List.ext_getElem
  · simp [nextTo]
  · intro i hi1 hi2
    have hi : i < out.length + a := by simpa [nextTo] using hi2
    rw [List.getElem_set, List.getElem_set]
    have hL : (nextTo out a j)[i]'(by rw [nextTo_length]; exact hi) = (if i < j then out[i]?.getD 0 else 0) + (if a ≤ i ∧ i < a + j then out[i - a]?.getD 0 else 0) := by simp [nextTo]
    have hR : (nextTo out a (j + 1))[i]'hi2 = (if i < j + 1 then out[i]?.getD 0 else 0) + (if a ≤ i ∧ i < a + (j + 1) then out[i - a]?.getD 0 else 0) := by simp [nextTo]
    rw [hR]
    by_cases e1 : j + a = i
    · subst e1
      rw [if_pos rfl, h2, if_neg (by omega), if_neg (by omega), if_neg (by omega), if_pos ⟨by omega, by omega⟩]
      rw [show j + a - a = j by omega]; omega
    · rw [if_neg e1]
      by_cases e2 : j = i
      · subst e2
        rw [if_pos rfl, h1, if_neg (Nat.lt_irrefl j), if_pos (Nat.lt_succ_self j)]
        by_cases e5 : a ≤ j
        · rw [if_pos ⟨e5, by omega⟩, if_pos ⟨e5, by omega⟩]; omega
        · rw [if_neg (fun h => e5 h.1), if_neg (fun h => e5 h.1)]; omega
      · rw [if_neg e2, hL]
        have e3 : (i < j + 1) ↔ (i < j) := by omega
        have e4 : (a ≤ i ∧ i < a + (j + 1)) ↔ (a ≤ i ∧ i < a + j) := by omega
        simp only [e3, e4]

theorem countsTo_succ {zs : List Int} (h : isIn zs = true) (k a : Nat) (ha : zs[k]?.getD 0 = (a : Int)) : nextTo (countsTo zs k) a (countsTo zs k).length = countsTo zs (k + 1) := by
  have hb := tot_bd h k
  have ht : tot zs (k + 1) = tot zs k + a := by simp only [tot]; rw [ha]
  obtain ⟨T, hT⟩ : ∃ T : Nat, tot zs k = (T : Int) := ⟨(tot zs k).toNat, by omega⟩
  have hl1 : (countsTo zs k).length = T + 1 := by rw [countsTo_length, hT]; rfl
  have hl2 : (countsTo zs (k + 1)).length = T + a + 1 := by rw [countsTo_length, ht, hT]; omega
  apply List.ext_getElem
  · rw [nextTo_length, hl1, hl2]; omega
  · intro u h1 h2
    rw [hl2] at h2
    have hR : (countsTo zs (k + 1))[u] = (cnt zs (k + 1) u : Int) := by simp [countsTo]
    rw [hR]
    have hL := nextTo_get (countsTo zs k) a (countsTo zs k).length u (by rw [hl1]; omega)
    have hgl : (nextTo (countsTo zs k) a (countsTo zs k).length)[u] = (nextTo (countsTo zs k) a (countsTo zs k).length)[u]?.getD 0 := by rw [List.getElem?_eq_getElem h1]; rfl
    rw [hgl, hL, hl1]
    have c1 : (if u < T + 1 then (countsTo zs k)[u]?.getD 0 else 0) = (cnt zs k u : Int) := by
      split
      · rename_i hu; rw [countsTo_getD zs k u (by rw [hT]; simpa using hu)]
      · rw [cnt_out h k u (by rw [hT]; omega)]; rfl
    have c2 : (if a ≤ u ∧ u < a + (T + 1) then (countsTo zs k)[u - a]?.getD 0 else 0) = (cnt zs k ((u : Int) - a) : Int) := by
      split
      · rename_i hu
        rw [countsTo_getD zs k (u - a) (by rw [hT]; simp; omega)]
        congr 2; omega
      · rw [cnt_out h k _ (by rw [hT]; omega)]; rfl
    rw [c1, c2]
    simp only [cnt, ha]
    omega

theorem countsTo_bd (zs : List Int) (k u : Nat) (hk : k ≤ 10) : 0 ≤ (countsTo zs k)[u]?.getD 0 ∧ (countsTo zs k)[u]?.getD 0 ≤ 1024 := by
  by_cases h : u < (tot zs k).toNat + 1
  · rw [countsTo_getD zs k u h]
    have := cnt_le_1024 zs k u hk; omega
  · rw [List.getElem?_eq_none (by rw [countsTo_length]; omega)]; simp
theorem nextTo_bd (out : List Int) (a j u : Nat) (h : ∀ i : Nat, 0 ≤ out[i]?.getD 0 ∧ out[i]?.getD 0 ≤ 1024) : 0 ≤ (nextTo out a j)[u]?.getD 0 ∧ (nextTo out a j)[u]?.getD 0 ≤ 2048 := by
  by_cases hu : u < out.length + a
  · rw [nextTo_get out a j u hu]
    have h1 := h u; have h2 := h (u - a)
    split <;> split <;> omega
  · rw [List.getElem?_eq_none (by rw [nextTo_length]; omega)]; simp
theorem countsTo_zero (zs : List Int) : countsTo zs 0 = [1] := by simp [countsTo, tot, cnt]

set_option maxRecDepth 100000 in
set_option maxHeartbeats 2000000 in
theorem l1Counts_any (b off c : Nat) (zs : List Int) (w : World) (hin : isIn zs = true) (hr : Row w b off zs) :
    Calls Try.prog 54 #[.slice (some ⟨b, off, none⟩) zs.length c] w fun e w' => ∃ g c', e = .returned (.slice (some ⟨g, 0, none⟩) (counts zs).length c') ∧ Owns w' w.heap.size g c' (counts zs) ∧ Below w.heap.size w w' := by
  have hlen := isIn_len hin
  have HIN := Lib.hid hin
  clear hin
  have hb := hr.1
  have HR := Lib.hid hr
  clear hr
  go_enter Try.func54, Try.ntmps54
  go_wp2
  have hO0 : Owns (w.alloc (.cells #[.int .i64 1] 3)) w.heap.size w.heap.size 1 (countsTo zs 0) := by
    rw [countsTo_zero]
    exact World.ownsRow_lit w #[.int .i64 1] 1 (Nat.le_refl _) (by unfold maxLen; omega) rfl
  have hB0 : Below w.heap.size w (w.alloc (.cells #[.int .i64 1] 3)) := by go_grown
  have hl0 : (countsTo zs 0).length = 1 := by rw [countsTo_zero]; rfl
  have HO := Lib.hid hO0
  have HL0 := Lib.hid hl0
  clear hO0 hl0
  go_loopw [4, 3] (fun i o wr => ∃ (k g c' : Nat), k ≤ zs.length ∧ i = .int .i64 k ∧ o = .slice (some ⟨g, 0, none⟩) (countsTo zs k).length c' ∧ Owns wr w.heap.size g c' (countsTo zs k) ∧ Below w.heap.size w wr) (fun i _ _ => zs.length - (intOf i).toNat)
  case atStart => exact ⟨0, _, 1, Nat.zero_le _, rfl, by rw [HL0.out], HO.out, hB0⟩
  case round =>
    clear HO hB0 HL0
    obtain ⟨wo, rfl⟩ : ∃ wo : World, wo = wr := ⟨_, rfl⟩
    obtain ⟨k, g, c', hk, rfl, rfl, hO, hB⟩ := hrel
    by_cases hlt : k < zs.length
    · have hrr := HR.out.behind hB
      have hcell := hrr.2 k hlt
      have hx0 := isIn_get HIN.out k hlt
      have hsucc := countsTo_succ HIN.out k
      obtain ⟨a, ha⟩ : ∃ a : Nat, zs[k]?.getD 0 = (a : Int) := ⟨(zs[k]?.getD 0).toNat, by omega⟩
      rw [ha] at hcell hx0 hsucc
      have hsucc := hsucc a rfl
      have hbd := countsTo_bd zs k
      have hbd : ∀ i : Nat, 0 ≤ (countsTo zs k)[i]?.getD 0 ∧ (countsTo zs k)[i]?.getD 0 ≤ 1024 := fun i => hbd i (by omega)
      have htl : (countsTo zs k).length ≤ 601 := by
        rw [countsTo_length]; have := tot_bd HIN.out k; omega
      obtain ⟨L, hL⟩ : ∃ L, countsTo zs k = L := ⟨_, rfl⟩
      rw [hL] at hO hsucc hbd htl ⊢
      obtain ⟨n, hn⟩ : ∃ n, L.length = n := ⟨_, rfl⟩
      rw [hn] at htl hsucc ⊢
      have hmk := run_zeros (n + a) ((n : Int) + (a : Int)) (by omega) (by omega)
      have HBD := Lib.hid hbd
      have HS := Lib.hid hsucc
      have HN := Lib.hid hn
      have hg := hO.lt
      have hg2 := hO.ge
      have hsz := hB.size
      have HRR := Lib.hid hrr
      have HA := Lib.hid ha
      clear hL hbd hsucc hn ha hrr
      obtain ⟨hx1, hx2⟩ := hx0
      have hx1n : 1 ≤ a := by omega
      have HOO := Lib.hid hO
      clear hO
      go_wp2
      clear hmk
      have hO1 : Owns (wo.alloc (.cells (zeroCells (n + a)) 3)) wo.heap.size wo.heap.size (n + a) (nextTo L a 0) := by
        rw [nextTo_zero, HN.out]; exact owns_zeros wo wo.heap.size (n + a) (Nat.le_refl _) (by unfold maxLen; omega)
      have HO1 := Lib.hid hO1
      have hB1 : Below wo.heap.size wo (wo.alloc (.cells (zeroCells (n + a)) 3)) := by go_grown
      have HB1 := Lib.hid hB1
      clear hO1 hB1
      go_loopw [6] (fun i wi => ∃ j : Nat, j ≤ n ∧ i = .int .i64 j ∧ Owns wi wo.heap.size wo.heap.size (n + a) (nextTo L a j) ∧ Below wo.heap.size wo wi) (fun i _ => n - (intOf i).toNat)
      case atStart => exact ⟨0, Nat.zero_le _, rfl, HO1.out, HB1.out⟩
      case round =>
        clear HO1 HB1
        obtain ⟨j, hj, rfl, hOi, hBi⟩ := hrel
        by_cases hjl : j < n
        · have hjL : j < L.length := by rw [HN.out]; exact hjl
          have hcz := (HRR.out.behind hBi).2 k hlt
          have hcL := (HOO.out.behind hBi).row.2 j hjL
          rw [Nat.zero_add] at hcL
          have hc1 := hOi.row.2 j (by rw [nextTo_length]; omega)
          rw [Nat.zero_add] at hc1
          have hc2 := hOi.row.2 (j + a) (by rw [nextTo_length]; omega)
          rw [Nat.zero_add] at hc2
          have hf1 := hOi.free j
          have hf2 := hOi.free (j + a)
          rw [HA.out] at hcz
          have hbx := HBD.out j
          have hby1 := nextTo_bd L a j j HBD.out
          have hby2 := nextTo_bd L a j (j + a) HBD.out
          have hstep := nextTo_step L a j hx1n hjL
          have hset1 := hOi.set_ j ((nextTo L a j)[j]?.getD 0 + L[j]?.getD 0)
          have hset2 := hset1.set_ (j + a) ((nextTo L a j)[j + a]?.getD 0 + L[j]?.getD 0)
          rw [hstep] at hset2
          obtain ⟨x, hx⟩ : ∃ x, L[j]?.getD 0 = x := ⟨_, rfl⟩
          obtain ⟨y1, hy1⟩ : ∃ y, (nextTo L a j)[j]?.getD 0 = y := ⟨_, rfl⟩
          obtain ⟨y2, hy2⟩ : ∃ y, (nextTo L a j)[j + a]?.getD 0 = y := ⟨_, rfl⟩
          rw [hx] at hcL hbx hset2
          rw [hy1] at hc1 hby1 hset2
          rw [hy2] at hc2 hby2 hset2
          rw [hx, hy1] at hset1
          have hBs := (hBi.setCell (p := ⟨wo.heap.size, j, none⟩) (Nat.le_refl _) (.int .i64 (y1 + x))).setCell (p := ⟨wo.heap.size, j + a, none⟩) (Nat.le_refl _) (.int .i64 (y2 + x))
          have HSET := Lib.hid hset2
          have HBS := Lib.hid hBs
          have hlg := hOi.lt
          clear hx hy1 hy2 hstep hset1 hset2 hBs hOi hBi
          have d1 : ((wr.setCell ⟨wo.heap.size, j, none⟩ (.int .i64 (y1 + x))).drew).cell? ⟨b, off + k, none⟩ = some (.int .i64 (a : Int)) := (World.cell?_of_block (Below.heap_setCell wr ⟨wo.heap.size, j, none⟩ (.int .i64 (y1 + x)) b (by simp; omega))).trans hcz
          have d2 : ((wr.setCell ⟨wo.heap.size, j, none⟩ (.int .i64 (y1 + x))).drew).cell? ⟨g, j, none⟩ = some (.int .i64 x) := (World.cell?_of_block (Below.heap_setCell wr ⟨wo.heap.size, j, none⟩ (.int .i64 (y1 + x)) g (by simp; omega))).trans hcL
          have d3 : ((wr.setCell ⟨wo.heap.size, j, none⟩ (.int .i64 (y1 + x))).drew).cell? ⟨wo.heap.size, j + a, none⟩ = some (.int .i64 y2) := (World.cell?_setCell_other wr ⟨wo.heap.size, j, none⟩ ⟨wo.heap.size, j + a, none⟩ (.int .i64 (y1 + x)) (fun e => by injection e with _ e2 _; omega)).trans hc2
          have d4 : ((wr.setCell ⟨wo.heap.size, j, none⟩ (.int .i64 (y1 + x))).drew).frozen? ⟨wo.heap.size, j + a, none⟩ = false := (World.frozen?_setCell _ _ _ _).trans hf2
          have D1 := Lib.hid d1
          have D2 := Lib.hid d2
          have D3 := Lib.hid d3
          have D4 := Lib.hid d4
          clear d1 d2 d3 d4
          go_wp2
          go_region
          have d1 := D1.out
          have d2 := D2.out
          have d3 := D3.out
          have d4 := D4.out
          have HF : Hid (Owns ((((wr.setCell ⟨wo.heap.size, j, none⟩ (.int .i64 (y1 + x))).drew).setCell ⟨wo.heap.size, j + a, none⟩ (.int .i64 (y2 + x))).drew) wo.heap.size wo.heap.size (n + a) (nextTo L a (j + 1))) := HSET.out
          have HBF : Hid (Below wo.heap.size wo ((((wr.setCell ⟨wo.heap.size, j, none⟩ (.int .i64 (y1 + x))).drew).setCell ⟨wo.heap.size, j + a, none⟩ (.int .i64 (y2 + x))).drew)) := ⟨HBS.out.os, HBS.out.tape, HBS.out.output, HBS.out.size, HBS.out.block⟩
          clear D1 D2 D3 D4 hcz hcL hc1 hc2 hf1 hf2 HSET HBS
          generalize (wr.setCell ⟨wo.heap.size, j, none⟩ (.int .i64 (y1 + x))).drew = W2 at *
          go_wp2
          go_region
          go_wp2
          go_roundw
          case rel => exact ⟨j + 1, by omega, by go_num, HF.out, HBF.out⟩
          case measure => simp [intOf]; omega
        · obtain rfl : j = n := by omega
          go_wp2
          go_roundw
          case rel => exact ⟨k + 1, wo.heap.size, _, by omega, by go_num, by rw [← HS.out, nextTo_length, HN.out], by rw [← HS.out]; exact hOi.base hsz, hB.trans (hBi.mono hsz)⟩
          case measure => simp [intOf]; omega
    · obtain rfl : k = zs.length := by omega
      go_wp2
      go_ret
      exact ⟨g, c', rfl, hO, hB⟩

end Go.Proofs.Ytbechpbfefdmgaa
