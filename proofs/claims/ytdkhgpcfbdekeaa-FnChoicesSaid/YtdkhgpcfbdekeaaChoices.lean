/- SumChoices: contracts. -/
import Derived.Test.YtdkhgpcfbdekeaaChoice
import Derived.Handy
import Derived.Maps.AppendAt
namespace Go.Proofs.Ytdkhgpcfbdekeaa
open Go.RowKit Go.Shelf

attribute [local go_sem] Oper.semAt_some

/-- The choices below m with the sum v. -/
def chUpto (zs : List Int) (v : Int) (m : Nat) : List Int := ((List.range m).filter fun k => decide (cs zs k zs.length = v)).map fun (k : Nat) => (k : Int)
theorem chUpto_hit {zs : List Int} {v : Int} {m : Nat} (h : cs zs m zs.length = v) : chUpto zs v (m + 1) = chUpto zs v m ++ [(m : Int)] := by
  simp [chUpto, List.range_succ, h]
theorem chUpto_miss {zs : List Int} {v : Int} {m : Nat} (h : cs zs m zs.length ≠ v) : chUpto zs v (m + 1) = chUpto zs v m := by
  simp [chUpto, List.range_succ, h]
theorem chUpto_le (zs : List Int) (v : Int) (m : Nat) : (chUpto zs v m).length ≤ m := by
  unfold chUpto
  rw [List.length_map]
  exact Nat.le_trans (List.length_filter_le _ _) (by simp)
def choicesOf (zs : List Int) (v : Int) : List Int := if isIn zs then chUpto zs v (2 ^ zs.length) else []
theorem choicesOf_out {zs : List Int} (v : Int) (h : isIn zs = false) : choicesOf zs v = [] := by unfold choicesOf; rw [h]; rfl
theorem choicesOf_in {zs : List Int} (v : Int) (h : isIn zs = true) : choicesOf zs v = chUpto zs v (2 ^ zs.length) := by unfold choicesOf; rw [h]; rfl
theorem choicesOf_len (zs : List Int) (v : Int) : (choicesOf zs v).length ≤ 1024 := by
  cases h : isIn zs with
  | false => rw [choicesOf_out v h]; simp
  | true =>
    rw [choicesOf_in v h]
    exact Nat.le_trans (chUpto_le _ _ _) (Nat.pow_le_pow_right (n := 2) (by omega) (isIn_len h))

set_option maxHeartbeats 1000000
theorem implSumChoices_no (b off c : Nat) (v : Int) (zs : List Int) (w : World) (hn : zs.length ≤ 1152921504606846976) (hr : Row w b off zs) (hin : isIn zs = false) :
    Calls Try.prog 33 #[.slice (some ⟨b, off, none⟩) zs.length c, .int .i64 v] w fun e w' => ∃ g c', e = .returned (.tuple #[.slice (some ⟨g, 0, none⟩) (choicesOf zs v).length c', .bool (isIn zs)]) ∧ Owns w' w.heap.size g c' (choicesOf zs v) ∧ Below w.heap.size w w' := by
  rw [choicesOf_out v hin, hin]
  go_enter Try.func33, Try.ntmps33
  go_wp2_with (go_at_call 40; refine (implSumIn_any _ _ _ _ _ hn (hr.alloc _)).mono ?_; rintro e w' ⟨rfl, rfl⟩)
  go_returns
  exact ⟨_, _, rfl, by have := owns_empty (w.alloc (.cells #[.int .i64 v] 3)) w.heap.size (by simp); simpa using this, by go_grown⟩

theorem specSumChoices_any (b off c : Nat) (v : Int) (zs : List Int) (w : World) (hn : zs.length ≤ 1152921504606846976) (hr : Row w b off zs) :
    Calls Try.prog 35 #[.slice (some ⟨b, off, none⟩) zs.length c, .int .i64 v] w fun e w' => ∃ g c', e = .returned (.tuple #[.slice (some ⟨g, 0, none⟩) (choicesOf zs v).length c', .bool (isIn zs)]) ∧ Owns w' w.heap.size g c' (choicesOf zs v) ∧ Below w.heap.size w w' := by
  obtain ⟨i0, hi, hz0, hz1, hz2⟩ := info_parts info_int
  cases hin : isIn zs with
  | false =>
    rw [choicesOf_out v hin]
    go_enter Try.func35, Try.ntmps35
    go_wp2_with (go_at_call 38; refine (specSumIn_any _ _ _ _ _ hn (hr.alloc _)).mono ?_; rintro e w' ⟨rfl, rfl⟩)
    go_ret2
    exact ⟨_, _, rfl, owns_empty _ _ (Nat.le_refl _), by go_grown⟩
  | true =>
    have hlen := isIn_len hin
    obtain ⟨N, hN, hN1, hN2, hN3⟩ := pow_walk zs.length (by omega)
    have hN4 : N ≤ 1024 := by rw [← hN]; exact Nat.pow_le_pow_right (n := 2) (by omega) hlen
    rw [choicesOf_in v hin, hN]
    have HN := Lib.hid hN
    clear hN hN3
    go_enter Try.func35, Try.ntmps35
    go_wp2_with (go_at_call 38; refine (specSumIn_any _ _ _ _ _ hn (hr.alloc _)).mono ?_; rintro e w' ⟨rfl, rfl⟩)
    have HIN := Lib.hid hin
    clear hin
    go_loopw [7, 6] (fun i o wr => ∃ (k g c' : Nat), k ≤ N ∧ i = .int .i64 k ∧ o = .slice (some ⟨g, 0, none⟩) (chUpto zs v k).length c' ∧ Owns wr w.heap.size g c' (chUpto zs v k) ∧ Below w.heap.size w wr) (fun i _ _ => N - (intOf i).toNat)
    case atStart => exact ⟨0, _, _, Nat.zero_le _, rfl, rfl, owns_empty _ _ (Nat.le_refl _), by go_grown⟩
    case round =>
      obtain ⟨k, g, c', hk, rfl, rfl, hO, hB⟩ := hrel
      have hrr := hr.behind hB
      by_cases hlt : k < N
      · obtain ⟨s, hs⟩ : ∃ s, cs zs k zs.length = s := ⟨_, rfl⟩
        have hhit : s = v → chUpto zs v (k + 1) = chUpto zs v k ++ [(k : Int)] := fun h => chUpto_hit (hs.trans h)
        have hmiss : s ≠ v → chUpto zs v (k + 1) = chUpto zs v k := fun h => chUpto_miss (by rw [hs]; exact h)
        have hL := chUpto_le zs v k
        obtain ⟨L, hLd⟩ : ∃ L, chUpto zs v k = L := ⟨_, rfl⟩
        rw [hLd] at hhit hmiss hL hO ⊢
        have HHIT := Lib.hid hhit
        have HMISS := Lib.hid hmiss
        have HS := Lib.hid hs
        clear hs hhit hmiss hLd
        by_cases hsv : s = v
        · have hq : (s == v) = true := by simp [hsv]
          have HSV := Lib.hid hsv
          clear hsv
          go_wp2_with (first | (go_at_call 46; refine (l1All_N _ _ _ N _ (by omega) HN.out).mono ?_; rintro e w' ⟨rfl, rfl⟩) | (go_at_call 47; refine (l1Sum_any k _ _ _ _ _ (by omega) HIN.out hrr).mono ?_; rw [HS.out]; rintro e w' ⟨rfl, n2, rfl⟩) | (at_builtin; refine wpList_append_own _ rfl _ _ 22 rfl w.heap.size 3 i0 (.int .i64 0) 1 8 Try.underlying22 hi hz0 hz1 hz2 rfl (by decide) _ _ _ rfl ((hO.drewN _).alloc _) ⟨wr.heap.size, 0, none⟩ 1 1 [.int .i64 (k : Int)] rfl rfl (cell_one_new _ _ _) (by simp [Value.oneCell']) (by unfold maxLen; omega) (by omega) (by have := hB.size; simp; omega) ?_; intro v' w1 hown' hgrow _; obtain ⟨g2, c2, rfl, hO2, hB2⟩ := owns_appended (hO.drewN n2) hown' hgrow (below_drewN hB n2) (Nat.le_refl _) hB.size))
          go_roundw
          case rel => exact ⟨k + 1, g2, c2, by omega, by go_num, by rw [HHIT.out HSV.out, List.length_append]; rfl, by rw [HHIT.out HSV.out]; exact hO2, hB2⟩
          case measure => simp [intOf]; omega
        · have hq : (s == v) = false := by simp [hsv]
          have HSV := Lib.hid hsv
          clear hsv
          go_wp2_with (first | (go_at_call 46; refine (l1All_N _ _ _ N _ (by omega) HN.out).mono ?_; rintro e w' ⟨rfl, rfl⟩) | (go_at_call 47; refine (l1Sum_any k _ _ _ _ _ (by omega) HIN.out hrr).mono ?_; rw [HS.out]; rintro e w' ⟨rfl, n2, rfl⟩))
          go_roundw
          case rel => exact ⟨k + 1, g, c', by omega, by go_num, by rw [HMISS.out HSV.out], by rw [HMISS.out HSV.out]; exact hO.drewN _, below_drewN hB _⟩
          case measure => simp [intOf]; omega
      · obtain rfl : k = N := by omega
        go_wp2_with (go_at_call 46; refine (l1All_N _ _ _ k _ (by omega) HN.out).mono ?_; rintro e w' ⟨rfl, rfl⟩)
        go_ret2
        exact ⟨_, _, rfl, hO, hB⟩

/-- What has been found among the choices that have come. -/
def foundIn (zs : List Int) (v : Int) (pre : List (Ch zs.length)) : List Int := (pre.filter fun x => decide (cs zs x.1 zs.length = v)).map fun x => (x.1 : Int)
theorem foundIn_hit {zs : List Int} {v : Int} (pre : List (Ch zs.length)) {x : Ch zs.length} (h : cs zs x.1 zs.length = v) : foundIn zs v (pre ++ [x]) = foundIn zs v pre ++ [(x.1 : Int)] := by simp [foundIn, h]
theorem foundIn_miss {zs : List Int} {v : Int} (pre : List (Ch zs.length)) {x : Ch zs.length} (h : cs zs x.1 zs.length ≠ v) : foundIn zs v (pre ++ [x]) = foundIn zs v pre := by simp [foundIn, h]
theorem foundIn_len (zs : List Int) (v : Int) (pre : List (Ch zs.length)) : (foundIn zs v pre).length ≤ pre.length := by
  unfold foundIn; rw [List.length_map]; exact List.length_filter_le _ _
theorem foundIn_firsts (zs : List Int) (v : Int) (k : Nat) (h : k ≤ 2 ^ zs.length) : foundIn zs v (firsts zs.length k h) = chUpto zs v k := by
  induction k with
  | zero => simp [foundIn, chUpto, firsts]
  | succ k ih =>
    rw [firsts_succ]
    by_cases e : cs zs k zs.length = v
    · rw [foundIn_hit _ e, chUpto_hit e, ih]
    · rw [foundIn_miss _ e, chUpto_miss e, ih]

set_option maxRecDepth 100000 in
theorem implSumChoices_yes (b off c : Nat) (v : Int) (zs : List Int) (w : World) (hr : Row w b off zs) (hin : isIn zs = true) :
    Calls Try.prog 33 #[.slice (some ⟨b, off, none⟩) zs.length c, .int .i64 v] w fun e w' => ∃ g c', e = .returned (.tuple #[.slice (some ⟨g, 0, none⟩) (chUpto zs v (2 ^ zs.length)).length c', .bool true]) ∧ Owns w' w.heap.size g c' (chUpto zs v (2 ^ zs.length)) ∧ Below w.heap.size w w' := by
  have hlen := isIn_len hin
  obtain ⟨i0, hi, hz0, hz1, hz2⟩ := info_parts info_int
  refine (callsIn_wide (n := 5)).1 ?_
  refine callsIn_of_wp_marks Try.func33 rfl trivial ?_ rfl
  simp only [Try.ntmps33, List.size_toArray, List.length_cons, List.length_nil, Nat.reduceAdd, Nat.reduceSub, Array.replicate_succ, Array.replicate_zero, List.push_toArray, List.append_toArray, List.nil_append, List.cons_append]
  gi_wp2_with (first | (refine ⟨trivial, ?_⟩; gi_at_call 40; refine (callsIn_wide.2 (implSumIn_any _ _ _ _ _ (by omega) (hr.alloc _))).mono ?_; rintro e w' ⟨rfl, rfl⟩) | (refine ⟨trivial, ?_⟩; gi_at_call 42; refine (callsIn_wide.2 (choiceSums_any _ _ _ _ _)).mono ?_; rintro e w' ⟨rfl, rfl⟩))
  have hb := hr.1
  have bV := Boxed.new w 3 (.int .i64 v)
  have hr1 := hr.alloc (.cells #[.int .i64 v] 3)
  have hB1 : Below w.heap.size w (w.alloc (.cells #[.int .i64 v] 3)) := by go_grown
  have hz1' : (w.alloc (.cells #[.int .i64 v] 3)).heap.size = w.heap.size + 1 := by simp
  generalize w.alloc (.cells #[.int .i64 v] 3) = W1 at *
  have hO2 := owns_empty W1 (w.heap.size + 1) (by omega)
  rw [hz1'] at hO2
  have bV2 := bV.alloc (.cells #[] 3)
  have hr2 := hr1.alloc (.cells #[] 3)
  have hB2 := hB1.alloc (by omega) (.cells #[] 3)
  have hz2' : (W1.alloc (.cells #[] 3)).heap.size = w.heap.size + 1 + 1 := by simp [hz1']
  generalize W1.alloc (.cells #[] 3) = W2 at *
  have bF3 := Boxed.new W2 22 (.slice (some ⟨w.heap.size + 1, 0, none⟩) 0 0)
  rw [hz2'] at bF3
  have bV3 := bV2.alloc (.cells #[.slice (some ⟨w.heap.size + 1, 0, none⟩) 0 0] 22)
  have hr3 := hr2.alloc (.cells #[.slice (some ⟨w.heap.size + 1, 0, none⟩) 0 0] 22)
  have hO3 := hO2.alloc (.cells #[.slice (some ⟨w.heap.size + 1, 0, none⟩) 0 0] 22)
  have hB3 := hB2.alloc (by omega) (.cells #[.slice (some ⟨w.heap.size + 1, 0, none⟩) 0 0] 22)
  have hz3' : (W2.alloc (.cells #[.slice (some ⟨w.heap.size + 1, 0, none⟩) 0 0] 22)).heap.size = w.heap.size + 1 + 1 + 1 := by simp [hz2']
  generalize W2.alloc (.cells #[.slice (some ⟨w.heap.size + 1, 0, none⟩) 0 0] 22) = W3 at *
  have bN := Boxed.new W3 22 (.slice (some ⟨b, off, none⟩) zs.length c)
  rw [hz3'] at bN
  have bF := bF3.alloc (.cells #[.slice (some ⟨b, off, none⟩) zs.length c] 22)
  have bV4 := bV3.alloc (.cells #[.slice (some ⟨b, off, none⟩) zs.length c] 22)
  have hr4 := hr3.alloc (.cells #[.slice (some ⟨b, off, none⟩) zs.length c] 22)
  have hO4 := hO3.alloc (.cells #[.slice (some ⟨b, off, none⟩) zs.length c] 22)
  have hB4 := hB3.alloc (by omega) (.cells #[.slice (some ⟨b, off, none⟩) zs.length c] 22)
  have hz4' : (W3.alloc (.cells #[.slice (some ⟨b, off, none⟩) zs.length c] 22)).heap.size = w.heap.size + 4 := by simp [hz3']
  generalize W3.alloc (.cells #[.slice (some ⟨b, off, none⟩) zs.length c] 22) = W4 at *
  clear bV bV2 bV3 bF3 hr1 hr2 hr3 hO2 hO3 hB1 hB2 hB3 hz1' hz2' hz3'
  refine wpIn_rangeFunc_ownG rfl (by omega) (gf := 57) (lb := #[.pointer (some ⟨w.heap.size + 1 + 1 + 1, 0, none⟩)]) rfl trivial (enters_of Try.func57 (by kernel_rfl) rfl)
    (choices_stops 4 (by omega) (w.heap.size + 1 + 1 + 1) b off c zs hin W4 (by omega) bN.cell hr4) KeepsTwo.trans (keepsTwo_b (by omega) (by omega)) (Below.refl _ _) (fun _ => rfl)
    (fun pre W => (Boxed W w.heap.size 3 (.int .i64 v) ∧ Boxed W (w.heap.size + 1 + 1 + 1) 22 (.slice (some ⟨b, off, none⟩) zs.length c) ∧ ∃ g c', Boxed W (w.heap.size + 1 + 1) 22 (.slice (some ⟨g, 0, none⟩) (foundIn zs v pre).length c') ∧ Owns W (w.heap.size + 1) g c' (foundIn zs v pre)) ∧ Below w.heap.size w W)
    (fun _ _ _ => False)
    (OwnFrom.and (Own.from (fun s A B row hs hg hr => ⟨boxed_own _ _ (fun _ => _) () A B row hs.1 hg hr, boxed_own _ _ (fun _ => _) () A B row hs.2.1 hg hr, by obtain ⟨_, _, g, c', h1, h2⟩ := hs; exact ⟨g, c', boxed_own _ _ (fun _ => _) () A B row h1 hg hr, owns_own _ _ _ (fun _ => _) () A B row h2 hg hr⟩⟩) _) (ownFrom_below (Nat.le_refl _) (by omega)))
    (fun _ _ _ _ _ hs _ _ => hs)
    ⟨⟨bV4, bN, _, _, bF, hO4⟩, hB4⟩
    (fun x => { tmps := #[.slice (some ⟨b, off, none⟩) zs.length c, .int .i64 v, undef, .pointer (some ⟨w.heap.size, 0, none⟩), .slice none 0 0, .bool false, .pointer (some ⟨w.heap.size + 1 + 1, 0, none⟩), .int .i64 (x.1 : Int), .int .i64 (cs zs x.1 zs.length),
      .slice (some ⟨b, off, none⟩) zs.length c, .bool true, .bool false, undef, .slice (some ⟨w.heap.size + 1, 0, none⟩) 0 0, .slice (some ⟨b, off, none⟩) zs.length c,
      .func (.func 57) #[] #[.pointer (some ⟨w.heap.size + 1 + 1 + 1, 0, none⟩)], .int .i64 (x.1 : Int), .int .i64 (cs zs x.1 zs.length), undef, undef, undef, undef, undef, undef, undef, undef], defers := [] }) ?assign ?body ?done ?stop
  case assign =>
    intro l x W K hK
    gi_wp2
    exact hK
  case body =>
    rintro l pre x W ⟨⟨hV, hN, g, c', hF, hO⟩, hB⟩ hpl
    have hcV := hV.cell
    have hcF := hF.cell
    have hfF := hF.frozen
    have hL := foundIn_len zs v pre
    have hx2 := x.2
    have hpow : 2 ^ zs.length ≤ 1024 := Nat.pow_le_pow_right (n := 2) (by omega) hlen
    have hhit := foundIn_hit (v := v) pre (x := x)
    have hmiss := foundIn_miss (v := v) pre (x := x)
    obtain ⟨s, hs⟩ : ∃ s, cs zs x.1 zs.length = s := ⟨_, rfl⟩
    rw [hs] at hhit hmiss ⊢
    obtain ⟨L, hLd⟩ : ∃ L, foundIn zs v pre = L := ⟨_, rfl⟩
    rw [hLd] at hhit hmiss hL hO hF hcF
    have HHIT := Lib.hid hhit
    have HMISS := Lib.hid hmiss
    have HLD := Lib.hid hLd
    clear hs hhit hmiss hLd
    by_cases hsv : s = v
    · have HSV := Lib.hid hsv
      have hq : (s == v) = true := by simp [hsv]
      clear hsv
      gi_wp2_with (gi_at_builtin; refine wpListIn_append_own _ rfl _ _ 22 rfl (w.heap.size + 1) 3 i0 (.int .i64 0) 1 8 Try.underlying22 hi hz0 hz1 hz2 rfl (by decide) _ _ _ rfl (hO.alloc _) ⟨W.heap.size, 0, none⟩ 1 1 [.int .i64 (x.1 : Int)] rfl rfl (cell_one_new _ _ _) (by simp [Value.oneCell']) (by unfold maxLen; omega) (by omega) (by have := hF.lt; simp; omega) ?_; intro v' w1 hown' hgrow _; obtain ⟨g2, c2, rfl, hO2, hB2⟩ := owns_appended hO hown' hgrow hB (by omega) (by have := hF.lt; omega); obtain ⟨hv1, hv2, hr2, hk2, hb2⟩ := hF.appended (by decide) hO (by have := hF.lt; omega) (by omega) hown' hgrow; have hc1 := hv1.cell; have hf1 := hv1.frozen)
      have hne := hO.ne_box hN (by decide)
      have hlN := hN.lt
      have hV' := (hb2.block _ (by omega)).trans hV
      have hN' := ((Below.heap_setCell w1 ⟨w.heap.size + 1 + 1, 0, none⟩ (.slice (some ⟨g2, 0, none⟩) (L.length + 1) c2) (w.heap.size + 1 + 1 + 1) (by simp)).trans (hgrow.block _ (by simp; omega) (fun e => hne (Option.some.inj (show some _ = some g from e))))).trans (Below.heap_alloc W _ _ hlN)
      exact ⟨hk2.from _, ⟨hN', hb2.block b (by omega), hk2.size⟩, ⟨hV', hN'.trans hN, g2, c2, by rw [HHIT.out HSV.out, List.length_append]; exact hv2, by rw [HHIT.out HSV.out]; exact Owns.of_row hr2⟩, hB.trans (hb2.mono (by omega))⟩
    · have HSV := Lib.hid hsv
      have hq : (s == v) = false := by simp [hsv]
      clear hsv
      gi_wp2
      exact ⟨KeepsFrom.refl _ _, KeepsTwo.refl _ _ _, ⟨hV, hN, g, c', by rw [HMISS.out HSV.out]; exact hF, by rw [HMISS.out HSV.out]; exact hO⟩, hB⟩
  case done =>
    rintro D ys W hD rfl ⟨⟨hV, hN, g, c', hF, hO⟩, hB⟩ hK
    rw [foundIn_firsts] at hF hO
    have hcF := hF.cell
    gi_wp2
    refine ⟨by simp, .inl ⟨_, _, rfl, run_takeDeferred hK, ?_⟩⟩
    exact ⟨_, results_tmp2 rfl _ _ _, _, _, rfl, (hO.base (by have := hO.ge; omega)).putD hK _, below_putD hB (by omega) hK _⟩
  case stop =>
    rintro D cd pre W _ _ h _
    exact h.elim

theorem implSumChoices_any (b off c : Nat) (v : Int) (zs : List Int) (w : World) (hn : zs.length ≤ 1152921504606846976) (hr : Row w b off zs) :
    Calls Try.prog 33 #[.slice (some ⟨b, off, none⟩) zs.length c, .int .i64 v] w fun e w' => ∃ g c', e = .returned (.tuple #[.slice (some ⟨g, 0, none⟩) (choicesOf zs v).length c', .bool (isIn zs)]) ∧ Owns w' w.heap.size g c' (choicesOf zs v) ∧ Below w.heap.size w w' := by
  cases hin : isIn zs with
  | false => rw [← hin]; exact implSumChoices_no b off c v zs w hn hr hin
  | true => rw [choicesOf_in v hin]; exact implSumChoices_yes b off c v zs w hr hin

end Go.Proofs.Ytdkhgpcfbdekeaa
