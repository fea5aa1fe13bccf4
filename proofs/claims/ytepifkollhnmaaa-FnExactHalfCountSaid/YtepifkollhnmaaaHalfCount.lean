/- HalfCount: contracts. -/
import Derived.Test.YtepifkollhnmaaaMissing
namespace Go.Proofs.Ytepifkollhnmaaa
open Go.RowKit Go.Shelf

attribute [local go_sem] Oper.semAt_some

/-- How many of the choices that have come are half of T. -/
def halves (zs : List Int) (T : Nat) (pre : List (Ch zs.length)) : Nat := (pre.filter fun x => decide (2 * cs zs x.1 zs.length = (T : Int))).length
theorem halves_hit {zs : List Int} {T : Nat} (pre : List (Ch zs.length)) {x : Ch zs.length} (h : 2 * cs zs x.1 zs.length = (T : Int)) : halves zs T (pre ++ [x]) = halves zs T pre + 1 := by simp [halves, h]
theorem halves_miss {zs : List Int} {T : Nat} (pre : List (Ch zs.length)) {x : Ch zs.length} (h : ¬ 2 * cs zs x.1 zs.length = (T : Int)) : halves zs T (pre ++ [x]) = halves zs T pre := by simp [halves, h]
theorem halves_le (zs : List Int) (T : Nat) (pre : List (Ch zs.length)) : halves zs T pre ≤ pre.length := List.length_filter_le _ _
def halfOf (zs : List Int) (T : Nat) : Nat := if T % 2 = 0 then cnt zs zs.length ((T / 2 : Nat) : Int) else 0
theorem halves_firsts (zs : List Int) (T : Nat) : halves zs T (firsts zs.length (2 ^ zs.length) (Nat.le_refl _)) = halfOf zs T := by
  unfold halves halfOf
  split
  · rw [← chosen_all, ← filter_firsts zs _ (2 ^ zs.length) (Nat.le_refl _)]
    congr 2
    funext x
    congr 1
    rw [eq_iff_iff]; omega
  · rw [List.length_eq_zero_iff, List.filter_eq_nil_iff]
    intro x _
    simp; omega
def halfV (zs : List Int) : Int := if isIn zs then (halfOf zs (tot zs zs.length).toNat : Int) else 0
theorem halfV_out {zs : List Int} (h : isIn zs = false) : halfV zs = 0 := by unfold halfV; rw [h]; rfl
theorem halfV_in {zs : List Int} (h : isIn zs = true) : halfV zs = (halfOf zs (tot zs zs.length).toNat : Int) := by unfold halfV; rw [h]; rfl

set_option maxHeartbeats 1000000
theorem implHalfCount_no (b off c : Nat) (zs : List Int) (w : World) (hn : zs.length ≤ 1152921504606846976) (hr : Row w b off zs) (hin : isIn zs = false) :
    Calls Try.prog 40 #[.slice (some ⟨b, off, none⟩) zs.length c] w fun e w' => e = .returned (.tuple #[.int .i64 (halfV zs), .bool (isIn zs)]) ∧ Below w.heap.size w w' := by
  rw [halfV_out hin, hin]
  go_enter Try.func40, Try.ntmps40
  go_wp2_with (go_at_call 17; refine (implSumIn_any _ _ _ _ _ hn hr).mono ?_; rintro e w' ⟨rfl, rfl⟩)
  go_returns
  exact ⟨rfl, by go_grown⟩

set_option maxRecDepth 100000 in
theorem implHalfCount_yes (b off c : Nat) (zs : List Int) (w : World) (hr : Row w b off zs) (hin : isIn zs = true) :
    Calls Try.prog 40 #[.slice (some ⟨b, off, none⟩) zs.length c] w fun e w' => e = .returned (.tuple #[.int .i64 (halfV zs), .bool true]) ∧ Below w.heap.size w w' := by
  have hlen := isIn_len hin
  have hb := hr.1
  have htb := tot_bd hin zs.length
  rw [halfV_in hin]
  obtain ⟨T, hT⟩ : ∃ T : Nat, tot zs zs.length = (T : Int) := ⟨(tot zs zs.length).toNat, by omega⟩
  have hT600 : T ≤ 600 := by omega
  rw [hT, Int.toNat_natCast]
  refine (callsIn_wide (n := 5)).1 ?_
  refine callsIn_of_wp_marks Try.func40 rfl trivial ?_ rfl
  simp only [Try.ntmps40, List.size_toArray, List.length_cons, List.length_nil, Nat.reduceAdd, Nat.reduceSub, Array.replicate_succ, Array.replicate_zero, List.push_toArray, List.append_toArray, List.nil_append, List.cons_append]
  gi_wp2_with (first | (refine ⟨trivial, ?_⟩; gi_at_call 17; refine (callsIn_wide.2 (implSumIn_any _ _ _ _ _ (by omega) hr)).mono ?_; rintro e w' ⟨rfl, rfl⟩) | (refine ⟨trivial, ?_⟩; gi_at_call 47; refine (callsIn_wide.2 (totalOf_any _ _ _ _ _ hin hr)).mono ?_; rw [hT]; rintro e w' ⟨rfl, rfl⟩) | (refine ⟨trivial, ?_⟩; gi_at_call 45; refine (callsIn_wide.2 (choiceSums_any _ _ _ _ _)).mono ?_; rintro e w' ⟨rfl, rfl⟩))
  have bT := Boxed.new w 3 (.int .i64 (T : Int))
  have hr1 := hr.alloc (.cells #[.int .i64 (T : Int)] 3)
  have hB1 : Below w.heap.size w (w.alloc (.cells #[.int .i64 (T : Int)] 3)) := by go_grown
  have hz1' : (w.alloc (.cells #[.int .i64 (T : Int)] 3)).heap.size = w.heap.size + 1 := by simp
  generalize w.alloc (.cells #[.int .i64 (T : Int)] 3) = W1 at *
  have bC := Boxed.new W1 3 (.int .i64 0)
  rw [hz1'] at bC
  have bT2 := bT.alloc (.cells #[.int .i64 0] 3)
  have hr2 := hr1.alloc (.cells #[.int .i64 0] 3)
  have hB2 := hB1.alloc (by omega) (.cells #[.int .i64 0] 3)
  have hz2' : (W1.alloc (.cells #[.int .i64 0] 3)).heap.size = w.heap.size + 1 + 1 := by simp [hz1']
  generalize W1.alloc (.cells #[.int .i64 0] 3) = W2 at *
  have bN := Boxed.new W2 23 (.slice (some ⟨b, off, none⟩) zs.length c)
  rw [hz2'] at bN
  have bC3 := bC.alloc (.cells #[.slice (some ⟨b, off, none⟩) zs.length c] 23)
  have bT3 := bT2.alloc (.cells #[.slice (some ⟨b, off, none⟩) zs.length c] 23)
  have hr3 := hr2.alloc (.cells #[.slice (some ⟨b, off, none⟩) zs.length c] 23)
  have hB3 := hB2.alloc (by omega) (.cells #[.slice (some ⟨b, off, none⟩) zs.length c] 23)
  have hz3' : (W2.alloc (.cells #[.slice (some ⟨b, off, none⟩) zs.length c] 23)).heap.size = w.heap.size + 3 := by simp [hz2']
  generalize W2.alloc (.cells #[.slice (some ⟨b, off, none⟩) zs.length c] 23) = W3 at *
  clear bT bT2 bC hr1 hr2 hB1 hB2 hz1' hz2'
  refine wpIn_rangeFunc_ownG rfl (by omega) (gf := 49) (lb := #[.pointer (some ⟨w.heap.size + 1 + 1, 0, none⟩)]) rfl trivial (enters_of Try.func49 (by kernel_rfl) rfl)
    (choices_stops 4 (by omega) (w.heap.size + 1 + 1) b off c zs hin W3 (by omega) bN.cell hr3) KeepsTwo.trans (keepsTwo_b (by omega) (by omega)) (Below.refl _ _) (fun _ => rfl)
    (fun pre W => (Boxed W w.heap.size 3 (.int .i64 (T : Int)) ∧ Boxed W (w.heap.size + 1) 3 (.int .i64 (halves zs T pre : Int))) ∧ Below w.heap.size w W ∧ w.heap.size + 3 ≤ W.heap.size)
    (fun _ _ _ => False)
    (OwnFrom.and (Own.from (fun s A B row hs hg hr => ⟨boxed_own _ _ (fun _ => _) () A B row hs.1 hg hr, boxed_own _ _ (fun _ => _) () A B row hs.2 hg hr⟩) _) (OwnFrom.and (ownFrom_below (Nat.le_refl _) (by omega)) (fun _ A B row hs hg _ => Nat.le_trans hs hg.size)))
    (fun _ _ _ _ _ hs _ _ => hs)
    ⟨⟨bT3, bC3⟩, hB3, by omega⟩
    (fun x => { tmps := #[.slice (some ⟨b, off, none⟩) zs.length c, undef, .int .i64 0, .bool false, .pointer (some ⟨w.heap.size, 0, none⟩), .pointer (some ⟨w.heap.size + 1, 0, none⟩), undef, .int .i64 (cs zs x.1 zs.length),
      .slice (some ⟨b, off, none⟩) zs.length c, .bool true, .bool false, .slice (some ⟨b, off, none⟩) zs.length c, .int .i64 (T : Int), .slice (some ⟨b, off, none⟩) zs.length c,
      .func (.func 49) #[] #[.pointer (some ⟨w.heap.size + 1 + 1, 0, none⟩)], .int .i64 (x.1 : Int), .int .i64 (cs zs x.1 zs.length), undef, undef, undef, undef, undef, undef, undef], defers := [] }) ?assign ?body ?done ?stop
  case assign =>
    intro l x W K hK
    gi_wp2
    exact hK
  case body =>
    rintro l pre x W ⟨⟨hT', hC⟩, hB, hsz⟩ hpl
    have hcT := hT'.cell
    have hcC := hC.cell
    have hfC := hC.frozen
    have hx2 := x.2
    have hpow : 2 ^ zs.length ≤ 1024 := Nat.pow_le_pow_right (n := 2) (by omega) hlen
    have hcs := cs_bd hin x.1 zs.length
    have hL := halves_le zs T pre
    have hhit := halves_hit (T := T) pre (x := x)
    have hmiss := halves_miss (T := T) pre (x := x)
    rw [hT] at hcs
    obtain ⟨m, hm⟩ : ∃ m, cs zs x.1 zs.length = m := ⟨_, rfl⟩
    obtain ⟨L, hLd⟩ : ∃ L, halves zs T pre = L := ⟨_, rfl⟩
    rw [hm] at hcs hhit hmiss ⊢
    rw [hLd] at hhit hmiss hL hcC hC
    have HHIT := Lib.hid hhit
    have HMISS := Lib.hid hmiss
    clear hm hLd hhit hmiss hT
    by_cases hq : 2 * m = (T : Int)
    · have hq' : (2 * m == (T : Int)) = true := by simp [hq]
      have HQ := Lib.hid hq
      clear hq
      gi_wp2
      refine ⟨(KeepsOthers.setCell _ _ _).from _, KeepsTwo.grown (grown_set W (w.heap.size + 1) 0 _) (by omega) (by omega) (by omega) (by omega), ⟨hT'.other (by omega) _, ?_⟩, hB.setCell (p := ⟨w.heap.size + 1, 0, none⟩) (by simp) _, by simpa using hsz⟩
      rw [HHIT.out HQ.out]
      exact hC.set _
    · have hq' : (2 * m == (T : Int)) = false := by simp [hq]
      have HQ := Lib.hid hq
      clear hq
      gi_wp2
      exact ⟨KeepsFrom.refl _ _, KeepsTwo.refl _ _ _, ⟨hT', by rw [HMISS.out HQ.out]; exact hC⟩, hB, hsz⟩
  case done =>
    rintro D ys W hD rfl ⟨⟨hT', hC⟩, hB, _⟩ hK
    rw [halves_firsts zs T] at hC
    have hcC := hC.cell
    gi_wp2
    refine ⟨by simp, .inl ⟨_, _, rfl, run_takeDeferred hK, ?_⟩⟩
    exact ⟨_, results_tmp2 rfl _ _ _, rfl, below_putD hB (by omega) hK _⟩
  case stop =>
    rintro D cd pre W _ _ h _
    exact h.elim

theorem implHalfCount_any (b off c : Nat) (zs : List Int) (w : World) (hn : zs.length ≤ 1152921504606846976) (hr : Row w b off zs) :
    Calls Try.prog 40 #[.slice (some ⟨b, off, none⟩) zs.length c] w fun e w' => e = .returned (.tuple #[.int .i64 (halfV zs), .bool (isIn zs)]) ∧ Below w.heap.size w w' := by
  cases hin : isIn zs with
  | false => rw [← hin]; exact implHalfCount_no b off c zs w hn hr hin
  | true => exact implHalfCount_yes b off c zs w hr hin

theorem specHalfCount_any (b off c : Nat) (zs : List Int) (w : World) (hn : zs.length ≤ 1152921504606846976) (hr : Row w b off zs) :
    Calls Try.prog 39 #[.slice (some ⟨b, off, none⟩) zs.length c] w fun e w' => e = .returned (.tuple #[.int .i64 (halfV zs), .bool (isIn zs)]) ∧ Below w.heap.size w w' := by
  cases hin : isIn zs with
  | false =>
    rw [halfV_out hin]
    go_enter Try.func39, Try.ntmps39
    go_wp2_with (go_at_call 15; refine (specSumIn_any _ _ _ _ _ hn hr).mono ?_; rintro e w' ⟨rfl, rfl⟩)
    go_ret2
    exact ⟨rfl, Below.refl _ _⟩
  | true =>
    have hC := l1Counts_any b off c zs w hin hr
    have htb := tot_bd hin zs.length
    have hlen := isIn_len hin
    obtain ⟨T, hT⟩ : ∃ T : Nat, tot zs zs.length = (T : Int) := ⟨(tot zs zs.length).toNat, by omega⟩
    have hv : halfV zs = (halfOf zs T : Int) := by rw [halfV_in hin, hT]; rfl
    rw [hv]
    have hl : (counts zs).length = T + 1 := by unfold counts; rw [countsTo_length, hT]; rfl
    have hget : T % 2 = 0 → (counts zs)[(T + 1) / 2]?.getD 0 = (halfOf zs T : Int) := fun h => by
      unfold counts halfOf
      rw [countsTo_getD zs zs.length ((T + 1) / 2) (by rw [hT]; simp; omega), if_pos h, show (T + 1) / 2 = T / 2 by omega]
    have hodd : ¬ T % 2 = 0 → halfOf zs T = 0 := fun h => by unfold halfOf; rw [if_neg h]
    have hT600 : T ≤ 600 := by omega
    obtain ⟨C, hCd⟩ : ∃ C, counts zs = C := ⟨_, rfl⟩
    rw [hCd] at hC hl hget
    rw [hl] at hC
    obtain ⟨V, hV⟩ : ∃ V, halfOf zs T = V := ⟨_, rfl⟩
    rw [hV] at hget hodd ⊢
    have HC := Lib.hid hC
    have HL := Lib.hid hl
    have HGET := Lib.hid hget
    have HODD := Lib.hid hodd
    clear hC hCd hT hv hl hget hodd hV
    by_cases h2 : T % 2 = 0
    · have hq : (((T : Int) + 1) % 2 == 0) = false := by simp; omega
      go_enter Try.func39, Try.ntmps39
      go_wp2_with (first | (go_at_call 15; refine (specSumIn_any _ _ _ _ _ hn hr).mono ?_; rintro e w' ⟨rfl, rfl⟩) | (go_at_call 46; refine HC.out.mono ?_; rintro e w1 ⟨g, c', rfl, hO, hB⟩; have hcell := hO.row.2 ((T + 1) / 2) (by rw [HL.out]; omega); rw [Nat.zero_add, HGET.out h2] at hcell))
      go_ret2
      exact ⟨rfl, hB⟩
    · have hq : (((T : Int) + 1) % 2 == 0) = true := by simp; omega
      have HV := Lib.hid (HODD.out h2)
      go_enter Try.func39, Try.ntmps39
      go_wp2_with (first | (go_at_call 15; refine (specSumIn_any _ _ _ _ _ hn hr).mono ?_; rintro e w' ⟨rfl, rfl⟩) | (go_at_call 46; refine HC.out.mono ?_; rintro e w1 ⟨g, c', rfl, hO, hB⟩))
      go_ret2
      exact ⟨by rw [HV.out]; rfl, hB⟩

end Go.Proofs.Ytepifkollhnmaaa
