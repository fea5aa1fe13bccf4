/- HalfSigned: contracts. -/
import Derived.Test.YtdkhgpcfbdekeaaCounts
import Derived.Test.YtdkhgpcfbdekeaaL1Counts
namespace Go.Proofs.Ytdkhgpcfbdekeaa
open Go.RowKit Go.Shelf

attribute [local go_sem] Oper.semAt_some

/-- For each v from 0 to T, how many of the choices that have come have twice their sum less T as v. -/
def signs (zs : List Int) (T : Nat) (pre : List (Ch zs.length)) : List Int := (List.range (T + 1)).map fun (v : Nat) => ((pre.filter fun x => decide (2 * cs zs x.1 zs.length - (T : Int) = (v : Int))).length : Int)
theorem signs_length (zs : List Int) (T : Nat) (pre : List (Ch zs.length)) : (signs zs T pre).length = T + 1 := by simp [signs]
theorem signs_get (zs : List Int) (T : Nat) (pre : List (Ch zs.length)) (v : Nat) (h : v ≤ T) : (signs zs T pre)[v]?.getD 0 = ((pre.filter fun x => decide (2 * cs zs x.1 zs.length - (T : Int) = (v : Int))).length : Int) := by
  simp [signs, Nat.lt_succ_of_le h]
theorem signs_nil (zs : List Int) (T : Nat) : signs zs T [] = List.replicate (T + 1) 0 := by
  apply List.ext_getElem
  · simp [signs]
  · intro i h1 h2; simp [signs]
theorem signs_bd (zs : List Int) (T : Nat) (pre : List (Ch zs.length)) (v : Nat) (h : v ≤ T) : 0 ≤ (signs zs T pre)[v]?.getD 0 ∧ (signs zs T pre)[v]?.getD 0 ≤ pre.length := by
  rw [signs_get zs T pre v h]
  have := List.length_filter_le (fun x : Ch zs.length => decide (2 * cs zs x.1 zs.length - (T : Int) = (v : Int))) pre
  omega
theorem signs_step (zs : List Int) (T : Nat) (pre : List (Ch zs.length)) (x : Ch zs.length) (m : Nat) (hm : 2 * cs zs x.1 zs.length - (T : Int) = (m : Int)) (h : m ≤ T) :
    (signs zs T pre).set m ((signs zs T pre)[m]?.getD 0 + 1) = signs zs T (pre ++ [x]) := by
  apply List.ext_getElem
  · simp [signs]
  · intro i h1 h2
    have hi : i < T + 1 := by simpa [signs] using h2
    have hg := signs_get zs T pre m h
    obtain ⟨y, hy⟩ : ∃ y, (signs zs T pre)[m]?.getD 0 = y := ⟨_, rfl⟩
    simp only [hy] at hg ⊢
    rw [List.getElem_set]
    by_cases e : m = i
    · subst e
      simp [signs, hm, hg]
    · have e2 : ¬ ((m : Int) = (i : Int)) := by omega
      simp [signs, hm, e, e2]
theorem signs_skip (zs : List Int) (T : Nat) (pre : List (Ch zs.length)) (x : Ch zs.length) (hm : 2 * cs zs x.1 zs.length - (T : Int) < 0) : signs zs T (pre ++ [x]) = signs zs T pre := by
  apply List.ext_getElem
  · simp [signs]
  · intro i h1 h2
    have e2 : ¬ (2 * cs zs x.1 zs.length - (T : Int) = (i : Int)) := by omega
    simp [signs, e2]
/-- What HalfSigned hands back. -/
def signAt (zs : List Int) (T v : Nat) : Int := if (T + v) % 2 = 0 then (cnt zs zs.length (((T + v) / 2 : Nat) : Int) : Int) else 0
def signTo (zs : List Int) (T k : Nat) : List Int := (List.range k).map fun v => signAt zs T v
theorem signTo_succ (zs : List Int) (T k : Nat) : signTo zs T (k + 1) = signTo zs T k ++ [signAt zs T k] := by simp [signTo, List.range_succ]
theorem signTo_length (zs : List Int) (T k : Nat) : (signTo zs T k).length = k := by simp [signTo]
theorem signs_firsts (zs : List Int) (T : Nat) : signs zs T (firsts zs.length (2 ^ zs.length) (Nat.le_refl _)) = signTo zs T (T + 1) := by
  unfold signs signTo
  apply List.map_congr_left
  intro v _
  unfold signAt
  split
  · rw [← chosen_all, ← filter_firsts zs _ (2 ^ zs.length) (Nat.le_refl _)]
    congr 3
    funext x
    congr 1
    rw [eq_iff_iff]; omega
  · have : ((firsts zs.length (2 ^ zs.length) (Nat.le_refl _)).filter fun x => decide (2 * cs zs x.1 zs.length - (T : Int) = (v : Int))) = [] := by
      rw [List.filter_eq_nil_iff]
      intro x _
      simp; omega
    rw [this]; rfl
def signedOf (zs : List Int) : List Int := if isIn zs then signTo zs (tot zs zs.length).toNat ((tot zs zs.length).toNat + 1) else []
theorem signedOf_out {zs : List Int} (h : isIn zs = false) : signedOf zs = [] := by unfold signedOf; rw [h]; rfl
theorem signedOf_in {zs : List Int} (h : isIn zs = true) : signedOf zs = signTo zs (tot zs zs.length).toNat ((tot zs zs.length).toNat + 1) := by unfold signedOf; rw [h]; rfl
theorem signedOf_len (zs : List Int) : (signedOf zs).length ≤ 601 := by
  cases h : isIn zs with
  | false => rw [signedOf_out h]; simp
  | true =>
    rw [signedOf_in h, signTo_length]
    have := (tot_bd h zs.length); have := isIn_len h; omega

set_option maxHeartbeats 1000000
theorem implHalfSigned_no (b off c : Nat) (zs : List Int) (w : World) (hn : zs.length ≤ 1152921504606846976) (hr : Row w b off zs) (hin : isIn zs = false) :
    Calls Try.prog 14 #[.slice (some ⟨b, off, none⟩) zs.length c] w fun e w' => ∃ g c', e = .returned (.tuple #[.slice (some ⟨g, 0, none⟩) (signedOf zs).length c', .bool (isIn zs)]) ∧ Owns w' w.heap.size g c' (signedOf zs) ∧ Below w.heap.size w w' := by
  rw [signedOf_out hin, hin]
  go_enter Try.func14, Try.ntmps14
  go_wp2_with (go_at_call 40; refine (implSumIn_any _ _ _ _ _ hn hr).mono ?_; rintro e w' ⟨rfl, rfl⟩)
  go_returns
  exact ⟨_, _, rfl, owns_empty w _ (Nat.le_refl _), by go_grown⟩

set_option maxRecDepth 100000 in
theorem implHalfSigned_yes (b off c : Nat) (zs : List Int) (w : World) (hr : Row w b off zs) (hin : isIn zs = true) :
    Calls Try.prog 14 #[.slice (some ⟨b, off, none⟩) zs.length c] w fun e w' => ∃ g c', e = .returned (.tuple #[.slice (some ⟨g, 0, none⟩) (signedOf zs).length c', .bool true]) ∧ Owns w' w.heap.size g c' (signedOf zs) ∧ Below w.heap.size w w' := by
  have hlen := isIn_len hin
  have hb := hr.1
  have htb := tot_bd hin zs.length
  obtain ⟨T, hT⟩ : ∃ T : Nat, tot zs zs.length = (T : Int) := ⟨(tot zs zs.length).toNat, by omega⟩
  have hT600 : T ≤ 600 := by omega
  rw [signedOf_in hin, hT, Int.toNat_natCast, signTo_length]
  have hmk := run_zeros (T + 1) ((T : Int) + 1) (by omega) (by omega)
  refine (callsIn_wide (n := 5)).1 ?_
  refine callsIn_of_wp_marks Try.func14 rfl trivial ?_ rfl
  simp only [Try.ntmps14, List.size_toArray, List.length_cons, List.length_nil, Nat.reduceAdd, Nat.reduceSub, Array.replicate_succ, Array.replicate_zero, List.push_toArray, List.append_toArray, List.nil_append, List.cons_append]
  gi_wp2_with (first | (refine ⟨trivial, ?_⟩; gi_at_call 40; refine (callsIn_wide.2 (implSumIn_any _ _ _ _ _ (by omega) hr)).mono ?_; rintro e w' ⟨rfl, rfl⟩) | (refine ⟨trivial, ?_⟩; gi_at_call 41; refine (callsIn_wide.2 (totalOf_any _ _ _ _ _ hin hr)).mono ?_; rw [hT]; rintro e w' ⟨rfl, rfl⟩) | (refine ⟨trivial, ?_⟩; gi_at_call 42; refine (callsIn_wide.2 (choiceSums_any _ _ _ _ _)).mono ?_; rintro e w' ⟨rfl, rfl⟩))
  clear hmk
  have bT := Boxed.new w 3 (.int .i64 (T : Int))
  have hr0 := hr.alloc (.cells #[.int .i64 (T : Int)] 3)
  have hB0 : Below w.heap.size w (w.alloc (.cells #[.int .i64 (T : Int)] 3)) := by go_grown
  have hz0' : (w.alloc (.cells #[.int .i64 (T : Int)] 3)).heap.size = w.heap.size + 1 := by simp
  generalize w.alloc (.cells #[.int .i64 (T : Int)] 3) = W0 at *
  have hO1 := owns_zeros W0 (w.heap.size + 1) (T + 1) (by omega) (by unfold maxLen; omega)
  rw [hz0'] at hO1
  have bT1 := bT.alloc (.cells (zeroCells (T + 1)) 3)
  have hr1 := hr0.alloc (.cells (zeroCells (T + 1)) 3)
  have hB1 := hB0.alloc (by omega) (.cells (zeroCells (T + 1)) 3)
  have hz1' : (W0.alloc (.cells (zeroCells (T + 1)) 3)).heap.size = w.heap.size + 1 + 1 := by simp [hz0']
  generalize W0.alloc (.cells (zeroCells (T + 1)) 3) = W1 at *
  have bF2 := Boxed.new W1 22 (.slice (some ⟨w.heap.size + 1, 0, none⟩) (T + 1) (T + 1))
  rw [hz1'] at bF2
  have bT2 := bT1.alloc (.cells #[.slice (some ⟨w.heap.size + 1, 0, none⟩) (T + 1) (T + 1)] 22)
  have hr2 := hr1.alloc (.cells #[.slice (some ⟨w.heap.size + 1, 0, none⟩) (T + 1) (T + 1)] 22)
  have hO2 := hO1.alloc (.cells #[.slice (some ⟨w.heap.size + 1, 0, none⟩) (T + 1) (T + 1)] 22)
  have hB2 := hB1.alloc (by omega) (.cells #[.slice (some ⟨w.heap.size + 1, 0, none⟩) (T + 1) (T + 1)] 22)
  have hz2' : (W1.alloc (.cells #[.slice (some ⟨w.heap.size + 1, 0, none⟩) (T + 1) (T + 1)] 22)).heap.size = w.heap.size + 1 + 1 + 1 := by simp [hz1']
  generalize W1.alloc (.cells #[.slice (some ⟨w.heap.size + 1, 0, none⟩) (T + 1) (T + 1)] 22) = W2 at *
  have bN := Boxed.new W2 22 (.slice (some ⟨b, off, none⟩) zs.length c)
  rw [hz2'] at bN
  have bF := bF2.alloc (.cells #[.slice (some ⟨b, off, none⟩) zs.length c] 22)
  have bT3 := bT2.alloc (.cells #[.slice (some ⟨b, off, none⟩) zs.length c] 22)
  have hr3 := hr2.alloc (.cells #[.slice (some ⟨b, off, none⟩) zs.length c] 22)
  have hO3 := hO2.alloc (.cells #[.slice (some ⟨b, off, none⟩) zs.length c] 22)
  have hB3 := hB2.alloc (by omega) (.cells #[.slice (some ⟨b, off, none⟩) zs.length c] 22)
  have hz3' : (W2.alloc (.cells #[.slice (some ⟨b, off, none⟩) zs.length c] 22)).heap.size = w.heap.size + 4 := by simp [hz2']
  generalize W2.alloc (.cells #[.slice (some ⟨b, off, none⟩) zs.length c] 22) = W3 at *
  clear bT bT1 bT2 bF2 hr0 hr1 hr2 hO1 hO2 hB0 hB1 hB2 hz0' hz1' hz2'
  rw [← signs_nil zs T] at hO3
  refine wpIn_rangeFunc_ownG rfl (by omega) (gf := 57) (lb := #[.pointer (some ⟨w.heap.size + 1 + 1 + 1, 0, none⟩)]) rfl trivial (enters_of Try.func57 (by kernel_rfl) rfl)
    (choices_stops 4 (by omega) (w.heap.size + 1 + 1 + 1) b off c zs hin W3 (by omega) bN.cell hr3) KeepsTwo.trans (keepsTwo_b (by omega) (by omega)) (Below.refl _ _) (fun _ => rfl)
    (fun pre W => (Boxed W w.heap.size 3 (.int .i64 (T : Int)) ∧ Boxed W (w.heap.size + 1 + 1) 22 (.slice (some ⟨w.heap.size + 1, 0, none⟩) (T + 1) (T + 1)) ∧ Owns W (w.heap.size + 1) (w.heap.size + 1) (T + 1) (signs zs T pre)) ∧ Below w.heap.size w W ∧ w.heap.size + 4 ≤ W.heap.size)
    (fun _ _ _ => False)
    (OwnFrom.and (Own.from (fun s A B row hs hg hr => ⟨boxed_own _ _ (fun _ => _) () A B row hs.1 hg hr, boxed_own _ _ (fun _ => _) () A B row hs.2.1 hg hr, owns_own _ _ _ (fun _ => _) () A B row hs.2.2 hg hr⟩) _) (OwnFrom.and (ownFrom_below (Nat.le_refl _) (by omega)) (fun _ A B row hs hg _ => Nat.le_trans hs hg.size)))
    (fun _ _ _ _ _ hs _ _ => hs)
    ⟨⟨bT3, bF, hO3⟩, hB3, by omega⟩
    (fun x => { tmps := #[.slice (some ⟨b, off, none⟩) zs.length c, undef, .slice none 0 0, .bool false, .pointer (some ⟨w.heap.size, 0, none⟩), .pointer (some ⟨w.heap.size + 1 + 1, 0, none⟩), undef, .int .i64 (cs zs x.1 zs.length), undef,
      .slice (some ⟨b, off, none⟩) zs.length c, .bool true, .bool false, undef, .slice (some ⟨b, off, none⟩) zs.length c, .int .i64 (T : Int), .int .i64 (T : Int), .int .i64 ((T : Int) + 1), .slice (some ⟨w.heap.size + 1, 0, none⟩) (T + 1) (T + 1), .slice (some ⟨b, off, none⟩) zs.length c,
      .func (.func 57) #[] #[.pointer (some ⟨w.heap.size + 1 + 1 + 1, 0, none⟩)], .int .i64 (x.1 : Int), .int .i64 (cs zs x.1 zs.length), undef, undef, undef, undef, undef, undef, undef, undef, undef, undef, undef, undef, undef], defers := [] }) ?assign ?body ?done ?stop
  case assign =>
    intro l x W K hK
    gi_wp2
    exact hK
  case body =>
    rintro l pre x W ⟨⟨hT', hF, hO⟩, hB, hsz⟩ hpl
    have hcT := hT'.cell
    have hcF := hF.cell
    have hpow : 2 ^ zs.length ≤ 1024 := Nat.pow_le_pow_right (n := 2) (by omega) hlen
    have hcs := cs_bd hin x.1 zs.length
    rw [hT] at hcs
    have hskip := signs_skip zs T pre x
    have hstep := signs_step zs T pre x
    obtain ⟨s, hs⟩ : ∃ s, cs zs x.1 zs.length = s := ⟨_, rfl⟩
    rw [hs] at hcs hskip hstep ⊢
    have HSK := Lib.hid hskip
    clear hs hskip
    by_cases hneg : 2 * s - (T : Int) < 0
    · clear hstep hT
      gi_wp2
      exact ⟨KeepsFrom.refl _ _, KeepsTwo.refl _ _ _, ⟨hT', hF, by rw [HSK.out hneg]; exact hO⟩, hB, hsz⟩
    · obtain ⟨m, hm⟩ : ∃ m : Nat, 2 * s - (T : Int) = (m : Int) := ⟨(2 * s - (T : Int)).toNat, by omega⟩
      have hmT : m ≤ T := by omega
      have hstep := hstep m hm hmT
      have htb := signs_bd zs T pre m hmT
      have hcell := hO.row.2 m (by rw [signs_length]; omega)
      rw [Nat.zero_add] at hcell
      have hfree := hO.free m
      have hset := hO.set_ m ((signs zs T pre)[m]?.getD 0 + 1)
      rw [hstep] at hset
      obtain ⟨y, hy⟩ : ∃ y, (signs zs T pre)[m]?.getD 0 = y := ⟨_, rfl⟩
      rw [hy] at hcell htb hset
      have HSET := Lib.hid hset
      have HGR := Lib.hid (grown_set W (w.heap.size + 1) m (.int .i64 (y + 1)))
      clear hset hstep hy hO hT hneg
      gi_wp2
      exact ⟨(KeepsOthers.setCell _ _ _).from _, KeepsTwo.grown HGR.out (by omega) (by omega) (by omega) (by omega), ⟨hT'.kept HGR.out (by simp), hF.kept HGR.out (by simp), HSET.out⟩, below_wrote hB HGR.out (by omega) (by omega), by have := HGR.out.size; omega⟩
  case done =>
    rintro D ys W hD rfl ⟨⟨hT', hF, hO⟩, hB, _⟩ hK
    rw [signs_firsts zs T] at hO
    have hcF := hF.cell
    gi_wp2
    refine ⟨by simp, .inl ⟨_, _, rfl, run_takeDeferred hK, ?_⟩⟩
    exact ⟨_, results_tmp2 rfl _ _ _, _, _, rfl, (hO.base (by omega)).putD hK _, below_putD hB (by omega) hK _⟩
  case stop =>
    rintro D cd pre W _ _ h _
    exact h.elim

theorem implHalfSigned_any (b off c : Nat) (zs : List Int) (w : World) (hn : zs.length ≤ 1152921504606846976) (hr : Row w b off zs) :
    Calls Try.prog 14 #[.slice (some ⟨b, off, none⟩) zs.length c] w fun e w' => ∃ g c', e = .returned (.tuple #[.slice (some ⟨g, 0, none⟩) (signedOf zs).length c', .bool (isIn zs)]) ∧ Owns w' w.heap.size g c' (signedOf zs) ∧ Below w.heap.size w w' := by
  cases hin : isIn zs with
  | false => rw [← hin]; exact implHalfSigned_no b off c zs w hn hr hin
  | true => exact implHalfSigned_yes b off c zs w hr hin

theorem specHalfSigned_any (b off c : Nat) (zs : List Int) (w : World) (hn : zs.length ≤ 1152921504606846976) (hr : Row w b off zs) :
    Calls Try.prog 12 #[.slice (some ⟨b, off, none⟩) zs.length c] w fun e w' => ∃ g c', e = .returned (.tuple #[.slice (some ⟨g, 0, none⟩) (signedOf zs).length c', .bool (isIn zs)]) ∧ Owns w' w.heap.size g c' (signedOf zs) ∧ Below w.heap.size w w' := by
  obtain ⟨i0, hi, hz0, hz1, hz2⟩ := info_parts info_int
  cases hin : isIn zs with
  | false =>
    rw [signedOf_out hin]
    go_enter Try.func12, Try.ntmps12
    go_wp2_with (go_at_call 38; refine (specSumIn_any _ _ _ _ _ hn (hr.alloc _)).mono ?_; rintro e w' ⟨rfl, rfl⟩)
    go_ret2
    exact ⟨_, _, rfl, owns_empty _ _ (Nat.le_refl _), by go_grown⟩
  | true =>
    have hC := l1Counts_any b off c zs (w.alloc (.cells #[] 3)) hin (hr.alloc _)
    have htb := tot_bd hin zs.length
    have hlen := isIn_len hin
    obtain ⟨T, hT⟩ : ∃ T : Nat, tot zs zs.length = (T : Int) := ⟨(tot zs zs.length).toNat, by omega⟩
    have hT600 : T ≤ 600 := by omega
    rw [signedOf_in hin, hT, Int.toNat_natCast, signTo_length]
    have hl : (counts zs).length = T + 1 := by unfold counts; rw [countsTo_length, hT]; rfl
    have hget : ∀ v : Nat, v ≤ T → (T + v) % 2 = 0 → (counts zs)[(T + v) / 2]?.getD 0 = signAt zs T v := fun v hv h => by
      unfold counts signAt
      rw [countsTo_getD zs zs.length ((T + v) / 2) (by rw [hT]; simp; omega), if_pos h]
    have hodd : ∀ v : Nat, ¬ (T + v) % 2 = 0 → signAt zs T v = 0 := fun v h => by unfold signAt; rw [if_neg h]
    obtain ⟨C, hCd⟩ : ∃ C, counts zs = C := ⟨_, rfl⟩
    rw [hCd] at hC hl hget
    rw [hl] at hC
    have HC := Lib.hid hC
    have HL := Lib.hid hl
    have HGET := Lib.hid hget
    have HODD := Lib.hid hodd
    clear hC hCd hT hl hget hodd
    go_enter Try.func12, Try.ntmps12
    go_wp2_with (first | (go_at_call 38; refine (specSumIn_any _ _ _ _ _ hn (hr.alloc _)).mono ?_; rintro e w' ⟨rfl, rfl⟩) | (go_at_call 39; refine HC.out.mono ?_; rintro e w1 ⟨g, c', rfl, hO, hB⟩))
    clear hin
    have hE := (owns_empty w w.heap.size (Nat.le_refl _)).behind hB
    have hBw : Below w.heap.size w w1 := ((Below.refl w.heap.size w).alloc (Nat.le_refl _) _).trans (hB.mono (by simp))
    have hg1 : g ≠ w.heap.size := by have := hO.ge; simp at this; omega
    have HO := Lib.hid hO.row
    have HE := Lib.hid hE
    have hgl := hO.lt
    have hszw := hBw.size
    clear hO hE hB
    go_loopw [7, 4] (fun i o wr => ∃ k g2 c2 : Nat, k ≤ T + 1 ∧ i = .int .i64 k ∧ o = .slice (some ⟨g2, 0, none⟩) k c2 ∧ Owns wr w.heap.size g2 c2 (signTo zs T k) ∧ Row wr g 0 C ∧ g ≠ g2 ∧ Below w.heap.size w wr) (fun i _ _ => T + 1 - (intOf i).toNat)
    case atStart => exact ⟨0, _, _, Nat.zero_le _, rfl, rfl, HE.out, HO.out, hg1, hBw⟩
    case round =>
      clear HE HO hBw hgl
      obtain ⟨k, g2, c2, hk, rfl, rfl, hR, hO, hne, hB1⟩ := hrel
      by_cases hlt : k ≤ T
      · have hgl := hO.1
        have hlk := signTo_length zs T k
        have hsucc := signTo_succ zs T k
        obtain ⟨x, hx⟩ : ∃ x, signAt zs T k = x := ⟨_, rfl⟩
        obtain ⟨L, hLd⟩ : ∃ L, signTo zs T k = L := ⟨_, rfl⟩
        rw [hLd] at hsucc hlk hR
        rw [hx] at hsucc
        have hR' : wr.ownsRow w.heap.size 3 1 (.slice (some ⟨g2, 0, none⟩) k c2) k (L.map (Value.int .i64)) := by
          have h : wr.ownsRow w.heap.size 3 1 (.slice (some ⟨g2, 0, none⟩) L.length c2) L.length (L.map (Value.int .i64)) := hR
          rwa [hlk] at h
        have HX := Lib.hid hx
        have HSU := Lib.hid hsucc
        have HLK := Lib.hid hlk
        clear hx hsucc hLd hlk
        by_cases h2 : (T + k) % 2 = 0
        · have hcell := hO.2 ((T + k) / 2) (by rw [HL.out]; omega)
          rw [Nat.zero_add, HGET.out k hlt h2, HX.out] at hcell
          have hq : (((T : Int) + (k : Int)) % 2 == 0) = true := by simp; omega
          go_wp2_with (at_builtin; refine wpList_append_own_at _ rfl _ _ 22 rfl w.heap.size 3 i0 (.int .i64 0) 1 8 Try.underlying22 hi hz0 hz1 hz2 rfl (by decide) _ _ _ rfl (hR'.alloc _) ⟨wr.heap.size, 0, none⟩ 1 1 [.int .i64 x] rfl rfl (cell_one_new _ _ _) (by simp [Value.oneCell']) (by unfold maxLen; omega) (by omega) (by have := hB1.size; simp; omega) ?_; intro v' w2 hown' hgrow _ hat)
          have hO2 : Row w2 g 0 C := (hO.alloc (.cells #[.int .i64 x] 3)).grown (g := g2) hgrow hne
          rw [← HLK.out] at hown'
          obtain ⟨g3, c3, rfl, hO3, hB3⟩ := owns_appended hR hown' hgrow hB1 (Nat.le_refl _) hB1.size
          have hne3 : g ≠ g3 := by
            rcases hat with h | h
            · have h' : g3 = g2 := Option.some.inj (show some g3 = some g2 from h)
              omega
            · have h' : g3 = (wr.alloc (.cells #[.int .i64 x] 3)).heap.size := Option.some.inj (show some g3 = some _ from h)
              rw [World.size_alloc] at h'
              omega
          refine ⟨⟨k + 1, g3, c3, by omega, by go_num, by rw [HLK.out], by rw [HSU.out]; exact hO3, hO2, hne3, hB3⟩, by simp [intOf]; omega⟩
        · have hx0 : x = 0 := HX.out.symm.trans (HODD.out k h2)
          subst hx0
          have hq : (((T : Int) + (k : Int)) % 2 == 0) = false := by simp; omega
          go_wp2_with (at_builtin; refine wpList_append_own_at _ rfl _ _ 22 rfl w.heap.size 3 i0 (.int .i64 0) 1 8 Try.underlying22 hi hz0 hz1 hz2 rfl (by decide) _ _ _ rfl (hR'.alloc _) ⟨wr.heap.size, 0, none⟩ 1 1 [.int .i64 0] rfl rfl (cell_one_new _ _ _) (by simp [Value.oneCell']) (by unfold maxLen; omega) (by omega) (by have := hB1.size; simp; omega) ?_; intro v' w2 hown' hgrow _ hat)
          have hO2 : Row w2 g 0 C := (hO.alloc (.cells #[.int .i64 0] 3)).grown (g := g2) hgrow hne
          rw [← HLK.out] at hown'
          obtain ⟨g3, c3, rfl, hO3, hB3⟩ := owns_appended hR hown' hgrow hB1 (Nat.le_refl _) hB1.size
          have hne3 : g ≠ g3 := by
            rcases hat with h | h
            · have h' : g3 = g2 := Option.some.inj (show some g3 = some g2 from h)
              omega
            · have h' : g3 = (wr.alloc (.cells #[.int .i64 0] 3)).heap.size := Option.some.inj (show some g3 = some _ from h)
              rw [World.size_alloc] at h'
              omega
          refine ⟨⟨k + 1, g3, c3, by omega, by go_num, by rw [HLK.out], by rw [HSU.out]; exact hO3, hO2, hne3, hB3⟩, by simp [intOf]; omega⟩
      · obtain rfl : k = T + 1 := by omega
        go_wp2
        go_ret2
        exact ⟨_, _, rfl, hR, hB1⟩

end Go.Proofs.Ytdkhgpcfbdekeaa
