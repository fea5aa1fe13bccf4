/- SumCounts of the program: its contract. -/
import Derived.Test.YtbechpbfefdmgaaChoice
import Derived.Handy
import Derived.Maps.AppendAt
namespace Go.Proofs.Ytbechpbfefdmgaa
open Go.RowKit Go.Shelf

attribute [local go_sem] Oper.semAt_some

/-- For each number from 0 to T, how many of the choices that have come have it as their sum. -/
def tally (zs : List Int) (T : Nat) (pre : List (Ch zs.length)) : List Int := (List.range (T + 1)).map fun (v : Nat) => ((pre.filter fun x => decide (cs zs x.1 zs.length = (v : Int))).length : Int)
theorem tally_length (zs : List Int) (T : Nat) (pre : List (Ch zs.length)) : (tally zs T pre).length = T + 1 := by simp [tally]
theorem tally_get (zs : List Int) (T : Nat) (pre : List (Ch zs.length)) (v : Nat) (h : v ≤ T) : (tally zs T pre)[v]?.getD 0 = ((pre.filter fun x => decide (cs zs x.1 zs.length = (v : Int))).length : Int) := by
  simp [tally, Nat.lt_succ_of_le h]
theorem tally_nil (zs : List Int) (T : Nat) : tally zs T [] = List.replicate (T + 1) 0 := by
  apply List.ext_getElem
  · simp [tally]
  · intro i h1 h2; simp [tally]
theorem tally_bd (zs : List Int) (T : Nat) (pre : List (Ch zs.length)) (v : Nat) (h : v ≤ T) : 0 ≤ (tally zs T pre)[v]?.getD 0 ∧ (tally zs T pre)[v]?.getD 0 ≤ pre.length := by
  rw [tally_get zs T pre v h]
  have := List.length_filter_le (fun x : Ch zs.length => decide (cs zs x.1 zs.length = (v : Int))) pre
  omega
theorem tally_step (zs : List Int) (T : Nat) (pre : List (Ch zs.length)) (x : Ch zs.length) (m : Nat) (hm : cs zs x.1 zs.length = (m : Int)) (h : m ≤ T) :
    (tally zs T pre).set m ((tally zs T pre)[m]?.getD 0 + 1) = tally zs T (pre ++ [x]) := by
  apply List.ext_getElem
  · simp [tally]
  · intro i h1 h2
    have hi : i < T + 1 := by simpa [tally] using h2
    have hg := tally_get zs T pre m h
    obtain ⟨y, hy⟩ : ∃ y, (tally zs T pre)[m]?.getD 0 = y := ⟨_, rfl⟩
    simp only [hy] at hg ⊢
    rw [List.getElem_set]
    by_cases e : m = i
    · subst e
      simp [tally, hm, hg]
    · have e2 : ¬ ((m : Int) = (i : Int)) := by omega
      simp [tally, hm, e, e2]
theorem filter_firsts (zs : List Int) (v : Int) (k : Nat) (h : k ≤ 2 ^ zs.length) : ((firsts zs.length k h).filter fun x => decide (cs zs x.1 zs.length = v)).length = chosen zs zs.length k v := by
  induction k with
  | zero => simp [firsts, chosen]
  | succ k ih =>
    rw [firsts_succ, List.filter_append, List.length_append, ih]
    simp only [chosen]
    by_cases e : cs zs k zs.length = v <;> simp [e]
theorem tally_firsts (zs : List Int) (T : Nat) (hT : T = (tot zs zs.length).toNat) : tally zs T (firsts zs.length (2 ^ zs.length) (Nat.le_refl _)) = counts zs := by
  unfold tally counts countsTo
  rw [hT]
  apply List.map_congr_left
  intro v _
  rw [filter_firsts, chosen_all]

def countsOf (zs : List Int) : List Int := if isIn zs then counts zs else []
theorem countsOf_out {zs : List Int} (h : isIn zs = false) : countsOf zs = [] := by unfold countsOf; rw [h]; rfl
theorem countsOf_in {zs : List Int} (h : isIn zs = true) : countsOf zs = counts zs := by unfold countsOf; rw [h]; rfl
theorem countsOf_len (zs : List Int) : (countsOf zs).length ≤ 601 := by
  cases h : isIn zs with
  | false => rw [countsOf_out h]; simp
  | true =>
    rw [countsOf_in h]
    unfold counts
    rw [countsTo_length]
    have := (tot_bd h zs.length); have := isIn_len h; omega

set_option maxHeartbeats 1000000
theorem implSumCounts_no (b off c : Nat) (zs : List Int) (w : World) (hn : zs.length ≤ 1152921504606846976) (hr : Row w b off zs) (hin : isIn zs = false) :
    Calls Try.prog 20 #[.slice (some ⟨b, off, none⟩) zs.length c] w fun e w' => ∃ g c', e = .returned (.tuple #[.slice (some ⟨g, 0, none⟩) (countsOf zs).length c', .bool (isIn zs)]) ∧ Owns w' w.heap.size g c' (countsOf zs) ∧ Below w.heap.size w w' := by
  rw [countsOf_out hin, hin]
  go_enter Try.func20, Try.ntmps20
  go_wp2_with (go_at_call 35; refine (implSumIn_any _ _ _ _ _ hn hr).mono ?_; rintro e w' ⟨rfl, rfl⟩)
  go_returns
  exact ⟨_, _, rfl, owns_empty w _ (Nat.le_refl _), by go_grown⟩

set_option maxRecDepth 100000 in
theorem implSumCounts_yes (b off c : Nat) (zs : List Int) (w : World) (hr : Row w b off zs) (hin : isIn zs = true) :
    Calls Try.prog 20 #[.slice (some ⟨b, off, none⟩) zs.length c] w fun e w' => ∃ g c', e = .returned (.tuple #[.slice (some ⟨g, 0, none⟩) (counts zs).length c', .bool true]) ∧ Owns w' w.heap.size g c' (counts zs) ∧ Below w.heap.size w w' := by
  have hlen := isIn_len hin
  have hb := hr.1
  have htb := tot_bd hin zs.length
  obtain ⟨T, hT⟩ : ∃ T : Nat, tot zs zs.length = (T : Int) := ⟨(tot zs zs.length).toNat, by omega⟩
  have hT600 : T ≤ 600 := by omega
  have HT : Hid (T = (tot zs zs.length).toNat) := Lib.hid (by omega)
  have hmk := run_zeros (T + 1) ((T : Int) + 1) (by omega) (by omega)
  refine (callsIn_wide (n := 5)).1 ?_
  refine callsIn_of_wp_marks Try.func20 rfl trivial ?_ rfl
  simp only [Try.ntmps20, List.size_toArray, List.length_cons, List.length_nil, Nat.reduceAdd, Nat.reduceSub, Array.replicate_succ, Array.replicate_zero, List.push_toArray, List.append_toArray, List.nil_append, List.cons_append]
  gi_wp2_with (first | (refine ⟨trivial, ?_⟩; gi_at_call 35; refine (callsIn_wide.2 (implSumIn_any _ _ _ _ _ (by omega) hr)).mono ?_; rintro e w' ⟨rfl, rfl⟩) | (refine ⟨trivial, ?_⟩; gi_at_call 39; refine (callsIn_wide.2 (totalOf_any _ _ _ _ _ hin hr)).mono ?_; rw [hT]; rintro e w' ⟨rfl, rfl⟩) | (refine ⟨trivial, ?_⟩; gi_at_call 40; refine (callsIn_wide.2 (choiceSums_any _ _ _ _ _)).mono ?_; rintro e w' ⟨rfl, rfl⟩))
  clear hmk
  have hO1 := owns_zeros w w.heap.size (T + 1) (Nat.le_refl _) (by unfold maxLen; omega)
  have hr1 := hr.alloc (.cells (zeroCells (T + 1)) 3)
  have hB1 : Below w.heap.size w (w.alloc (.cells (zeroCells (T + 1)) 3)) := by go_grown
  have hz1' : (w.alloc (.cells (zeroCells (T + 1)) 3)).heap.size = w.heap.size + 1 := by simp
  generalize w.alloc (.cells (zeroCells (T + 1)) 3) = W1 at *
  have bF2 := Boxed.new W1 22 (.slice (some ⟨w.heap.size, 0, none⟩) (T + 1) (T + 1))
  rw [hz1'] at bF2
  have hr2 := hr1.alloc (.cells #[.slice (some ⟨w.heap.size, 0, none⟩) (T + 1) (T + 1)] 22)
  have hO2 := hO1.alloc (.cells #[.slice (some ⟨w.heap.size, 0, none⟩) (T + 1) (T + 1)] 22)
  have hB2 := hB1.alloc (by omega) (.cells #[.slice (some ⟨w.heap.size, 0, none⟩) (T + 1) (T + 1)] 22)
  have hz2' : (W1.alloc (.cells #[.slice (some ⟨w.heap.size, 0, none⟩) (T + 1) (T + 1)] 22)).heap.size = w.heap.size + 1 + 1 := by simp [hz1']
  generalize W1.alloc (.cells #[.slice (some ⟨w.heap.size, 0, none⟩) (T + 1) (T + 1)] 22) = W2 at *
  have bN := Boxed.new W2 22 (.slice (some ⟨b, off, none⟩) zs.length c)
  rw [hz2'] at bN
  have bF := bF2.alloc (.cells #[.slice (some ⟨b, off, none⟩) zs.length c] 22)
  have hr3 := hr2.alloc (.cells #[.slice (some ⟨b, off, none⟩) zs.length c] 22)
  have hO3 := hO2.alloc (.cells #[.slice (some ⟨b, off, none⟩) zs.length c] 22)
  have hB3 := hB2.alloc (by omega) (.cells #[.slice (some ⟨b, off, none⟩) zs.length c] 22)
  have hz3' : (W2.alloc (.cells #[.slice (some ⟨b, off, none⟩) zs.length c] 22)).heap.size = w.heap.size + 3 := by simp [hz2']
  generalize W2.alloc (.cells #[.slice (some ⟨b, off, none⟩) zs.length c] 22) = W3 at *
  clear bF2 hr1 hr2 hO1 hO2 hB1 hB2 hz1' hz2'
  rw [← tally_nil zs T] at hO3
  refine wpIn_rangeFunc_ownG rfl (by omega) (gf := 52) (lb := #[.pointer (some ⟨w.heap.size + 1 + 1, 0, none⟩)]) rfl trivial (enters_of Try.func52 (by kernel_rfl) rfl)
    (choices_stops 4 (by omega) (w.heap.size + 1 + 1) b off c zs hin W3 (by omega) bN.cell hr3) KeepsTwo.trans (keepsTwo_b (by omega) (by omega)) (Below.refl _ _) (fun _ => rfl)
    (fun pre W => (Boxed W (w.heap.size + 1) 22 (.slice (some ⟨w.heap.size, 0, none⟩) (T + 1) (T + 1)) ∧ Owns W w.heap.size w.heap.size (T + 1) (tally zs T pre)) ∧ Below w.heap.size w W ∧ w.heap.size + 3 ≤ W.heap.size)
    (fun _ _ _ => False)
    (OwnFrom.and (Own.from (fun s A B row hs hg hr => ⟨boxed_own _ _ (fun _ => _) () A B row hs.1 hg hr, owns_own _ _ _ (fun _ => _) () A B row hs.2 hg hr⟩) _) (OwnFrom.and (ownFrom_below (Nat.le_refl _) (by omega)) (fun _ A B row hs hg _ => Nat.le_trans hs hg.size)))
    (fun _ _ _ _ _ hs _ _ => hs)
    ⟨⟨bF, hO3⟩, hB3, by omega⟩
    (fun x => { tmps := #[.slice (some ⟨b, off, none⟩) zs.length c, undef, .slice none 0 0, .bool false, .pointer (some ⟨w.heap.size + 1, 0, none⟩), undef, .int .i64 (cs zs x.1 zs.length),
      .slice (some ⟨b, off, none⟩) zs.length c, .bool true, .bool false, undef, .slice (some ⟨b, off, none⟩) zs.length c, .int .i64 (T : Int), .int .i64 ((T : Int) + 1), .slice (some ⟨w.heap.size, 0, none⟩) (T + 1) (T + 1), .slice (some ⟨b, off, none⟩) zs.length c,
      .func (.func 52) #[] #[.pointer (some ⟨w.heap.size + 1 + 1, 0, none⟩)], .int .i64 (x.1 : Int), .int .i64 (cs zs x.1 zs.length), undef, undef, undef, undef, undef, undef, undef], defers := [] }) ?assign ?body ?done ?stop
  case assign =>
    intro l x W K hK
    gi_wp2
    exact hK
  case body =>
    rintro l pre x W ⟨⟨hF, hO⟩, hB, hsz⟩ hpl
    have hcF := hF.cell
    have hx2 := x.2
    have hpow : 2 ^ zs.length ≤ 1024 := Nat.pow_le_pow_right (n := 2) (by omega) hlen
    have hcs := cs_bd hin x.1 zs.length
    obtain ⟨m, hm⟩ : ∃ m : Nat, cs zs x.1 zs.length = (m : Int) := ⟨(cs zs x.1 zs.length).toNat, by omega⟩
    have hmT : m ≤ T := by omega
    have hstep := tally_step zs T pre x m hm hmT
    have htb := tally_bd zs T pre m hmT
    have hcell := hO.row.2 m (by rw [tally_length]; omega)
    rw [Nat.zero_add] at hcell
    have hfree := hO.free m
    have hset := hO.set_ m ((tally zs T pre)[m]?.getD 0 + 1)
    rw [hstep] at hset
    obtain ⟨y, hy⟩ : ∃ y, (tally zs T pre)[m]?.getD 0 = y := ⟨_, rfl⟩
    rw [hy] at hcell htb hset
    rw [hm]
    have HSET := Lib.hid hset
    have HGR := Lib.hid (grown_set W w.heap.size m (.int .i64 (y + 1)))
    clear hset hstep hy hm hcs hO hT
    gi_wp2
    exact ⟨(KeepsOthers.setCell _ _ _).from _, KeepsTwo.grown HGR.out (by omega) (by omega) (by omega) (by omega), ⟨hF.kept HGR.out (by simp), HSET.out⟩, below_wrote hB HGR.out (by omega) (Nat.le_refl _), by have := HGR.out.size; omega⟩
  case done =>
    rintro D ys W hD rfl ⟨⟨hF, hO⟩, hB, _⟩ hK
    rw [tally_firsts zs T HT.out] at hO
    have hcF := hF.cell
    have hlc : (counts zs).length = T + 1 := by unfold counts; rw [countsTo_length, ← HT.out]
    gi_wp2
    refine ⟨by simp, .inl ⟨_, _, rfl, run_takeDeferred hK, ?_⟩⟩
    exact ⟨_, results_tmp2 rfl _ _ _, _, _, by rw [hlc]; rfl, hO.putD hK _, below_putD hB (by omega) hK _⟩
  case stop =>
    rintro D cd pre W _ _ h _
    exact h.elim

theorem implSumCounts_any (b off c : Nat) (zs : List Int) (w : World) (hn : zs.length ≤ 1152921504606846976) (hr : Row w b off zs) :
    Calls Try.prog 20 #[.slice (some ⟨b, off, none⟩) zs.length c] w fun e w' => ∃ g c', e = .returned (.tuple #[.slice (some ⟨g, 0, none⟩) (countsOf zs).length c', .bool (isIn zs)]) ∧ Owns w' w.heap.size g c' (countsOf zs) ∧ Below w.heap.size w w' := by
  cases hin : isIn zs with
  | false => rw [← hin]; exact implSumCounts_no b off c zs w hn hr hin
  | true => rw [countsOf_in hin]; exact implSumCounts_yes b off c zs w hr hin

end Go.Proofs.Ytbechpbfefdmgaa
