/- HalfChoice of the program: its contract. -/
import Derived.Test.YtdkhgpcfbdekeaaChoice
import Derived.Test.YtdkhgpcfbdekeaaHalfBest
namespace Go.Proofs.Ytdkhgpcfbdekeaa
open Go.RowKit Go.Shelf

attribute [local go_sem] Oper.semAt_some

theorem arg_is {zs : List Int} {k : Nat} (h : restV zs k = restV zs (halfArg zs)) (h0 : ∀ j, j < k → restV zs j ≠ restV zs (halfArg zs)) : k = halfArg zs := by
  rcases Nat.lt_trichotomy k (halfArg zs) with h1 | h1 | h1
  · have := argTo_first (restV zs) (2 ^ zs.length) k h1
    unfold halfArg at h
    omega
  · exact h1
  · exact absurd rfl (h0 _ h1)

set_option maxHeartbeats 2000000
theorem implHalfChoice_no (b off c : Nat) (zs : List Int) (w : World) (hn : zs.length ≤ 1152921504606846976) (hr : Row w b off zs) (hin : isIn zs = false) :
    Calls Try.prog 23 #[.slice (some ⟨b, off, none⟩) zs.length c] w fun e w' => e = .returned (.tuple #[.int .i64 (halfChoiceV zs), .bool (isIn zs)]) ∧ Below w.heap.size w w' := by
  rw [halfChoiceV_out hin]
  have hH := implHalfBest_any b off c zs ((w.alloc (.cells #[.int .i64 0] 3)).alloc (.cells #[.bool false] 4)) hn ((hr.alloc _).alloc _)
  rw [hin] at hH ⊢
  have HH := Lib.hid hH
  clear hH hin
  go_enter Try.func23, Try.ntmps23
  go_wp2_with fail
  refine HH.out.mono ?_
  rintro e w1 ⟨rfl, hB⟩
  have hB2 : Below w.heap.size w w1 := Below.trans (by go_grown) (hB.mono (by simp; omega))
  have bR := (((Boxed.new w 3 (.int .i64 0)).alloc (.cells #[.bool false] 4)))
  have bQ := Boxed.new (w.alloc (.cells #[.int .i64 0] 3)) 4 (.bool false)
  have bR1 : Boxed w1 w.heap.size 3 (.int .i64 0) := (hB.block _ (by simp; omega)).trans bR
  have bQ1 : Boxed w1 (w.heap.size + 1) 4 (.bool false) := by rw [World.size_alloc] at bQ; exact (hB.block _ (by simp)).trans bQ
  have hz := bQ1.lt
  have c1 := fun o => (bR1.alloc o).cell
  have c2 := fun o => (bQ1.alloc o).cell
  have c3 := fun o => (bR1.alloc o).frozen
  have c4 := fun o => (bQ1.alloc o).frozen
  clear bR bQ
  go_wp2
  have f5 := (((bR1.alloc (.cells #[.int .i64 (halfBestV zs)] 3)).set (.int .i64 0)).other (B' := w.heap.size + 1) (by omega) (.bool false)).cell
  have f6 := (((bQ1.alloc (.cells #[.int .i64 (halfBestV zs)] 3)).other (B' := w.heap.size) (by omega) (.int .i64 0)).set (.bool false)).cell
  refine bodyPost_ret (v := .tuple #[.int .i64 0, .bool false]) (by simp [results, Try.f23, go_sem, f5, f6]) rfl ⟨rfl, ?_⟩
  exact ((hB2.alloc hB2.size _).setCell (p := ⟨w.heap.size, 0, none⟩) (Nat.le_refl _) _).setCell (p := ⟨w.heap.size + 1, 0, none⟩) (by simp) _

set_option maxRecDepth 100000 in
theorem implHalfChoice_yes (b off c : Nat) (zs : List Int) (w : World) (hn : zs.length ≤ 1152921504606846976) (hr : Row w b off zs) (hin : isIn zs = true) :
    Calls Try.prog 23 #[.slice (some ⟨b, off, none⟩) zs.length c] w fun e w' => e = .returned (.tuple #[.int .i64 (halfChoiceV zs), .bool true]) ∧ Below w.heap.size w w' := by
  rw [halfChoiceV_in hin]
  have hlen := isIn_len hin
  have hb := hr.1
  have htb := tot_bd hin zs.length
  have hH := implHalfBest_any b off c zs ((w.alloc (.cells #[.int .i64 0] 3)).alloc (.cells #[.bool false] 4)) hn ((hr.alloc _).alloc _)
  rw [hin, halfBestV_in hin] at hH
  have HH := Lib.hid hH
  obtain ⟨V, hV⟩ : ∃ V, restV zs (halfArg zs) = V := ⟨_, rfl⟩
  have hVb := restV_bd hin (halfArg zs)
  rw [hV] at hH hVb
  replace HH := Lib.hid hH
  obtain ⟨T, hT⟩ : ∃ T, tot zs zs.length = T := ⟨_, rfl⟩
  rw [hT] at htb
  have HT := Lib.hid hT
  have HV := Lib.hid hV
  clear hH hV
  refine (callsIn_wide (n := 5)).1 ?_
  refine callsIn_of_wp_marks Try.func23 rfl trivial ?_ rfl
  simp only [Try.ntmps23, List.size_toArray, List.length_cons, List.length_nil, Nat.reduceAdd, Nat.reduceSub, Array.replicate_succ, Array.replicate_zero, List.push_toArray, List.append_toArray, List.nil_append, List.cons_append]
  gi_wp2_with fail
  refine ⟨trivial, ?_⟩
  refine (callsIn_wide.2 HH.out).mono ?_
  rintro e w1 ⟨rfl, hB⟩
  have hB2 : Below w.heap.size w w1 := Below.trans (by go_grown) (hB.mono (by simp; omega))
  have bR := (((Boxed.new w 3 (.int .i64 0)).alloc (.cells #[.bool false] 4)))
  have bQ := Boxed.new (w.alloc (.cells #[.int .i64 0] 3)) 4 (.bool false)
  have bR1 : Boxed w1 w.heap.size 3 (.int .i64 0) := (hB.block _ (by simp; omega)).trans bR
  have bQ1 : Boxed w1 (w.heap.size + 1) 4 (.bool false) := by rw [World.size_alloc] at bQ; exact (hB.block _ (by simp)).trans bQ
  have hz := bQ1.lt
  have hrr := hr.behind hB2
  clear bR bQ hB HH
  clear hT
  gi_wp2_with (first | (refine ⟨trivial, ?_⟩; gi_at_call 41; refine (callsIn_wide.2 (totalOf_any _ _ _ _ _ hin (hrr.alloc _))).mono ?_; rw [HT.out]; rintro e w' ⟨rfl, rfl⟩) | (refine ⟨trivial, ?_⟩; gi_at_call 42; refine (callsIn_wide.2 (choiceSums_any _ _ _ _ _)).mono ?_; rintro e w' ⟨rfl, rfl⟩))
  have bV := Boxed.new w1 3 (.int .i64 V)
  have hz1' : (w1.alloc (.cells #[.int .i64 V] 3)).heap.size = w1.heap.size + 1 := by simp
  have bR2 := bR1.alloc (.cells #[.int .i64 V] 3)
  have bQ2 := bQ1.alloc (.cells #[.int .i64 V] 3)
  have hr2 := hrr.alloc (.cells #[.int .i64 V] 3)
  have hB3 := hB2.alloc hB2.size (.cells #[.int .i64 V] 3)
  generalize w1.alloc (.cells #[.int .i64 V] 3) = W1 at *
  have bT := Boxed.new W1 3 (.int .i64 T)
  have hz2' : (W1.alloc (.cells #[.int .i64 T] 3)).heap.size = w1.heap.size + 1 + 1 := by simp [hz1']
  rw [hz1'] at bT
  have bR3 := bR2.alloc (.cells #[.int .i64 T] 3)
  have bQ3 := bQ2.alloc (.cells #[.int .i64 T] 3)
  have bV3 := bV.alloc (.cells #[.int .i64 T] 3)
  have hr3 := hr2.alloc (.cells #[.int .i64 T] 3)
  have hB4 := hB3.alloc (by omega) (.cells #[.int .i64 T] 3)
  generalize W1.alloc (.cells #[.int .i64 T] 3) = W2 at *
  have bN := Boxed.new W2 22 (.slice (some ⟨b, off, none⟩) zs.length c)
  have hz3' : (W2.alloc (.cells #[.slice (some ⟨b, off, none⟩) zs.length c] 22)).heap.size = w1.heap.size + 3 := by simp [hz2']
  rw [hz2'] at bN
  have bR4 := bR3.alloc (.cells #[.slice (some ⟨b, off, none⟩) zs.length c] 22)
  have bQ4 := bQ3.alloc (.cells #[.slice (some ⟨b, off, none⟩) zs.length c] 22)
  have bV4 := bV3.alloc (.cells #[.slice (some ⟨b, off, none⟩) zs.length c] 22)
  have bT4 := bT.alloc (.cells #[.slice (some ⟨b, off, none⟩) zs.length c] 22)
  have hr4 := hr3.alloc (.cells #[.slice (some ⟨b, off, none⟩) zs.length c] 22)
  have hB5 := hB4.alloc (by omega) (.cells #[.slice (some ⟨b, off, none⟩) zs.length c] 22)
  generalize W2.alloc (.cells #[.slice (some ⟨b, off, none⟩) zs.length c] 22) = W3 at *
  clear bV bR1 bR2 bR3 bQ1 bQ2 bQ3 bV3 bT hr2 hr3 hB3 hB4 hB2 hrr hz1' hz2'
  refine wpIn_rangeFunc_ownG rfl (by omega) (gf := 57) (lb := #[.pointer (some ⟨w1.heap.size + 1 + 1, 0, none⟩)]) rfl trivial (enters_of Try.func57 (by kernel_rfl) rfl)
    (choices_stops 4 (by omega) (w1.heap.size + 1 + 1) b off c zs hin W3 (by omega) bN.cell hr4) KeepsTwo.trans (keepsTwo_b (by omega) (by omega)) (Below.refl _ _) (fun _ => rfl)
    (fun pre W => (Boxed W w.heap.size 3 (.int .i64 0) ∧ Boxed W (w.heap.size + 1) 4 (.bool false) ∧ Boxed W w1.heap.size 3 (.int .i64 V) ∧ Boxed W (w1.heap.size + 1) 3 (.int .i64 T) ∧ ∀ p ∈ pre, restV zs p.1 ≠ V) ∧ Below w.heap.size w W)
    (fun cd pre W => (cd = .ret ∧ ∃ ini last, pre = ini ++ [last] ∧ (∀ p ∈ ini, restV zs p.1 ≠ V) ∧ restV zs last.1 = V ∧ Boxed W w.heap.size 3 (.int .i64 (last.1 : Int)) ∧ Boxed W (w.heap.size + 1) 4 (.bool true)) ∧ Below w.heap.size w W)
    (OwnFrom.and (Own.from (fun s A B row hs hg hr => ⟨boxed_own _ _ (fun _ => _) () A B row hs.1 hg hr, boxed_own _ _ (fun _ => _) () A B row hs.2.1 hg hr, boxed_own _ _ (fun _ => _) () A B row hs.2.2.1 hg hr, boxed_own _ _ (fun _ => _) () A B row hs.2.2.2.1 hg hr, hs.2.2.2.2⟩) _) (ownFrom_below (Nat.le_refl _) (by omega)))
    (fun cd => OwnFrom.and (Own.from (fun s A B row hs hg hr => by obtain ⟨h1, ini, last, e1, e2, e3, e4, e5⟩ := hs; exact ⟨h1, ini, last, e1, e2, e3, boxed_own _ _ (fun _ => _) () A B row e4 hg hr, boxed_own _ _ (fun _ => _) () A B row e5 hg hr⟩) _) (ownFrom_below (Nat.le_refl _) (by omega)))
    ⟨⟨bR4, bQ4, bV4, bT4, by simp⟩, hB5⟩
    (fun x => { tmps := #[.slice (some ⟨b, off, none⟩) zs.length c, undef, .pointer (some ⟨w.heap.size, 0, none⟩), .pointer (some ⟨w.heap.size + 1, 0, none⟩), .pointer (some ⟨w1.heap.size, 0, none⟩), .bool true, .pointer (some ⟨w1.heap.size + 1, 0, none⟩), .int .i64 (x.1 : Int), .int .i64 (cs zs x.1 zs.length),
      .tuple #[.int .i64 V, .bool true], .slice (some ⟨b, off, none⟩) zs.length c, .tuple #[.int .i64 V, .bool true], .int .i64 V, .bool true, .bool true, .bool false, .slice (some ⟨b, off, none⟩) zs.length c, .int .i64 T, .slice (some ⟨b, off, none⟩) zs.length c,
      .func (.func 57) #[] #[.pointer (some ⟨w1.heap.size + 1 + 1, 0, none⟩)], .int .i64 (x.1 : Int), .int .i64 (cs zs x.1 zs.length), undef, undef, undef, undef, undef, undef, undef, undef], defers := [] }) ?assign ?body ?done ?stop
  case assign =>
    intro l x W K hK
    gi_wp2
    exact hK
  case body =>
    rintro l pre x W ⟨⟨hR, hQ, hVb', hT', hp⟩, hB⟩ _
    have hd : 1 ≤ 5 - 1 - 1 := by omega
    have hmx : Try.prog.follows .mixedOrders = true := by kernel_rfl
    have hcs := cs_bd hin x.1 zs.length
    have hcV := hVb'.cell
    have hcT := hT'.cell
    have hcR := hR.cell
    have hcQ := hQ.cell
    have hfR := hR.frozen
    have hfQ := hQ.frozen
    have HP := Lib.hid hp
    have hrv : restV zs x.1 = max (T - 2 * cs zs x.1 zs.length) (-(T - 2 * cs zs x.1 zs.length)) := by unfold restV; rw [HT.out]
    rw [HT.out] at hcs
    obtain ⟨s, hs⟩ : ∃ s, cs zs x.1 zs.length = s := ⟨_, rfl⟩
    rw [hs] at hrv hcs ⊢
    have hso := fun W => sizeOf_any (T - 2 * s) W (by omega) (by omega)
    obtain ⟨z, hz⟩ : ∃ z, max (T - 2 * s) (-(T - 2 * s)) = z := ⟨_, rfl⟩
    rw [hz] at hrv
    simp only [hz] at hso
    have hw1 : IntKind.i64.wrap (2 * s) = 2 * s := IntWalk.i64_in _ (by omega)
    have hw2 : IntKind.i64.wrap (T - 2 * s) = T - 2 * s := IntWalk.i64_in _ (by omega)
    have HSO := Lib.hid hso
    have HRV := Lib.hid hrv
    clear hp hs hz hso hrv
    by_cases hzv : z = V
    · have HZV := Lib.hid hzv
      have hq : (z == V) = true := by simp [hzv]
      clear hzv
      gi_wp2
      gi_region_with_o (refine ⟨trivial, ?_⟩; gi_at_call 45; refine (CallsIn.inRound l (callsIn_wide.2 (HSO.out _))).mono ?_; rintro e w' ⟨rfl, rfl⟩)
      all_goals
        gi_wp2
        exact ⟨((KeepsOthers.drew W).trans ((KeepsOthers.setCell W.drew ⟨w.heap.size, 0, none⟩ (.int .i64 (x.1 : Int))).trans (KeepsOthers.setCell _ ⟨w.heap.size + 1, 0, none⟩ (.bool true)))).from _, ⟨rfl, pre, x, rfl, HP.out, HRV.out.trans HZV.out, (hR.set _).other (by omega) _, (hQ.other (by omega) _).set _⟩, ((hB.setCell (p := ⟨w.heap.size, 0, none⟩) (Nat.le_refl _) (.int .i64 (x.1 : Int))).setCell (p := ⟨w.heap.size + 1, 0, none⟩) (by simp) (.bool true)).drew⟩
    · have HZV := Lib.hid hzv
      have hq : (z == V) = false := by simp [hzv]
      clear hzv
      gi_wp2
      gi_region_with_o (refine ⟨trivial, ?_⟩; gi_at_call 45; refine (CallsIn.inRound l (callsIn_wide.2 (HSO.out _))).mono ?_; rintro e w' ⟨rfl, rfl⟩)
      all_goals
        gi_wp2
        exact ⟨(KeepsOthers.drew W).from _, KeepsTwo.refl _ _ _, ⟨hR, hQ, hVb', hT', fun p hp' => (List.mem_append.1 hp').elim (HP.out p) (fun e => by simp at e; subst e; rw [HRV.out]; exact HZV.out)⟩, hB.drew⟩
  case done =>
    rintro D ys W hD rfl ⟨⟨hR, hQ, hVb', hT', hp⟩, hB⟩ hK
    have hj2 : halfArg zs < (firsts zs.length (2 ^ zs.length) (Nat.le_refl _)).length := by rw [firsts_length]; exact halfArg_lt zs
    have := hp _ (List.getElem_mem hj2)
    rw [firsts_get] at this
    exact absurd HV.out this
  case stop =>
    rintro D cd pre W hD ⟨k, hk, rfl⟩ ⟨⟨rfl, ini, last, e1, e2, e3, e4, e5⟩, hB⟩ hK
    gi_wp2
    refine ⟨by simp, .inl ⟨_, _, rfl, run_takeDeferred hK, ?_⟩⟩
    have h5 := (boxed_putD e4 hK (.deferred none)).cell
    have h6 := (boxed_putD e5 hK (.deferred none)).cell
    have hla : last.1 = halfArg zs := by
      refine arg_is (e3.trans HV.out.symm) fun j hj => ?_
      obtain ⟨hk1, rfl⟩ := firsts_last e1.symm
      have hj2 : j < (firsts zs.length last.1 (by omega)).length := by rw [firsts_length]; exact hj
      have := e2 _ (List.getElem_mem hj2)
      rw [firsts_get] at this
      rw [HV.out]; exact this
    rw [hla] at h5
    refine ⟨.tuple #[.int .i64 (halfArg zs : Int), .bool true], ?_, rfl, below_putD hB (by omega) hK _⟩
    simp [results, Try.f23, go_sem, h5, h6]

theorem implHalfChoice_any (b off c : Nat) (zs : List Int) (w : World) (hn : zs.length ≤ 1152921504606846976) (hr : Row w b off zs) :
    Calls Try.prog 23 #[.slice (some ⟨b, off, none⟩) zs.length c] w fun e w' => e = .returned (.tuple #[.int .i64 (halfChoiceV zs), .bool (isIn zs)]) ∧ Below w.heap.size w w' := by
  cases hin : isIn zs with
  | false => rw [← hin]; exact implHalfChoice_no b off c zs w hn hr hin
  | true => exact implHalfChoice_yes b off c zs w hn hr hin

end Go.Proofs.Ytdkhgpcfbdekeaa
