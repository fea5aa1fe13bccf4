/- SumFirst: contracts. -/
import Derived.Test.YtdkhgpcfbdekeaaChoice
import Derived.Handy
namespace Go.Proofs.Ytdkhgpcfbdekeaa
open Go.RowKit Go.Shelf

attribute [local go_sem] Oper.semAt_some

theorem first_hit {p : Nat → Bool} {m k : Nat} (hk : k < m) (h : p k = true) (h0 : ∀ j, j < k → p j = false) : (List.range m).find? p = some k := by
  rw [List.find?_range_eq_some]
  exact ⟨h, List.mem_range.2 hk, fun j hj => by rw [h0 j hj]; rfl⟩
theorem first_none {p : Nat → Bool} {m : Nat} (h0 : ∀ j, j < m → p j = false) : (List.range m).find? p = none := by
  rw [List.find?_eq_none]
  intro j hj
  rw [h0 j (List.mem_range.1 hj)]; simp

/-- The first choice with the sum v. -/
def firstOf (zs : List Int) (v : Int) : Option Nat := if isIn zs then (List.range (2 ^ zs.length)).find? fun k => decide (cs zs k zs.length = v) else none
def optV (o : Option Nat) : Int := match o with | some k => (k : Int) | none => 0

theorem ret_opt {o : Option Nat} {a : Int} {p : Bool} (h : optV o = a) (k : o.isSome = p) : Ending.returned (.tuple #[.int .i64 a, .bool p]) = .returned (.tuple #[.int .i64 (optV o), .bool o.isSome]) := by rw [h, k]

set_option maxHeartbeats 1000000
theorem implSumFirst_no (b off c : Nat) (v : Int) (zs : List Int) (w : World) (hn : zs.length ≤ 1152921504606846976) (hr : Row w b off zs) (hin : isIn zs = false ∨ (isIn zs = true ∧ v < 0)) :
    Calls Try.prog 30 #[.slice (some ⟨b, off, none⟩) zs.length c, .int .i64 v] w fun e w' => e = .returned (.tuple #[.int .i64 0, .bool false]) ∧ Below w.heap.size w w' := by
  rcases hin with hin | ⟨hin, hv⟩
  all_goals
    go_enter Try.func30, Try.ntmps30
    go_wp2_with (go_at_call 40; refine (implSumIn_any _ _ _ _ _ hn (((hr.alloc _).alloc _).alloc _)).mono ?_; rintro e w' ⟨rfl, rfl⟩)
    go_returns
    exact ⟨rfl, by go_grown⟩

set_option maxRecDepth 100000 in
theorem implSumFirst_yes (b off c : Nat) (v : Int) (zs : List Int) (w : World) (hv : 0 ≤ v) (hr : Row w b off zs) (hin : isIn zs = true) :
    Calls Try.prog 30 #[.slice (some ⟨b, off, none⟩) zs.length c, .int .i64 v] w fun e w' =>
      (∃ o : Option Nat, o = firstOf zs v ∧ e = .returned (.tuple #[.int .i64 (optV o), .bool o.isSome])) ∧ Below w.heap.size w w' := by
  have hlen := isIn_len hin
  refine (callsIn_wide (n := 5)).1 ?_
  refine callsIn_of_wp_marks Try.func30 rfl trivial ?_ rfl
  simp only [Try.ntmps30, List.size_toArray, List.length_cons, List.length_nil, Nat.reduceAdd, Nat.reduceSub, Array.replicate_succ, Array.replicate_zero, List.push_toArray, List.append_toArray, List.nil_append, List.cons_append]
  gi_wp2_with (first | (refine ⟨trivial, ?_⟩; gi_at_call 40; refine (callsIn_wide.2 (implSumIn_any _ _ _ _ _ (by omega) (((hr.alloc _).alloc _).alloc _))).mono ?_; rintro e w' ⟨rfl, rfl⟩) | (refine ⟨trivial, ?_⟩; gi_at_call 42; refine (callsIn_wide.2 (choiceSums_any _ _ _ _ _)).mono ?_; rintro e w' ⟨rfl, rfl⟩))
  have hb := hr.1
  have bV := ((Boxed.new w 3 (.int .i64 v)).alloc (.cells #[.int .i64 0] 3)).alloc (.cells #[.bool false] 4) |>.alloc (.cells #[.slice (some ⟨b, off, none⟩) zs.length c] 22)
  have bR := ((Boxed.new (w.alloc (.cells #[.int .i64 v] 3)) 3 (.int .i64 0)).alloc (.cells #[.bool false] 4)).alloc (.cells #[.slice (some ⟨b, off, none⟩) zs.length c] 22)
  have bB := (Boxed.new ((w.alloc (.cells #[.int .i64 v] 3)).alloc (.cells #[.int .i64 0] 3)) 4 (.bool false)).alloc (.cells #[.slice (some ⟨b, off, none⟩) zs.length c] 22)
  have bN := Boxed.new (((w.alloc (.cells #[.int .i64 v] 3)).alloc (.cells #[.int .i64 0] 3)).alloc (.cells #[.bool false] 4)) 22 (.slice (some ⟨b, off, none⟩) zs.length c)
  have hrow := (((hr.alloc (.cells #[.int .i64 v] 3)).alloc (.cells #[.int .i64 0] 3)).alloc (.cells #[.bool false] 4)).alloc (.cells #[.slice (some ⟨b, off, none⟩) zs.length c] 22)
  have hB0 : Below w.heap.size w ((((w.alloc (.cells #[.int .i64 v] 3)).alloc (.cells #[.int .i64 0] 3)).alloc (.cells #[.bool false] 4)).alloc (.cells #[.slice (some ⟨b, off, none⟩) zs.length c] 22)) := by go_grown
  have hsz : ((((w.alloc (.cells #[.int .i64 v] 3)).alloc (.cells #[.int .i64 0] 3)).alloc (.cells #[.bool false] 4)).alloc (.cells #[.slice (some ⟨b, off, none⟩) zs.length c] 22)).heap.size = w.heap.size + 4 := by simp
  simp only [World.size_alloc] at bR bB bN
  generalize ((((w.alloc (.cells #[.int .i64 v] 3)).alloc (.cells #[.int .i64 0] 3)).alloc (.cells #[.bool false] 4)).alloc (.cells #[.slice (some ⟨b, off, none⟩) zs.length c] 22)) = W0 at *
  refine wpIn_rangeFunc_ownG rfl (by omega) (gf := 57) (lb := #[.pointer (some ⟨w.heap.size + 1 + 1 + 1, 0, none⟩)]) rfl trivial (enters_of Try.func57 (by kernel_rfl) rfl)
    (choices_stops 4 (by omega) (w.heap.size + 1 + 1 + 1) b off c zs hin W0 (by omega) bN.cell hrow) KeepsTwo.trans (keepsTwo_b (by omega) (by omega)) (Below.refl _ _) (fun _ => rfl)
    (fun pre W => (Boxed W w.heap.size 3 (.int .i64 v) ∧ Boxed W (w.heap.size + 1) 3 (.int .i64 0) ∧ Boxed W (w.heap.size + 1 + 1) 4 (.bool false) ∧ ∀ p ∈ pre, cs zs p.1 zs.length ≠ v) ∧ Below w.heap.size w W)
    (fun cd pre W => (cd = .ret ∧ ∃ ini last, pre = ini ++ [last] ∧ (∀ p ∈ ini, cs zs p.1 zs.length ≠ v) ∧ cs zs last.1 zs.length = v ∧ Boxed W (w.heap.size + 1) 3 (.int .i64 (last.1 : Int)) ∧ Boxed W (w.heap.size + 1 + 1) 4 (.bool true)) ∧ Below w.heap.size w W)
    (OwnFrom.and (Own.from (fun s A B row hs hg hr => ⟨boxed_own _ _ (fun _ => _) () A B row hs.1 hg hr, boxed_own _ _ (fun _ => _) () A B row hs.2.1 hg hr, boxed_own _ _ (fun _ => _) () A B row hs.2.2.1 hg hr, hs.2.2.2⟩) _) (ownFrom_below (Nat.le_refl _) (by omega)))
    (fun cd => OwnFrom.and (Own.from (fun s A B row hs hg hr => by obtain ⟨h1, ini, last, e1, e2, e3, e4, e5⟩ := hs; exact ⟨h1, ini, last, e1, e2, e3, boxed_own _ _ (fun _ => _) () A B row e4 hg hr, boxed_own _ _ (fun _ => _) () A B row e5 hg hr⟩) _) (ownFrom_below (Nat.le_refl _) (by omega)))
    ⟨⟨bV, bR, bB, by simp⟩, hB0⟩
    (fun x => { tmps := #[.slice (some ⟨b, off, none⟩) zs.length c, .int .i64 v, undef, .pointer (some ⟨w.heap.size, 0, none⟩), .pointer (some ⟨w.heap.size + 1, 0, none⟩), .pointer (some ⟨w.heap.size + 1 + 1, 0, none⟩), .int .i64 (x.1 : Int), .int .i64 (cs zs x.1 zs.length),
      .slice (some ⟨b, off, none⟩) zs.length c, .bool true, .bool false, .bool false, .int .i64 v, .bool (decide (v < 0)), .bool (decide (v < 0)), .slice (some ⟨b, off, none⟩) zs.length c,
      .func (.func 57) #[] #[.pointer (some ⟨w.heap.size + 1 + 1 + 1, 0, none⟩)], .int .i64 (x.1 : Int), .int .i64 (cs zs x.1 zs.length), undef, undef, undef, undef], defers := [] }) ?assign ?body ?done ?stop
  case assign =>
    intro l x W K hK
    gi_wp2
    exact hK
  case body =>
    rintro l pre x W ⟨⟨hV, hR, hBb, hp⟩, hB⟩ _
    have hcV := hV.cell
    have hcR := hR.cell
    have hcB := hBb.cell
    have hfR := hR.frozen
    have hfB := hBb.frozen
    have HP := Lib.hid hp
    obtain ⟨s, hs⟩ : ∃ s, cs zs x.1 zs.length = s := ⟨_, rfl⟩
    rw [hs]
    have HS := Lib.hid hs
    clear hp hs
    by_cases hsv : s = v
    · have HSV := Lib.hid hsv
      have hq : (s == v) = true := by simp [hsv]
      clear hsv
      gi_wp2
      exact ⟨((KeepsOthers.setCell _ _ _).trans (KeepsOthers.setCell _ _ _)).from _, ⟨rfl, pre, x, rfl, HP.out, by rw [HS.out]; exact HSV.out, (hR.set _).other (by omega) _, (hBb.other (by omega) _).set _⟩, (hB.setCell (p := ⟨w.heap.size + 1, 0, none⟩) (by simp) _).setCell (p := ⟨w.heap.size + 1 + 1, 0, none⟩) (by simp; omega) _⟩
    · have HSV := Lib.hid hsv
      have hq : (s == v) = false := by simp [hsv]
      clear hsv
      gi_wp2
      exact ⟨KeepsFrom.refl _ _, KeepsTwo.refl _ _ _, ⟨hV, hR, hBb, fun p hp' => (List.mem_append.1 hp').elim (HP.out p) (fun e => by simp at e; subst e; rw [HS.out]; exact HSV.out)⟩, hB⟩
  case done =>
    rintro D ys W hD rfl ⟨⟨hV, hR, hBb, hp⟩, hB⟩ hK
    have hcR := hR.cell
    have hcB := hBb.cell
    have hfR := hR.frozen
    have hfB := hBb.frozen
    gi_wp2
    have hK' := ((KeepsOthers.setCell W ⟨w.heap.size + 1, 0, none⟩ (.int .i64 0)).trans (KeepsOthers.setCell _ ⟨w.heap.size + 1 + 1, 0, none⟩ (.bool false))).same D _ hK rfl
    refine ⟨by simp, .inl ⟨_, _, rfl, run_takeDeferred hK', ?_⟩⟩
    have h5 := (boxed_putD ((hR.set (.int .i64 0)).other (B' := w.heap.size + 1 + 1) (by omega) (.bool false)) hK' (.deferred none)).cell
    have h6 := (boxed_putD ((hBb.other (B' := w.heap.size + 1) (by omega) (.int .i64 0)).set (.bool false)) hK' (.deferred none)).cell
    refine ⟨.tuple #[.int .i64 0, .bool false], ?_, ⟨none, ?_, rfl⟩, below_putD ((hB.setCell (p := ⟨w.heap.size + 1, 0, none⟩) (by simp) _).setCell (p := ⟨w.heap.size + 1 + 1, 0, none⟩) (by simp; omega) _) (by omega) hK' _⟩
    · simp [results, Try.f30, go_sem, h5, h6]
    · unfold firstOf
      rw [hin, if_pos rfl]
      refine (first_none fun j hj => ?_).symm
      have hj2 : j < (firsts zs.length (2 ^ zs.length) (Nat.le_refl _)).length := by rw [firsts_length]; exact hj
      have := hp _ (List.getElem_mem hj2)
      rw [firsts_get] at this
      simpa using this
  case stop =>
    rintro D cd pre W hD ⟨k, hk, rfl⟩ ⟨⟨rfl, ini, last, e1, e2, e3, e4, e5⟩, hB⟩ hK
    gi_wp2
    refine ⟨by simp, .inl ⟨_, _, rfl, run_takeDeferred hK, ?_⟩⟩
    have h5 := (boxed_putD e4 hK (.deferred none)).cell
    have h6 := (boxed_putD e5 hK (.deferred none)).cell
    refine ⟨.tuple #[.int .i64 (last.1 : Int), .bool true], ?_, ⟨some last.1, ?_, rfl⟩, below_putD hB (by omega) hK _⟩
    · simp [results, Try.f30, go_sem, h5, h6]
    · obtain ⟨hk1, rfl⟩ := firsts_last e1.symm
      unfold firstOf
      rw [hin, if_pos rfl]
      refine (first_hit last.2 (by simpa using e3) fun j hj => ?_).symm
      have hj2 : j < (firsts zs.length last.1 (by omega)).length := by rw [firsts_length]; exact hj
      have := e2 _ (List.getElem_mem hj2)
      rw [firsts_get] at this
      simpa using this

theorem firstOf_out {zs : List Int} (v : Int) (h : isIn zs = false) : firstOf zs v = none := by unfold firstOf; rw [h]; rfl
theorem firstOf_neg {zs : List Int} {v : Int} (h : isIn zs = true) (hv : v < 0) : firstOf zs v = none := by
  unfold firstOf
  rw [h, if_pos rfl]
  exact first_none fun j _ => by have := (cs_bd h j zs.length).1; simp; omega

theorem implSumFirst_any (b off c : Nat) (v : Int) (zs : List Int) (w : World) (hn : zs.length ≤ 1152921504606846976) (hr : Row w b off zs) :
    Calls Try.prog 30 #[.slice (some ⟨b, off, none⟩) zs.length c, .int .i64 v] w fun e w' => e = .returned (.tuple #[.int .i64 (optV (firstOf zs v)), .bool (firstOf zs v).isSome]) ∧ Below w.heap.size w w' := by
  cases hin : isIn zs with
  | false =>
    refine (implSumFirst_no b off c v zs w hn hr (.inl hin)).mono ?_
    rintro e w' ⟨rfl, h⟩
    rw [firstOf_out v hin]
    exact ⟨rfl, h⟩
  | true =>
    by_cases hv : v < 0
    · refine (implSumFirst_no b off c v zs w hn hr (.inr ⟨hin, hv⟩)).mono ?_
      rintro e w' ⟨rfl, h⟩
      rw [firstOf_neg hin hv]
      exact ⟨rfl, h⟩
    · refine (implSumFirst_yes b off c v zs w (by omega) hr hin).mono ?_
      rintro e w' ⟨⟨o, rfl, rfl⟩, h⟩
      exact ⟨rfl, h⟩

theorem specSumFirst_any (b off c : Nat) (v : Int) (zs : List Int) (w : World) (hn : zs.length ≤ 1152921504606846976) (hr : Row w b off zs) :
    Calls Try.prog 31 #[.slice (some ⟨b, off, none⟩) zs.length c, .int .i64 v] w fun e w' => e = .returned (.tuple #[.int .i64 (optV (firstOf zs v)), .bool (firstOf zs v).isSome]) ∧ Below w.heap.size w w' := by
  cases hin : isIn zs with
  | false =>
    rw [firstOf_out v hin]
    go_enter Try.func31, Try.ntmps31
    go_wp2_with (go_at_call 38; refine (specSumIn_any _ _ _ _ _ hn hr).mono ?_; rintro e w' ⟨rfl, rfl⟩)
    go_ret2
    exact ⟨rfl, Below.refl _ _⟩
  | true =>
    have hlen := isIn_len hin
    obtain ⟨N, hN, hN1, hN2, hN3⟩ := pow_walk zs.length (by omega)
    have hmiss : (∀ j, j < N → cs zs j zs.length ≠ v) → firstOf zs v = none := fun h => by
      unfold firstOf
      rw [hin, if_pos rfl, hN]
      exact first_none fun j hj => by simpa using h j hj
    have hhit : ∀ k, k < N → (∀ j, j < k → cs zs j zs.length ≠ v) → cs zs k zs.length = v → firstOf zs v = some k := fun k hk h h2 => by
      unfold firstOf
      rw [hin, if_pos rfl, hN]
      exact first_hit hk (by simpa using h2) fun j hj => by simpa using h j hj
    have HMISS := Lib.hid hmiss
    have HHIT := Lib.hid hhit
    have HN := Lib.hid hN
    clear hN hN3 hmiss hhit
    go_enter Try.func31, Try.ntmps31
    go_wp2_with (go_at_call 38; refine (specSumIn_any _ _ _ _ _ hn hr).mono ?_; rintro e w' ⟨rfl, rfl⟩)
    have HIN := Lib.hid hin
    clear hin
    go_loopw [6] (fun i wr => ∃ k n : Nat, k ≤ N ∧ i = .int .i64 k ∧ (∀ j, j < k → cs zs j zs.length ≠ v) ∧ wr = w.drewN n) (fun i _ => N - (intOf i).toNat)
    case atStart => exact ⟨0, 0, Nat.zero_le _, rfl, fun j hj => by omega, rfl⟩
    case round =>
      obtain ⟨k, n, hk, rfl, ha, rfl⟩ := hrel
      have HA := Lib.hid ha
      clear ha
      by_cases hlt : k < N
      · obtain ⟨s, hs⟩ : ∃ s, cs zs k zs.length = s := ⟨_, rfl⟩
        have HS := Lib.hid hs
        clear hs
        by_cases hsv : s = v
        · have hq : (s == v) = true := by simp [hsv]
          have HSV := Lib.hid hsv
          clear hsv
          go_wp2_with (first | (go_at_call 46; refine (l1All_N _ _ _ N _ (by omega) HN.out).mono ?_; rintro e w' ⟨rfl, rfl⟩) | (go_at_call 47; refine (l1Sum_any k _ _ _ _ _ (by omega) HIN.out (hr.drewN _)).mono ?_; rw [HS.out]; rintro e w' ⟨rfl, n2, rfl⟩))
          go_ret2
          rw [HHIT.out k hlt HA.out (HS.out.trans HSV.out)]
          exact ⟨rfl, below_drewN (Below.refl _ _) _⟩
        · have hq : (s == v) = false := by simp [hsv]
          have HSV := Lib.hid hsv
          clear hsv
          go_wp2_with (first | (go_at_call 46; refine (l1All_N _ _ _ N _ (by omega) HN.out).mono ?_; rintro e w' ⟨rfl, rfl⟩) | (go_at_call 47; refine (l1Sum_any k _ _ _ _ _ (by omega) HIN.out (hr.drewN _)).mono ?_; rw [HS.out]; rintro e w' ⟨rfl, n2, rfl⟩))
          go_roundw
          case rel => exact ⟨k + 1, _, by omega, by go_num, fun j hj => by rcases Nat.lt_succ_iff_lt_or_eq.1 hj with h | rfl; exact HA.out j h; rw [HS.out]; exact HSV.out, rfl⟩
          case measure => simp [intOf]; omega
      · obtain rfl : k = N := by omega
        go_wp2_with (go_at_call 46; refine (l1All_N _ _ _ k _ (by omega) HN.out).mono ?_; rintro e w' ⟨rfl, rfl⟩)
        go_ret2
        rw [HMISS.out HA.out]
        exact ⟨rfl, below_drewN (Below.refl _ _) _⟩

end Go.Proofs.Ytdkhgpcfbdekeaa
