/- HalfDifferences, the program's and the reference's. -/
import Derived.Test.YtbechpbfefdmgaaInOrder
import Derived.Test.YtbechpbfefdmgaaDiffs
import Derived.ArgAppend
import Derived.Lib.EndianMore
namespace Go.Proofs.Ytbechpbfefdmgaa
open Go.RowKit Go.Sort
set_option maxHeartbeats 1000000

/-- append of one number to a run of cells, in the row itself if there is room, else in a new one. -/
theorem wpList_append_row (w : World) {ops : Array Oper} {rest : List Oper} {o : Oper} {a : Act} {Q : Exit → Act → World → Prop} (hg : o.guard = none) (s x : Operand)
    (hop : o.op = Op.call { callee := Callee.builtin Builtin.append, args := #[s, x], argTypes := #[22, 22] })
    (W : World) (B g off n c : Nat) (L : List Int) (hB : B ≤ g) (hBw : B ≤ w.heap.size) (hbel : Below B W w) (hn : L.length = n) (hn9 : n ≤ 1000) (hs : a.eval s = .slice (some ⟨g, off, none⟩) n c) (hrow : Row w g off L)
    (hspare : n + 1 ≤ c → (w.cell? ⟨g, off + n, none⟩).isSome = true ∧ w.frozen? ⟨g, off + n, none⟩ = false)
    (ad : Addr) (c2 : Nat) (d : Int) (hx : a.eval x = .slice (some ad) 1 c2) (hc : w.cell? (ad.add 0) = some (.int .i64 d))
    (h : ∀ b' off' c' w', Row w' b' off' (L ++ [d]) → Below B W w' → wpList Try.prog ops Q rest (a.put o.dst (.slice (some ⟨b', off', none⟩) (n + 1) c')) w') :
    wpList Try.prog ops Q (o :: rest) a w := by
  obtain ⟨i0, hi, hz0, hz1, hz2⟩ := info_parts info_int
  subst hn
  refine wpList_append_arg w hg s x _ hop 3 i0 (.int .i64 0) 1 8 Try.underlying22 hi hz0 hz1 hz2 rfl (by decide) g off L.length c (L.map (Value.int .i64)) hs (by simp) ?_ ad 1 c2 [.int .i64 d] hx rfl ?_ (by simp [Value.oneCell']) ?_ (by unfold maxLen; omega) (by omega) ?_ ?_
  · intro j u hj
    have hjl : j < L.length := by
      rcases Nat.lt_or_ge j L.length with h' | h'
      · exact h'
      · rw [List.getElem?_eq_none (by simp; omega)] at hj; simp at hj
    rw [hrow.2 j hjl]
    simp only [List.getElem?_map, List.getElem?_eq_getElem hjl, Option.map_some, Option.some.injEq] at hj
    rw [← hj, List.getElem?_eq_getElem hjl]; rfl
  · intro j u hj
    cases j with
    | zero => simp only [List.getElem?_cons_zero, Option.some.injEq] at hj; rw [hc, hj]
    | succ j => simp at hj
  · intro hr j hj
    obtain rfl : j = 0 := by simp at hj; exact hj
    simpa using hspare hr
  · intro hr
    refine h _ _ _ _ ⟨?_, ?_⟩ (hbel.trans (Lib.below_setCells_w hB _ _ _))
    · exact Nat.lt_of_lt_of_le hrow.1 (Lib.below_setCells_w (Nat.le_refl g) _ _ _).size
    · intro j hj
      rw [List.length_append, List.length_singleton] at hj
      by_cases hjl : j < L.length
      · rw [World.cell?_setCells_out g _ _ _ _ (fun _ _ => by left; simp; omega), hrow.2 j hjl, List.getElem?_append_left hjl]
      · obtain rfl : j = L.length := by omega
        have := World.cell?_setCells_in g [Value.int .i64 d] (off + L.length * 1) w (fun j hj => by
          obtain rfl : j = 0 := by simp at hj; exact hj
          simpa using (hspare hr).1) 0 (by simp)
        simp only [Nat.mul_one, Nat.add_zero] at this ⊢
        rw [this]; simp
  · intro hr v' w' hown hgr
    obtain ⟨g', cap', rfl⟩ := ownsRow_succ hown
    have hO := Owns.of_row hown
    exact h _ _ _ _ hO.row (hbel.grown hgr hBw (fun k e => by cases e))

def halfDiffV (zs : List Int) : Int := if isIn zs then (diffTo (sorted zs) (zs.length - 1))[0]?.getD 0 else 0
theorem isIn_fit {zs : List Int} (h : isIn zs = true) : Fit (sorted zs) := sorted_fit fun x hx => by
  obtain ⟨i, hi, rfl⟩ := List.getElem_of_mem hx
  have := isIn_get h i hi
  rw [List.getElem?_eq_getElem hi] at this
  simp only [Option.getD_some] at this
  omega

theorem Row.drop {w : World} {b off : Nat} {zs : List Int} (h : Row w b off zs) (k : Nat) : Row w b (off + k) (zs.drop k) := by
  refine ⟨h.1, fun j hj => ?_⟩
  rw [List.length_drop] at hj
  rw [List.getElem?_drop, Nat.add_assoc]
  exact h.2 (k + j) (by omega)
theorem Owns.there {w : World} {B g c : Nat} {zs : List Int} (h : Owns w B g c zs) (j : Nat) (hj : j < c) : (w.cell? ⟨g, j, none⟩).isSome = true := by
  obtain ⟨cur, _, hg, _, _, hs, _⟩ := h.parts
  unfold World.cell?
  simp [hg, hs, hj]
theorem cell_new (w : World) (v : Value) (t : TypeId) : (w.alloc (.cells #[v] t)).cell? ((⟨w.heap.size, 0, none⟩ : Addr).add 0) = some v := by
  simp [Addr.add]
theorem inOrder_n (b off c n : Nat) (zs : List Int) (w : World) (hn : zs.length = n) (hlen : n ≤ 12) (hr : Row w b off zs) :
    Calls Try.prog 46 #[.slice (some ⟨b, off, none⟩) n c, .func (.func 47) #[] #[]] w fun e w' => ∃ g c', e = .returned (.slice (some ⟨g, 0, none⟩) n c') ∧ Owns w' w.heap.size g c' (fallen zs) ∧ Below w.heap.size w w' := by
  subst hn
  exact inOrder_any b off c zs w hlen hr

theorem ret_ib4 {a b : Int} {p q : Bool} (h : a = b) (k : p = q) : Ending.returned (.tuple #[.int .i64 a, .bool p]) = .returned (.tuple #[.int .i64 b, .bool q]) := by rw [h, k]
theorem l1Sorted_n (b off c n : Nat) (zs : List Int) (w : World) (hn : zs.length = n) (hlen : n ≤ 1000) (hr : Row w b off zs) :
    Calls Try.prog 34 #[.slice (some ⟨b, off, none⟩) n c] w fun e w' => ∃ g c', e = .returned (.slice (some ⟨g, 0, none⟩) n c') ∧ Owns w' w.heap.size g c' (sorted zs) ∧ Below w.heap.size w w' := by
  subst hn
  exact l1Sorted_any b off c zs w hlen hr

/-- Slices' lengths, for a loop's measure. -/
def lenOf : Value → Nat
  | .slice _ n _ => n
  | _ => 0

theorem implHalfDifferences_any (b off c : Nat) (zs : List Int) (w : World) (hn : zs.length ≤ 1152921504606846976) (hr : Row w b off zs) :
    Calls Try.prog 30 #[.slice (some ⟨b, off, none⟩) zs.length c] w fun e w' => e = .returned (.tuple #[.int .i64 (halfDiffV zs), .bool (isIn zs)]) ∧ Below w.heap.size w w' := by
  unfold halfDiffV
  cases hin : isIn zs with
  | false =>
    go_enter Try.func30, Try.ntmps30
    go_wp2_with (go_at_call 35; refine (implSumIn_any _ _ _ _ _ hn hr).mono ?_; rw [hin]; rintro e w' ⟨rfl, rfl⟩)
    go_ret2
    exact ⟨rfl, Below.refl _ _⟩
  | true =>
    have hlen := isIn_len hin
    have hF := isIn_fit hin
    have hSl := sorted_length zs
    have hrev := fallen_rev zs
    have HIN := Lib.hid hin
    clear hin
    simp only [if_true]
    obtain ⟨S, hS⟩ : ∃ S, sorted zs = S := ⟨_, rfl⟩
    rw [hS] at hSl hF hrev ⊢
    have HREV := Lib.hid hrev
    have HF := Lib.hid hF
    clear hS hrev hF
    go_enter Try.func30, Try.ntmps30
    go_wp2_with fail
    refine (implSumIn_any _ _ _ _ _ hn hr).mono ?_
    rw [HIN.out]
    rintro e w' ⟨rfl, rfl⟩
    go_wp2_with fail
    refine (inOrder_any _ _ _ zs _ (by omega) hr).mono ?_
    rintro e w2 ⟨g, c2, rfl, hO, hB⟩
    rw [HREV.out] at hO
    obtain ⟨n, hnn⟩ : ∃ n, zs.length = n := ⟨_, rfl⟩
    rw [hnn] at hlen hSl ⊢
    have HSL := Lib.hid hSl
    have HNN := Lib.hid hnn
    have HOB := Lib.hid (And.intro hO hB)
    clear hn hr hnn hSl hO hB
    go_wp2
    go_loopw [4] (fun s wr => ∃ (k m g c1 : Nat), m + k = n ∧ (1 ≤ m ∨ k = 0) ∧ s = .slice (some ⟨g, 0, none⟩) m c1 ∧ Owns wr w.heap.size g c1 (diffTo S k).reverse ∧ Below w.heap.size w wr) (fun s _ => lenOf s)
    case atStart => exact ⟨0, n, g, c2, by omega, .inr rfl, rfl, HOB.out⟩
    case round =>
      clear HOB
      obtain ⟨k, m, g, c1, hmk, hm, rfl, hO, hB⟩ := hrel
      have hl : (diffTo S k).length = m := by
        rcases hm with h | h
        · rw [diffTo_len k (by rw [HSL.out]; omega), HSL.out]; omega
        · subst h; show S.length = m; rw [HSL.out]; omega
      by_cases h2 : 2 ≤ m
      · obtain ⟨q, rfl⟩ : ∃ q, m = q + 2 := ⟨m - 2, by omega⟩
        have hnext := diff_rev (diffTo S k) (by omega)
        have hfit := diffTo_fit HF.out k (by rw [HSL.out]; omega)
        have hx0 := hfit.at (q + 1)
        have hy0 := hfit.at q
        have e0 : (diffTo S k).reverse[0]?.getD 0 = (diffTo S k)[q + 1]?.getD 0 := by rw [List.getElem?_reverse (by omega)]; congr 2; omega
        have e1 : (diffTo S k).reverse[1]?.getD 0 = (diffTo S k)[q]?.getD 0 := by rw [List.getElem?_reverse (by omega)]; congr 2; omega
        have hDl : (diffTo S k).reverse.length = q + 2 := by rw [List.length_reverse, hl]
        rw [← e0] at hx0
        rw [← e1] at hy0
        have hstep : (diffTo S (k + 1)).reverse = (diffS (diffTo S k)).reverse := rfl
        rw [← hnext] at hstep
        clear e0 e1 hfit hnext hl
        obtain ⟨D, hD⟩ : ∃ D, (diffTo S k).reverse = D := ⟨_, rfl⟩
        rw [hD] at hx0 hy0 hDl hstep hO
        have hrow := hO.row
        have hsz := hB.size
        have hr2 := hrow.drop 2
        rw [Nat.zero_add] at hr2
        have HR2 := Lib.hid hr2
        clear hr2
        have cx := hrow.2 0 (by omega)
        have cy := hrow.2 1 (by omega)
        obtain ⟨x, hx⟩ : ∃ x, D[0]?.getD 0 = x := ⟨_, rfl⟩
        obtain ⟨y, hy⟩ : ∃ y, D[1]?.getD 0 = y := ⟨_, rfl⟩
        rw [hx] at hx0 cx hstep
        rw [hy] at hy0 cy hstep
        rw [Nat.zero_add] at cx cy
        obtain ⟨cur, hbg, hcg, hcl, hcm, hcs, hct⟩ := hO.parts
        rw [hDl] at hcl
        obtain ⟨cc, rfl⟩ : ∃ cc, c1 = cc + 2 := ⟨c1 - 2, by omega⟩
        have HST := Lib.hid hstep
        have HO := Lib.hid hO
        have HB := Lib.hid hB
        have HDL := Lib.hid hDl
        have HROW := Lib.hid hrow
        have HCUR := Lib.hid (And.intro hcg hcs)
        clear hstep hO hB hDl hD hx hy hrow hcg hcs hct
        by_cases hcc : cc = 0
        · subst hcc
          obtain rfl : q = 0 := by omega
          go_wp2
          go_quiet (fail)
          go_wp2_with (at_builtin; refine wpList_append_row _ rfl _ _ rfl w w.heap.size g 0 0 0 [] hbg (by simp; omega) ((below_drewN HB.out _).alloc hsz _) rfl (by omega) rfl ⟨((HROW.out.drewN _).alloc _).1, fun j hj => by simp at hj⟩ (fun h => by omega) _ _ (x - y) rfl (cell_new _ _ _) ?_; intro b5 off5 c5 w5 hrow5 hb5)
          have hsz5 := hb5.size
          refine (inOrder_n _ _ _ _ _ w5 rfl (by simp) hrow5).mono ?_
          rintro e w6 ⟨g6, c6, rfl, hO6, hB6⟩
          have hd0 : D.drop 2 = [] := List.drop_eq_nil_of_le (by rw [HDL.out]; omega)
          have hO7 := (hO6.base (Nat.le_trans hsz5 hO6.ge)).cast (ys := (diffTo S (k + 1)).reverse) (by rw [HST.out, hd0])
          have hB7 := hb5.trans (hB6.mono hsz5)
          clear hd0 hO6 hB6 hrow5 hb5
          go_wp2
          go_roundw
          case rel => exact ⟨k + 1, 1, g6, c6, by omega, .inl (by omega), rfl, hO7, hB7⟩
          case measure => simp [lenOf]
        · go_wp2
          go_quiet (fail)
          go_wp2_with (at_builtin; refine wpList_append_row _ rfl _ _ rfl w w.heap.size g 2 q cc (D.drop 2) hbg (by simp; omega) ((below_drewN HB.out _).alloc hsz _) (by rw [List.length_drop, HDL.out]; rfl) (by omega) rfl ((HR2.out.drewN _).alloc _) (fun h => ⟨((HO.out.drewN _).alloc _).there _ (by omega), ((HO.out.drewN _).alloc _).free _⟩) _ _ (x - y) rfl (cell_new _ _ _) ?_; intro b5 off5 c5 w5 hrow5 hb5)
          have hsz5 := hb5.size
          refine (inOrder_n _ _ _ (q + 1) _ w5 (by simp [HDL.out]) (by omega) hrow5).mono ?_
          rintro e w6 ⟨g6, c6, rfl, hO6, hB6⟩
          have hO7 := (hO6.base (Nat.le_trans hsz5 hO6.ge)).cast HST.out.symm
          have hB7 := hb5.trans (hB6.mono hsz5)
          clear hO6 hB6 hrow5 hb5
          go_wp2
          go_roundw
          case rel => exact ⟨k + 1, q + 1, g6, c6, by omega, .inl (by omega), rfl, hO7, hB7⟩
          case measure => simp [lenOf]
      · rcases (by omega : m = 0 ∨ m = 1) with rfl | rfl
        · obtain rfl : k = 0 := by omega
          have hn0 : n = 0 := by omega
          have hv : (diffTo S (n - 1))[0]?.getD 0 = 0 := by
            have := HSL.out
            rw [hn0] at this ⊢
            rw [List.eq_nil_of_length_eq_zero this]; rfl
          have HV := Lib.hid hv
          have HB := Lib.hid hB
          clear hv hl hO hB
          go_wp2
          go_ret2
          exact ⟨ret_ib4 (by rw [HNN.out, HV.out]) rfl, HB.out⟩
        · have hk : k = n - 1 := by omega
          have cx := hO.row.2 0 (by rw [List.length_reverse, hl]; omega)
          have e0 : (diffTo S k).reverse[0]?.getD 0 = (diffTo S k)[0]?.getD 0 := by rw [List.getElem?_reverse (by omega), hl]
          rw [e0, Nat.zero_add, hk] at cx
          obtain ⟨x, hx⟩ : ∃ x, (diffTo S (n - 1))[0]?.getD 0 = x := ⟨_, rfl⟩
          rw [hx] at cx
          have HX := Lib.hid hx
          have HB := Lib.hid hB
          clear hx hl e0 hO hB
          go_wp2
          go_ret2
          exact ⟨ret_ib4 (by rw [HNN.out, HX.out]) rfl, HB.out⟩

theorem specHalfDifferences_any (b off c : Nat) (zs : List Int) (w : World) (hn : zs.length ≤ 1152921504606846976) (hr : Row w b off zs) :
    Calls Try.prog 29 #[.slice (some ⟨b, off, none⟩) zs.length c] w fun e w' => e = .returned (.tuple #[.int .i64 (halfDiffV zs), .bool (isIn zs)]) ∧ Below w.heap.size w w' := by
  unfold halfDiffV
  cases hin : isIn zs with
  | false =>
    go_enter Try.func29, Try.ntmps29
    go_wp2_with (go_at_call 33; refine (specSumIn_any _ _ _ _ _ hn hr).mono ?_; rw [hin]; rintro e w' ⟨rfl, rfl⟩)
    go_ret2
    exact ⟨rfl, Below.refl _ _⟩
  | true =>
    have hlen := isIn_len hin
    have hF := isIn_fit hin
    have hSl := sorted_length zs
    have HIN := Lib.hid hin
    clear hin
    simp only [if_true]
    obtain ⟨S, hS⟩ : ∃ S, sorted zs = S := ⟨_, rfl⟩
    rw [hS] at hSl hF ⊢
    have HS := Lib.hid hS
    have HF := Lib.hid hF
    clear hS hF
    go_enter Try.func29, Try.ntmps29
    go_wp2_with fail
    refine (specSumIn_any _ _ _ _ _ hn hr).mono ?_
    rw [HIN.out]
    rintro e w' ⟨rfl, rfl⟩
    go_wp2_with fail
    refine (l1Sorted_any _ _ _ zs _ (by omega) hr).mono ?_
    rintro e w2 ⟨g, c2, rfl, hO, hB⟩
    rw [HS.out] at hO
    obtain ⟨n, hnn⟩ : ∃ n, zs.length = n := ⟨_, rfl⟩
    rw [hnn] at hlen hSl ⊢
    have HSL := Lib.hid hSl
    have HNN := Lib.hid hnn
    have HOB := Lib.hid (And.intro hO hB)
    clear hn hr hnn hSl hO hB
    go_wp2
    go_loopw [4] (fun s wr => ∃ (k m g c1 : Nat), m + k = n ∧ (1 ≤ m ∨ k = 0) ∧ s = .slice (some ⟨g, 0, none⟩) m c1 ∧ Owns wr w.heap.size g c1 (diffTo S k) ∧ Below w.heap.size w wr) (fun s _ => lenOf s)
    case atStart => exact ⟨0, n, g, c2, by omega, .inr rfl, rfl, HOB.out⟩
    case round =>
      clear HOB
      obtain ⟨k, m, g, c1, hmk, hm, rfl, hO, hB⟩ := hrel
      have hl : (diffTo S k).length = m := by
        rcases hm with h | h
        · rw [diffTo_len k (by rw [HSL.out]; omega), HSL.out]; omega
        · subst h; show S.length = m; rw [HSL.out]; omega
      by_cases h2 : 2 ≤ m
      · obtain ⟨q, hq⟩ : ∃ q, q + 2 = m := ⟨m - 2, by omega⟩
        obtain ⟨q1, hq1⟩ : ∃ q1, q1 + 1 = m := ⟨m - 1, by omega⟩
        have hfit := diffTo_fit HF.out k (by rw [HSL.out]; omega)
        have hx0 := hfit.at q1
        have hy0 := hfit.at q
        have hstep : diffTo S (k + 1) = sorted ((diffTo S k).take q ++ [(diffTo S k)[q1]?.getD 0 - (diffTo S k)[q]?.getD 0]) := by
          show diffS _ = _
          unfold diffS
          rw [hl, show m - 2 = q by omega, show m - 1 = q1 by omega]
        clear hfit
        obtain ⟨L, hL⟩ : ∃ L, diffTo S k = L := ⟨_, rfl⟩
        rw [hL] at hx0 hy0 hl hstep hO
        have hrow := hO.row
        have hsz := hB.size
        have hgW0 := hO.lt
        have cx := hrow.2 q1 (by omega)
        have cy := hrow.2 q (by omega)
        obtain ⟨x, hx⟩ : ∃ x, L[q1]?.getD 0 = x := ⟨_, rfl⟩
        obtain ⟨y, hy⟩ : ∃ y, L[q]?.getD 0 = y := ⟨_, rfl⟩
        rw [hx] at hx0 cx hstep
        rw [hy] at hy0 cy hstep
        rw [Nat.zero_add] at cx cy
        obtain ⟨cur, hbg, hcg, hcl, hcm, hcs, hct⟩ := hO.parts
        rw [hl] at hcl
        have e1 : (m : Int) - 1 = (q1 : Int) := by omega
        have e2 : (m : Int) - 2 = (q : Int) := by omega
        have w1 : IntKind.i64.wrap (q : Int) = (q : Int) := IntWalk.i64_in _ (by omega)
        have w3 : IntKind.i64.wrap (q1 : Int) = (q1 : Int) := IntWalk.i64_in _ (by omega)
        have w4 : IntKind.i64.wrap (x - y) = x - y := IntWalk.i64_in _ (by omega)
        have i6 : q ≤ c1 := by omega
        have i7 : q1 < m := by omega
        have i8 : q < m := by omega
        have i1 : (0 : Int) ≤ (q : Int) := by omega
        have i2 : (q : Int) < (m : Int) := by omega
        have i3 : (0 : Int) ≤ (q1 : Int) := by omega
        have i4 : (q1 : Int) < (m : Int) := by omega
        have i5 : (q : Int) ≤ (c1 : Int) := by omega
        have HST := Lib.hid hstep
        have HLL := Lib.hid hl
        have HQ := Lib.hid (And.intro hq hq1)
        clear hstep hO hl hL hx hy hcg hcs hct hbg hq hq1
        have h1m : 1 < m := by omega
        go_wp2
        refine wp_facts (F := fun W => W.cell? ⟨g, q1, none⟩ = some (.int .i64 x) ∧ W.cell? ⟨g, q, none⟩ = some (.int .i64 y) ∧ Row W g 0 L ∧ Below w.heap.size w W) ⟨cx, cy, hrow, hB⟩ ?_
        rintro W ⟨cX, cY, rW, bW⟩
        have hgW : g < W.heap.size := rW.1
        have oX : Owns ((W.alloc (.cells #[.int .i64 (x - y)] 3)).alloc (.cells #[] 3)) W.heap.size (W.heap.size + 1) 0 [] := by have := owns_empty (W.alloc (.cells #[.int .i64 (x - y)] 3)) W.heap.size (by simp); simpa using this
        clear cx cy hrow hB hgW0 hsz
        go_region_law (first
          | (refine step_append_B (by rfl) _ _ (by rfl) W (by first | exact hb21 | exact hb21.alloc hb21.size _) _ _ _ (L.take q) (by rfl) (by first | (simp; done) | (simp [HLL.out]; done) | (simp [HLL.out]; omega)) (by first | exact hO21 | exact hO21.alloc _) _ _ _ [x - y] (by rfl) rfl (by intro i hi; obtain rfl : i = 0 := Nat.lt_one_iff.1 hi; first | (simp [Addr.add]; done) | (simp only [Addr.add]; rw [hf21 _ (by first | (simp; done) | (simp; omega)) (by first | (simp; done) | (simp; omega))]; simp)) (by first | omega | (simp; done) | (simp; omega)) ?_; intro g34 c34 w34 hO34 hb34 hf34)
          | (refine step_append_B (by rfl) _ _ (by rfl) W (by go_grown) _ _ _ [] (by rfl) rfl (by first | exact owns_empty _ _ (by first | exact Nat.le_refl _ | (simp; done) | (simp; omega)) | exact (owns_empty _ _ (by first | exact Nat.le_refl _ | (simp; done) | (simp; omega))).alloc _ | exact oX) _ _ _ (L.take q) (by rfl) (by first | (simp; done) | (simp [HLL.out]; done) | (simp [HLL.out]; omega)) (row_cells (rW.behind (by go_grown)) 0 _ _ (fun i hi => by rw [List.getElem?_take_of_lt (by omega), Nat.zero_add]) (by rw [HLL.out]; omega)) (by first | omega | (simp; done) | (simp; omega)) ?_; intro g21 c21 w21 hO21 hb21 hf21; have cx21 := (hb21.cell (p := ⟨g, q1, none⟩) hgW).trans cX; have cy21 := (hb21.cell (p := ⟨g, q, none⟩) hgW).trans cY)
          | (go_simp; go_at_call 34; refine (l1Sorted_n _ _ _ _ (L.take q ++ [x - y]) _ (by first | (simp; done) | (simp [HLL.out]; done) | (simp [HLL.out]; omega)) (by first | omega | (simp; done) | (simp; omega)) hO34.row).mono ?_; rintro e w35 ⟨g35, c35, rfl, hO35, hB35⟩))
        all_goals
          have hs34 := Nat.le_trans bW.size hb34.size
          have hO7 := (hO35.base (Nat.le_trans hs34 hO35.ge)).cast HST.out.symm
          have hB7 := (bW.trans (hb34.mono bW.size)).trans (hB35.mono hs34)
          clear hO35 hB35 hO34 hb34 hf34 hO21 hb21 hf21 cx21 cy21 w1 w3 w4
          try go_simp
          go_wp2
          go_roundw
          case rel => exact ⟨k + 1, _, g35, c35, by have := HQ.out; omega, .inl (by omega), rfl, hO7, hB7⟩
          case measure => have := HQ.out; simp [lenOf]; omega
      · rcases (by omega : m = 0 ∨ m = 1) with rfl | rfl
        · obtain rfl : k = 0 := by omega
          have hn0 : n = 0 := by omega
          have hv : (diffTo S (n - 1))[0]?.getD 0 = 0 := by
            have := HSL.out
            rw [hn0] at this ⊢
            rw [List.eq_nil_of_length_eq_zero this]; rfl
          have HV := Lib.hid hv
          have HB := Lib.hid hB
          clear hv hl hO hB
          go_wp2
          go_ret2
          exact ⟨ret_ib4 (by rw [HNN.out, HV.out]) rfl, HB.out⟩
        · have hk : k = n - 1 := by omega
          have cx := hO.row.2 0 (by rw [hl]; omega)
          rw [Nat.zero_add, hk] at cx
          obtain ⟨x, hx⟩ : ∃ x, (diffTo S (n - 1))[0]?.getD 0 = x := ⟨_, rfl⟩
          rw [hx] at cx
          have HX := Lib.hid hx
          have HB := Lib.hid hB
          clear hx hl hO hB
          go_wp2
          go_ret2
          exact ⟨ret_ib4 (by rw [HNN.out, HX.out]) rfl, HB.out⟩
end Go.Proofs.Ytbechpbfefdmgaa
