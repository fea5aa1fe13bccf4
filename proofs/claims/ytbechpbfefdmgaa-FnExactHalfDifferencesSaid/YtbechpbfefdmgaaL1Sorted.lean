/- The reference's sort of a list of numbers. -/
import Derived.Test.YtbechpbfefdmgaaLeaf
import Derived.Test.YtbechpbfefdmgaaSorting
import Derived.Maps.AppendAt
import Derived.Deep.AppendLies
import Derived.Deep.RegionLaw
namespace Go.Proofs.Ytbechpbfefdmgaa
open Go.RowKit
set_option maxHeartbeats 1000000

theorem owns_form {w : World} {B : Nat} {v : Value} {n : Nat} {L : List Int} (h : w.ownsRow B 3 1 v n (L.map (Value.int .i64))) (hne : v ≠ .slice none 0 0) : ∃ g c, v = .slice (some ⟨g, 0, none⟩) n c ∧ L.length = n := by
  have hl : L.length = n := by have := h.1; simpa using this
  rcases h.2 with ⟨h', _⟩ | ⟨g', cap', cur, h', _⟩
  · exact absurd h' hne
  · exact ⟨g', cap', h', hl⟩

/-- append of a run of numbers to a row of the call's own, as a step of a region that draws. -/
theorem step_append_ints {ops : Array Oper} {o : Oper} {a : Act} {w : World} {K : Act → World → Prop} {Q : Exit → Act → World → Prop} {E : Prop} (hgd : o.guard = none) (s x : Operand)
    (ho : o.op = .call { callee := .builtin .append, args := #[s, x], argTypes := #[22, 22] })
    (B g c n : Nat) (L : List Int) (hs : a.eval s = .slice (some ⟨g, 0, none⟩) n c) (hn : L.length = n) (hO : Owns w B g c L)
    (ad : Addr) (m c2 : Nat) (news : List Int) (hx : a.eval x = .slice (some ad) m c2) (hl : news.length = m)
    (hcells : ∀ j, j < m → w.cell? (ad.add j) = some (.int .i64 (news[j]?.getD 0))) (hsz : n + m ≤ 1000000) (hB : B ≤ w.heap.size)
    (h : ∀ g' c' w', Owns w' B g' c' (L ++ news) → w.grownBy w' (some g) → (g' = g ∨ g' = w.heap.size) → K (a.put o.dst (.slice (some ⟨g', 0, none⟩) (n + m) c')) w') :
    if Region.wanted o (yielded ops a.tmps) = true then Oper.wp Try.prog o a w K Q else E := by
  have hw : Region.wanted o (yielded ops a.tmps) = true := by simp [Region.wanted, hgd]
  rw [if_pos hw]
  obtain ⟨i0, hi, hz0, hz1, hz2⟩ := info_parts info_int
  subst hn
  obtain ⟨v', w', hr, h2, h3, h4, h5⟩ := run_append_own_at (P := Try.prog) w B 22 o.type 3 i0 (.int .i64 0) 1 8 Try.underlying22 hi hz0 hz1 hz2 rfl (by omega) (.slice (some ⟨g, 0, none⟩) L.length c) L.length (L.map (Value.int .i64)) hO ad m c2 (news.map (Value.int .i64)) (by simp; omega)
    (by
      intro j u hj
      have hjl : j < news.length := by
        rcases Nat.lt_or_ge j news.length with h' | h'
        · exact h'
        · rw [List.getElem?_eq_none (by simp; omega)] at hj; simp at hj
      rw [hcells j (by omega)]
      simp only [List.getElem?_map, List.getElem?_eq_getElem hjl, Option.map_some, Option.some.injEq] at hj
      rw [← hj, List.getElem?_eq_getElem hjl]; rfl)
    (by intro u hu; simp only [List.mem_map] at hu; obtain ⟨z, _, rfl⟩ := hu; rfl) (by unfold maxLen; omega) (by omega) hB
  have hne : v' ≠ .slice none 0 0 := fun e => by have := (h4.1 e).1; simp at this
  rw [← List.map_append] at h2
  obtain ⟨g', c', rfl, hlen⟩ := owns_form h2 hne
  unfold Oper.wp execOp
  simp only [ho, resolve, invoke, builtin, Sem.run_bind, Sem.run_pure, Result.andThen_ok, List.map_toArray, List.map_cons, List.map_nil, hs, hx, hr]
  refine h g' c' w' ?_ h3 ?_
  · unfold Owns; rw [hlen]; exact h2
  · rcases h5 with e | e
    · left; simpa [Value.ownBlock] using e
    · right; simpa [Value.ownBlock] using e

theorem lt_of_cell2 {w : World} {b off : Nat} {v : Value} (h : w.cell? ⟨b, off, none⟩ = some v) : b < w.heap.size := by
  rcases Nat.lt_or_ge b w.heap.size with hlt | hge
  · exact hlt
  · unfold World.cell? at h
    simp [Array.getElem?_eq_none hge] at h
theorem wp_facts {F : World → Prop} {P : Program} {c : Code} {Q : Exit → Act → World → Prop} {a : Act} {W : World} (h0 : F W) (h : ∀ W', F W' → Code.wp P c Q a W') : Code.wp P c Q a W := h W h0

/-- The same, all that lay in W staying as it was. -/
theorem step_append_B {ops : Array Oper} {o : Oper} {a : Act} {w : World} {K : Act → World → Prop} {Q : Exit → Act → World → Prop} {E : Prop} (hgd : o.guard = none) (s x : Operand)
    (ho : o.op = .call { callee := .builtin .append, args := #[s, x], argTypes := #[22, 22] })
    (W : World) (hbel : Below W.heap.size W w) (g c n : Nat) (L : List Int) (hs : a.eval s = .slice (some ⟨g, 0, none⟩) n c) (hn : L.length = n) (hO : Owns w W.heap.size g c L)
    (ad : Addr) (m c2 : Nat) (news : List Int) (hx : a.eval x = .slice (some ad) m c2) (hl : news.length = m)
    (hcells : ∀ j, j < m → w.cell? (ad.add j) = some (.int .i64 (news[j]?.getD 0))) (hsz : n + m ≤ 1000000)
    (h : ∀ g' c' w', Owns w' W.heap.size g' c' (L ++ news) → Below W.heap.size W w' → (∀ p : Addr, p.block ≠ g → p.block < w.heap.size → w'.cell? p = w.cell? p) → K (a.put o.dst (.slice (some ⟨g', 0, none⟩) (n + m) c')) w') :
    if Region.wanted o (yielded ops a.tmps) = true then Oper.wp Try.prog o a w K Q else E := by
  refine step_append_ints hgd s x ho W.heap.size g c n L hs hn hO ad m c2 news hx hl hcells hsz hbel.size fun g' c' w' h1 h2 h3 => ?_
  refine h g' c' w' h1 (hbel.grown h2 hbel.size (fun k e => by cases e; exact hO.ge)) fun p hp hlt => ?_
  exact h2.cell_far p hlt (by simpa using hp)

theorem row_cells {W : World} {g : Nat} {L : List Int} (h : Row W g 0 L) (j m : Nat) (M : List Int) (hM : ∀ i, i < m → M[i]?.getD 0 = L[j + i]?.getD 0) (hjm : j + m ≤ L.length) : ∀ i, i < m → W.cell? ((⟨g, j, none⟩ : Addr).add i) = some (.int .i64 (M[i]?.getD 0)) := by
  intro i hi
  have e : (⟨g, j, none⟩ : Addr).add i = ⟨g, j + i, none⟩ := by unfold Addr.add; split <;> simp_all
  rw [e, hM i hi]
  have := h.2 (j + i) (by omega)
  rwa [Nat.zero_add] at this

theorem l1Sorted_any (b off c : Nat) (zs : List Int) (w : World) (hlen : zs.length ≤ 1000) (hr : Row w b off zs) :
    Calls Try.prog 34 #[.slice (some ⟨b, off, none⟩) zs.length c] w fun e w' => ∃ g c', e = .returned (.slice (some ⟨g, 0, none⟩) zs.length c') ∧ Owns w' w.heap.size g c' (sorted zs) ∧ Below w.heap.size w w' := by
  have hO0 := owns_empty w w.heap.size (Nat.le_refl _)
  have hB0 : Below w.heap.size w (w.alloc (.cells #[] 3)) := by go_grown
  go_enter Try.func34, Try.ntmps34
  go_wp2
  go_loopw [4, 3] (fun i s wr => ∃ (k g c1 : Nat), k ≤ zs.length ∧ i = .int .i64 k ∧ s = .slice (some ⟨g, 0, none⟩) k c1 ∧ Owns wr w.heap.size g c1 (insTo (fun x y => decide (x < y)) zs k) ∧ Below w.heap.size w wr) (fun i _ _ => zs.length - (intOf i).toNat)
  case atStart => exact ⟨0, _, 0, Nat.zero_le _, rfl, rfl, hO0, hB0⟩
  case round =>
    clear hO0 hB0
    obtain ⟨k, g, c1, hk, rfl, rfl, hO, hB⟩ := hrel
    by_cases hlt : k < zs.length
    · have hst : insTo (fun x y => decide (x < y)) zs (k + 1) = insP (fun y => decide (zs[k]?.getD 0 < y)) (zs[k]?.getD 0) (insTo (fun x y => decide (x < y)) zs k) := rfl
      have hLl := insTo_length (fun x y => decide (x < y)) zs k
      have hcx := (hr.behind hB).2 k hlt
      obtain ⟨L, hL⟩ : ∃ L, insTo (fun x y => decide (x < y)) zs k = L := ⟨_, rfl⟩
      obtain ⟨x, hx⟩ : ∃ x, zs[k]?.getD 0 = x := ⟨_, rfl⟩
      rw [hL, hx] at hst
      rw [hL] at hO hLl
      rw [hx] at hcx
      have hrow := hO.row
      have hck := hO.parts
      obtain ⟨cur, _, _, hkc, _⟩ := hck
      rw [hLl] at hkc
      have hsz := hB.size
      have HST := Lib.hid hst
      have HO := Lib.hid hO
      have HB := Lib.hid hB
      have HLL := Lib.hid hLl
      clear hst hO hB hL hx hr
      go_wp2
      go_loopw [5] (fun kk wr2 => ∃ j m : Nat, j ≤ k ∧ kk = .int .i64 j ∧ cutP (fun y => decide (x < y)) L k = cutP (fun y => decide (x < y)) L j ∧ wr2 = wr.drewN m) (fun kk _ => (intOf kk).toNat)
      case atStart => exact ⟨k, 0, Nat.le_refl _, rfl, rfl, rfl⟩
      case round =>
        obtain ⟨j, m, hj, rfl, hcut, rfl⟩ := hrel
        have HC := Lib.hid hcut
        clear hcut
        by_cases hc : ∃ j', j = j' + 1 ∧ x < L[j']?.getD 0
        · obtain ⟨j', rfl, hxy⟩ := hc
          have cA := hrow.2 j' (by rw [hLl]; omega)
          rw [Nat.zero_add] at cA
          have e1 : ((j' + 1 : Nat) : Int) - 1 = (j' : Int) := by omega
          have hcc : cutP (fun y => decide (x < y)) L (j' + 1) = cutP (fun y => decide (x < y)) L j' := by simp only [cutP]; rw [if_pos (by simpa using hxy)]
          obtain ⟨y, hy⟩ : ∃ y, L[j']?.getD 0 = y := ⟨_, rfl⟩
          rw [hy] at cA hxy
          have HCC := Lib.hid hcc
          clear hcc hy hrow
          go_wp2
          go_quiet (fail)
          go_wp2
          go_roundw
          case rel => exact ⟨j', _, by omega, by go_num, HC.out.trans HCC.out, rfl⟩
          case measure => simp [intOf]
        · have hcf : cutP (fun y => decide (x < y)) L j = j := by
            cases j with
            | zero => rfl
            | succ j' =>
              have hn : ¬ x < L[j']?.getD 0 := fun h => hc ⟨j', rfl, h⟩
              simp only [cutP]; rw [if_neg (by simpa using hn)]
          have hins : insP (fun y => decide (x < y)) x L = (L.take j ++ [x]) ++ L.drop j := by
            unfold insP
            rw [HLL.out, HC.out, hcf, List.append_assoc]; rfl
          have HI := Lib.hid hins
          have hj0 : (0 : Int) ≤ (j : Int) := by omega
          have hj1 : (j : Int) ≤ (k : Int) := by omega
          have hj2 : (k : Int) ≤ (c1 : Int) := by omega
          have hk0 : (0 : Int) ≤ (k : Int) := by omega
          have hk1 : (k : Int) < (zs.length : Int) := by omega
          rcases Nat.eq_zero_or_pos j with hj00 | hj00
          · subst hj00
            clear hc
            go_wp2
            go_quiet (fail)
            go_wp2
            refine wp_facts (F := fun W => W.cell? ⟨b, off + k, none⟩ = some (.int .i64 x) ∧ Row W g 0 L ∧ Below w.heap.size w W) ⟨hcx, hrow, ⟨HB.out.os, HB.out.tape, HB.out.output, HB.out.size, HB.out.block⟩⟩ ?_
            rintro W ⟨cW, rW, bW⟩
            have bD : Below W.heap.size W W.drew := ⟨rfl, rfl, rfl, Nat.le_refl _, fun _ _ => rfl⟩
            have hbW : b < W.heap.size := lt_of_cell2 cW
            have oX : Owns ((W.alloc (.cells #[.int .i64 x] 3)).alloc (.cells #[] 3)) W.heap.size (W.heap.size + 1) 0 [] := by have := owns_empty (W.alloc (.cells #[.int .i64 x] 3)) W.heap.size (by simp); simpa using this
            clear hcx hrow
            go_region_law (first
              | (refine step_append_B (by rfl) _ _ (by rfl) W hb41 _ _ _ (L.take 0 ++ [x]) (by rfl) (by first | (simp; done) | (simp [HLL.out]; done) | (simp [HLL.out]; omega)) hO41 _ _ _ (L.drop 0) (by rfl) (by first | (simp [HLL.out]; done) | (simp; done)) (row_cells (rW.behind hb41) 0 _ _ (by simp) (by rw [HLL.out]; omega)) (by first | omega | (simp; done) | (simp; omega)) ?_; intro g45 c45 w45 hO45 hb45 hf45)
              | (refine step_append_B (by rfl) _ _ (by rfl) W (by first | exact hb35 | exact hb35.alloc hb35.size _) _ _ _ (L.take 0) (by rfl) (by first | (simp; done) | (simp [HLL.out]; done) | (simp [HLL.out]; omega)) (by first | exact hO35 | exact hO35.alloc _) _ _ _ [x] (by rfl) rfl (by intro i hi; obtain rfl : i = 0 := Nat.lt_one_iff.1 hi; first | (simp [Addr.add]; done) | (simp only [Addr.add]; rw [hf35 _ (by first | (simp; done) | (simp; omega)) (by first | (simp; done) | (simp; omega))]; simp)) (by first | omega | (simp; done) | (simp; omega)) ?_; intro g41 c41 w41 hO41 hb41 hf41)
              | (refine step_append_B (by rfl) _ _ (by rfl) W (by go_grown) _ _ _ [] (by rfl) rfl (by first | exact owns_empty _ _ (by first | exact Nat.le_refl _ | (simp; done) | (simp; omega)) | exact (owns_empty _ _ (by first | exact Nat.le_refl _ | (simp; done) | (simp; omega))).alloc _ | exact oX) _ _ _ (L.take 0) (by rfl) (by first | (simp; done) | (simp [HLL.out]; done) | (simp [HLL.out]; omega)) (row_cells (rW.behind (by go_grown)) 0 _ _ (fun i hi => by rw [List.getElem?_take_of_lt (by omega), Nat.zero_add]) (by rw [HLL.out]; omega)) (by first | omega | (simp; done) | (simp; omega)) ?_; intro g35 c35 w35 hO35 hb35 hf35; have cc35 := (hb35.cell (p := ⟨b, off + k, none⟩) hbW).trans cW))
            all_goals
              go_wp2
              go_roundw
              case rel => exact ⟨k + 1, g45, c45, by omega, by go_num, by first | (simp; done) | (simp; omega), (hO45.base (Nat.le_trans bW.size hO45.ge)).cast (by rw [HST.out, HI.out]), bW.trans (hb45.mono bW.size)⟩
              case measure => simp [intOf]; omega
          · obtain ⟨j', hj'⟩ : ∃ j', j' + 1 = j := ⟨j - 1, by omega⟩
            have hxy : ¬ x < L[j']?.getD 0 := fun h => hc ⟨j', hj'.symm, h⟩
            have cA := hrow.2 j' (by rw [hLl]; omega)
            have e1 : (j : Int) - 1 = (j' : Int) := by omega
            obtain ⟨y, hy⟩ : ∃ y, L[j']?.getD 0 = y := ⟨_, rfl⟩
            rw [Nat.zero_add, hy] at cA
            rw [hy] at hxy
            clear hy hc hj'
            go_wp2
            go_quiet (fail)
            go_wp2
            refine wp_facts (F := fun W => W.cell? ⟨b, off + k, none⟩ = some (.int .i64 x) ∧ Row W g 0 L ∧ Below w.heap.size w W) ⟨hcx, hrow, ⟨HB.out.os, HB.out.tape, HB.out.output, HB.out.size, HB.out.block⟩⟩ ?_
            rintro W ⟨cW, rW, bW⟩
            have bD : Below W.heap.size W W.drew := ⟨rfl, rfl, rfl, Nat.le_refl _, fun _ _ => rfl⟩
            have hbW : b < W.heap.size := lt_of_cell2 cW
            have oX : Owns ((W.alloc (.cells #[.int .i64 x] 3)).alloc (.cells #[] 3)) W.heap.size (W.heap.size + 1) 0 [] := by have := owns_empty (W.alloc (.cells #[.int .i64 x] 3)) W.heap.size (by simp); simpa using this
            clear hcx hrow
            have hj3 : j ≤ c1 := by omega
            by_cases hcj : c1 = j
            · go_region_law (first
                | (refine step_append_B (by rfl) _ _ (by rfl) W hb41 _ _ _ (L.take j ++ [x]) (by rfl) (by first | (simp; done) | (simp [HLL.out]; done) | (simp [HLL.out]; omega)) hO41 _ _ _ (L.drop j) (by rfl) (by first | (simp [HLL.out]; done) | (simp; done)) (by intro i hi; omega) (by first | omega | (simp; done) | (simp; omega)) ?_; intro g45 c45 w45 hO45 hb45 hf45)
                | (refine step_append_B (by rfl) _ _ (by rfl) W (by first | exact hb35 | exact hb35.alloc hb35.size _) _ _ _ (L.take j) (by rfl) (by first | (simp; done) | (simp [HLL.out]; done) | (simp [HLL.out]; omega)) (by first | exact hO35 | exact hO35.alloc _) _ _ _ [x] (by rfl) rfl (by intro i hi; obtain rfl : i = 0 := Nat.lt_one_iff.1 hi; first | (simp [Addr.add]; done) | (simp only [Addr.add]; rw [hf35 _ (by first | (simp; done) | (simp; omega)) (by first | (simp; done) | (simp; omega))]; simp)) (by first | omega | (simp; done) | (simp; omega)) ?_; intro g41 c41 w41 hO41 hb41 hf41)
                | (refine step_append_B (by rfl) _ _ (by rfl) W (by go_grown) _ _ _ [] (by rfl) rfl (by first | exact owns_empty _ _ (by first | exact Nat.le_refl _ | (simp; done) | (simp; omega)) | exact (owns_empty _ _ (by first | exact Nat.le_refl _ | (simp; done) | (simp; omega))).alloc _ | exact oX) _ _ _ (L.take j) (by rfl) (by first | (simp; done) | (simp [HLL.out]; done) | (simp [HLL.out]; omega)) (row_cells (rW.behind (by go_grown)) 0 _ _ (fun i hi => by rw [List.getElem?_take_of_lt (by omega), Nat.zero_add]) (by rw [HLL.out]; omega)) (by first | omega | (simp; done) | (simp; omega)) ?_; intro g35 c35 w35 hO35 hb35 hf35; have cc35 := (hb35.cell (p := ⟨b, off + k, none⟩) hbW).trans cW))
              all_goals
                go_wp2
                go_roundw
                case rel => exact ⟨k + 1, g45, c45, by omega, by go_num, by first | (simp; done) | (simp; omega), (hO45.base (Nat.le_trans bW.size hO45.ge)).cast (by rw [HST.out, HI.out]), bW.trans (hb45.mono bW.size)⟩
                case measure => simp [intOf]; omega
            · go_region_law (first
                | (refine step_append_B (by rfl) _ _ (by rfl) W hb41 _ _ _ (L.take j ++ [x]) (by rfl) (by first | (simp; done) | (simp [HLL.out]; done) | (simp [HLL.out]; omega)) hO41 _ _ _ (L.drop j) (by rfl) (by first | (simp [HLL.out]; done) | (simp; done)) (row_cells (rW.behind hb41) j _ _ (by simp) (by rw [HLL.out]; omega)) (by first | omega | (simp; done) | (simp; omega)) ?_; intro g45 c45 w45 hO45 hb45 hf45)
                | (refine step_append_B (by rfl) _ _ (by rfl) W (by first | exact hb35 | exact hb35.alloc hb35.size _) _ _ _ (L.take j) (by rfl) (by first | (simp; done) | (simp [HLL.out]; done) | (simp [HLL.out]; omega)) (by first | exact hO35 | exact hO35.alloc _) _ _ _ [x] (by rfl) rfl (by intro i hi; obtain rfl : i = 0 := Nat.lt_one_iff.1 hi; first | (simp [Addr.add]; done) | (simp only [Addr.add]; rw [hf35 _ (by first | (simp; done) | (simp; omega)) (by first | (simp; done) | (simp; omega))]; simp)) (by first | omega | (simp; done) | (simp; omega)) ?_; intro g41 c41 w41 hO41 hb41 hf41)
                | (refine step_append_B (by rfl) _ _ (by rfl) W (by go_grown) _ _ _ [] (by rfl) rfl (by first | exact owns_empty _ _ (by first | exact Nat.le_refl _ | (simp; done) | (simp; omega)) | exact (owns_empty _ _ (by first | exact Nat.le_refl _ | (simp; done) | (simp; omega))).alloc _ | exact oX) _ _ _ (L.take j) (by rfl) (by first | (simp; done) | (simp [HLL.out]; done) | (simp [HLL.out]; omega)) (row_cells (rW.behind (by go_grown)) 0 _ _ (fun i hi => by rw [List.getElem?_take_of_lt (by omega), Nat.zero_add]) (by rw [HLL.out]; omega)) (by first | omega | (simp; done) | (simp; omega)) ?_; intro g35 c35 w35 hO35 hb35 hf35; have cc35 := (hb35.cell (p := ⟨b, off + k, none⟩) hbW).trans cW))
              all_goals
                go_wp2
                go_roundw
                case rel => exact ⟨k + 1, g45, c45, by omega, by go_num, by first | (simp; done) | (simp; omega), (hO45.base (Nat.le_trans bW.size hO45.ge)).cast (by rw [HST.out, HI.out]), bW.trans (hb45.mono bW.size)⟩
                case measure => simp [intOf]; omega
    · obtain rfl : k = zs.length := by omega
      go_wp2
      go_ret
      exact ⟨g, c1, rfl, hO, hB⟩

end Go.Proofs.Ytbechpbfefdmgaa
