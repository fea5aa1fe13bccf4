/- Lists of items: two cells each. The laws' own small functions on them. -/
import Derived.Test.YtfcnlfcjcmpkcaaLeaf
import Derived.Test.YtfcnlfcjcmpkcaaSacks
import Derived.BigQuiet
import Derived.Deep.QuietTactic
import Derived.Deep.RegionWith
namespace Go.Proofs.Ytfcnlfcjcmpkcaa
open Go.RowKit

theorem Row.wt {w : World} {b off n : Nat} {zs : List Int} (h : Row w b off zs) (hz : zs.length = 2 * n) (i : Nat) (hi : i < n) : w.cell? ⟨b, off + i * 2, none⟩ = some (.int .i64 (wt zs i)) := by
  have := h.2 (2 * i) (by omega)
  rwa [Nat.mul_comm 2 i, show zs[i * 2]?.getD 0 = Go.Proofs.Ytfcnlfcjcmpkcaa.wt zs i by unfold Go.Proofs.Ytfcnlfcjcmpkcaa.wt; rw [Nat.mul_comm]] at this
theorem Row.wo {w : World} {b off n : Nat} {zs : List Int} (h : Row w b off zs) (hz : zs.length = 2 * n) (i : Nat) (hi : i < n) : w.cell? ⟨b, off + i * 2 + 1, none⟩ = some (.int .i64 (wo zs i)) := by
  have := h.2 (2 * i + 1) (by omega)
  rwa [show zs[2 * i + 1]?.getD 0 = Go.Proofs.Ytfcnlfcjcmpkcaa.wo zs i from rfl, show off + (2 * i + 1) = off + i * 2 + 1 by omega] at this
theorem Row.wt0 {w : World} {b n : Nat} {zs : List Int} (h : Row w b 0 zs) (hz : zs.length = 2 * n) (i : Nat) (hi : i < n) : w.cell? ⟨b, i * 2, none⟩ = some (.int .i64 (Go.Proofs.Ytfcnlfcjcmpkcaa.wt zs i)) := by
  have := Row.wt h hz i hi
  rwa [Nat.zero_add] at this
theorem Row.wo0 {w : World} {b n : Nat} {zs : List Int} (h : Row w b 0 zs) (hz : zs.length = 2 * n) (i : Nat) (hi : i < n) : w.cell? ⟨b, i * 2 + 1, none⟩ = some (.int .i64 (Go.Proofs.Ytfcnlfcjcmpkcaa.wo zs i)) := by
  have := Row.wo h hz i hi
  rwa [Nat.zero_add] at this

set_option maxHeartbeats 1000000
theorem toItem_any (x y : Int) (w : World) :
    Calls Try.prog 40 #[.agg #[.int .i64 x, .int .i64 y]] w fun e w' => e = .returned (.agg #[.int .i64 x, .int .i64 y]) ∧ Below w.heap.size w w' := by
  go_enter Try.func40, Try.ntmps40
  go_wp2
  refine bodyPost_ret (v := .agg #[.int .i64 x, .int .i64 y]) (by simp [results, Try.f40, go_sem]) rfl ⟨rfl, by go_grown⟩

theorem szItemS_big (A : Option Addr) (n c : Nat) (w : World) (hn : n ≤ 9223372036854775807) (h : 1048576 < n) :
    Calls Try.prog 17 #[.slice A n c, .int .i64 1048576] w fun e w' => e = .returned (.int .i64 (-1)) ∧ w = w' := by
  go_enter Try.func17, Try.ntmps17
  go_wp2
  go_ret
  exact ⟨rfl, rfl⟩

theorem szItemS_small (A : Option Addr) (n c : Nat) (w : World) (h : ¬1048576 < n) :
    Calls Try.prog 17 #[.slice A n c, .int .i64 1048576] w fun e w' => e = .returned (.int .i64 (1048576 - (n : Int))) ∧ w = w' := by
  go_enter Try.func17, Try.ntmps17
  go_wp2
  go_ret
  exact ⟨rfl, rfl⟩

theorem eqItem_any (x y x' y' : Int) (w : World) :
    Calls Try.prog 41 #[.agg #[.int .i64 x, .int .i64 y], .agg #[.int .i64 x', .int .i64 y']] w fun e w' => e = .returned (.bool (decide (x = x') && decide (y = y'))) ∧ Below w.heap.size w w' := by
  by_cases h1 : x = x'
  · subst h1
    by_cases h2 : y = y'
    · subst h2
      have q1 : (x != x) = false := by simp
      have q2 : (y != y) = false := by simp
      go_enter Try.func41, Try.ntmps41
      go_wp2
      go_ret
      exact ⟨ret_bool (by simp), by go_grown⟩
    · have q1 : (x != x) = false := by simp
      have q2 : (y != y') = true := by simp [h2]
      have H := Lib.hid h2
      clear h2
      go_enter Try.func41, Try.ntmps41
      go_wp2
      go_ret
      exact ⟨ret_bool (by simp [H.out]), by go_grown⟩
  · have q1 : (x != x') = true := by simp [h1]
    have H := Lib.hid h1
    clear h1
    go_enter Try.func41, Try.ntmps41
    go_wp2
    go_ret
    exact ⟨ret_bool (by simp [H.out]), by go_grown⟩

theorem info_item : (Try.prog.info? 30).map (fun i => (i.zero, i.size, i.bytes)) = some (some (.agg #[.int .i64 0, .int .i64 0]), 2, 16) := by kernel_rfl

/-- A list of n items of the call's own. -/
def OwnI (w : World) (B g n : Nat) (zs : List Int) : Prop :=
  zs.length = 2 * n ∧ w.ownsRow B 30 2 (.slice (some ⟨g, 0, none⟩) n n) n (zs.map (Value.int .i64))

theorem OwnI.parts {w : World} {B g n : Nat} {zs : List Int} (h : OwnI w B g n zs) : ∃ cur, B ≤ g ∧ w.heap[g]? = some (.cells cur 30 (0, 0)) ∧ n ≤ maxLen ∧ cur.size = 2 * n ∧ cur.toList = zs.map (Value.int .i64) := by
  obtain ⟨hz, hh⟩ := h
  rcases hh.2 with ⟨h', _⟩ | ⟨g', cap', cur, h', hb, hg, hnc, hcm, hcs, htake⟩
  · simp at h'
  · simp only [Value.slice.injEq, Option.some.injEq, Addr.mk.injEq, and_true, true_and] at h'
    obtain ⟨rfl, rfl⟩ := h'
    refine ⟨cur, hb, hg, hcm, by omega, ?_⟩
    rw [← htake, List.take_of_length_le]
    simp; omega
theorem OwnI.lt {w : World} {B g n : Nat} {zs : List Int} (h : OwnI w B g n zs) : g < w.heap.size := by
  obtain ⟨cur, _, hg, _⟩ := h.parts
  exact lt_of_block hg
theorem OwnI.ge {w : World} {B g n : Nat} {zs : List Int} (h : OwnI w B g n zs) : B ≤ g := by
  obtain ⟨cur, hb, _⟩ := h.parts
  exact hb
theorem OwnI.row {w : World} {B g n : Nat} {zs : List Int} (h : OwnI w B g n zs) : Row w g 0 zs := by
  refine ⟨h.lt, fun j hj => ?_⟩
  rw [Nat.zero_add, World.ownsRow.cellAt h.2 j (by have := h.1; omega)]
  simp [hj]
theorem OwnI.free {w : World} {B g n : Nat} {zs : List Int} (h : OwnI w B g n zs) (j : Nat) : w.frozen? ⟨g, j, none⟩ = false := World.ownsRow.frozenAt h.2 j
theorem OwnI.set_ {w : World} {B g n : Nat} {zs : List Int} (h : OwnI w B g n zs) (j : Nat) (x : Int) : OwnI (w.setCell ⟨g, j, none⟩ (.int .i64 x)) B g n (zs.set j x) := by
  have := (World.ownsRow.stored h.2 j (.int .i64 x)).1
  refine ⟨by simpa using h.1, ?_⟩
  rw [List.map_set]
  exact this
theorem OwnI.of_block {w w' : World} {B g n : Nat} {zs : List Int} (h : OwnI w B g n zs) (hk : w'.heap[g]? = w.heap[g]?) : OwnI w' B g n zs := by
  refine ⟨h.1, h.2.1, .inr ?_⟩
  obtain ⟨cur, hb, hg, h1, h2, h3⟩ := h.parts
  exact ⟨g, n, cur, rfl, hb, hk.trans hg, Nat.le_refl _, h1, by omega, by rw [h3, List.take_of_length_le]; simp; have := h.1; omega⟩
theorem OwnI.below {w w' : World} {B g n : Nat} {zs : List Int} (h : OwnI w B g n zs) {B' : Nat} (hb : Below B' w w') (hB : g < B') : OwnI w' B g n zs := h.of_block (hb.block g hB)
theorem OwnI.behind {w w' : World} {B g n : Nat} {zs : List Int} (h : OwnI w B g n zs) (hb : Below w.heap.size w w') : OwnI w' B g n zs := h.below hb h.lt
theorem OwnI.drewN {w : World} {B g n : Nat} {zs : List Int} (h : OwnI w B g n zs) (k : Nat) : OwnI (w.drewN k) B g n zs := h
theorem OwnI.grown {w w' : World} {B g g' n : Nat} {zs : List Int} (h : OwnI w B g' n zs) (hg : w.grownBy w' (some g)) (hne : g' ≠ g) : OwnI w' B g' n zs :=
  h.of_block (hg.block g' h.lt (by simpa using hne))
theorem OwnI.cast {w : World} {B g n : Nat} {zs ys : List Int} (h : OwnI w B g n zs) (e : zs = ys) : OwnI w B g n ys := e ▸ h
theorem OwnI.made {w : World} {B g n : Nat} (h : w.ownsRow B 30 2 (.slice (some ⟨g, 0, none⟩) n n) n (madeCells (Value.agg #[.int .i64 0, .int .i64 0]).cells (n * 2)).toList) : OwnI w B g n (List.replicate (2 * n) 0) := by
  refine ⟨by simp, ?_⟩
  have e : (madeCells (Value.agg #[.int .i64 0, .int .i64 0]).cells (n * 2)).toList = (List.replicate (2 * n) (0 : Int)).map (Value.int .i64) := by
    unfold madeCells
    apply List.ext_getElem
    · simp; omega
    · intro i h1 h2
      simp [Value.cells]
      have : i % 2 = 0 ∨ i % 2 = 1 := by omega
      rcases this with e | e <;> rw [e] <;> rfl
  rwa [e] at h

theorem fill2_step (zs : List Int) (k n : Nat) (hz : zs.length = 2 * n) (hk : k < n) :
    ((zs.take (2 * k) ++ List.replicate (2 * n - 2 * k) 0).set (2 * k) (wt zs k)).set (2 * k + 1) (wo zs k) = zs.take (2 * (k + 1)) ++ List.replicate (2 * n - 2 * (k + 1)) 0 := by
  unfold wt wo
  have h1 := fill_step zs (2 * k) (2 * n) (by omega) (by omega)
  have h2 := fill_step zs (2 * k + 1) (2 * n) (by omega) (by omega)
  rw [h1, h2]
  rfl

theorem toItemS_any (A : Option Addr) (n c : Nat) (zs : List Int) (w : World) (hn : n * 16 ≤ 140737488351232) (hz : zs.length = 2 * n) (hA : Reads w A zs) :
    Calls Try.prog 18 #[.slice A n c] w fun e w' => e = .returned (.slice (some ⟨w.heap.size, 0, none⟩) n n) ∧ OwnI w' w.heap.size w.heap.size n zs ∧ Below w.heap.size w w' := by
  obtain ⟨i0, hi, hz0, hz1, hz2⟩ := info_parts info_item
  go_enter Try.func18, Try.ntmps18
  go_wp2_with (at_make; refine wpList_make_full _ rfl _ _ 23 rfl w.heap.size 30 i0 (.agg #[.int .i64 0, .int .i64 0]) 2 Try.underlying23 hi hz0 hz1 .i64 .i64 _ _ n rfl rfl rfl rfl (by rw [hz2]; omega) (by unfold maxLen; omega) (Nat.le_refl _) ?_; intro w1 hown hgrow)
  have hO : OwnI w1 w.heap.size w.heap.size n (zs.take (2 * 0) ++ List.replicate (2 * n - 2 * 0) 0) := (OwnI.made hown).cast (by simp)
  have hB : Below w.heap.size w w1 := (Below.refl _ w).grown hgrow (Nat.le_refl _) (by simp)
  have HO := Lib.hid hO
  have HZ := Lib.hid hz
  clear hown hgrow hO hz
  go_loopw [4] (fun i wr => ∃ k : Nat, k ≤ n ∧ i = .int .i64 k ∧ OwnI wr w.heap.size w.heap.size n (zs.take (2 * k) ++ List.replicate (2 * n - 2 * k) 0) ∧ Below w.heap.size w wr) (fun i _ => n - (intOf i).toNat)
  case atStart => exact ⟨0, Nat.zero_le _, rfl, HO.out, hB⟩
  case round =>
    obtain ⟨k, hk, rfl, hO, hB⟩ := hrel
    clear HO
    by_cases hlt : k < n
    · obtain ⟨b, off, rfl, hrow⟩ : ∃ b off, A = some ⟨b, off, none⟩ ∧ Row w b off zs := by
        rcases hA with e | h
        · have := HZ.out; rw [e] at this; simp at this; omega
        · exact h
      have hcell := Row.wt (hrow.behind hB) HZ.out k hlt
      have hcell' := Row.wo (hrow.behind hB) HZ.out k hlt
      obtain ⟨x, hx⟩ : ∃ x, wt zs k = x := ⟨_, rfl⟩
      obtain ⟨y, hy⟩ : ∃ y, wo zs k = y := ⟨_, rfl⟩
      rw [hx] at hcell
      rw [hy] at hcell'
      have HX := Lib.hid hx
      have HY := Lib.hid hy
      have HO := Lib.hid hO
      have HB := Lib.hid hB
      have hz := hB.size
      clear hx hy hO hB hrow hA
      go_wp2_with (go_at_call 40; refine (toItem_any _ _ _).mono ?_; rintro e w2 ⟨rfl, hB2⟩; have hO2 := HO.out.behind hB2; have hl2 := hO2.1; have c1 := Row.wt0 hO2.row hl2 k hlt; have c2 := Row.wo0 hO2.row hl2 k hlt; have f1 := hO2.free (k * 2); have f2 := hO2.free (k * 2 + 1); have hst := ((hO2.set_ (k * 2) x).set_ (k * 2 + 1) y); have HST := Lib.hid hst; have HB3 := Lib.hid (((HB.out.trans (hB2.mono hz)).setCell (p := ⟨w.heap.size, k * 2, none⟩) (Nat.le_refl _) (.int .i64 x)).setCell (p := ⟨w.heap.size, k * 2 + 1, none⟩) (Nat.le_refl _) (.int .i64 y)); clear hO2 hl2 hst)
      go_roundw
      case rel =>
        refine ⟨k + 1, by omega, by go_num, HST.out.cast ?_, HB3.out⟩
        have := fill2_step zs k n HZ.out hlt
        rw [HX.out, HY.out] at this
        rw [Nat.mul_comm k 2]; exact this
      case measure => simp [intOf]; omega
    · obtain rfl : k = n := by omega
      go_wp2
      go_ret
      have HZ := HZ.out
      exact ⟨rfl, hO.cast (by rw [List.take_of_length_le (by omega)]; simp), hB⟩

theorem eq2_of {n : Nat} {xs ys : List Int} (hx : xs.length = 2 * n) (hy : ys.length = 2 * n) (h : ∀ j, j < n → wt xs j = wt ys j ∧ wo xs j = wo ys j) : xs = ys := by
  refine eq_of_get (hx.trans hy.symm) fun j hj => ?_
  rcases Nat.mod_two_eq_zero_or_one j with e | e
  · have := (h (j / 2) (by omega)).1
    unfold wt at this
    rwa [show 2 * (j / 2) = j by omega] at this
  · have := (h (j / 2) (by omega)).2
    unfold wo at this
    rwa [show 2 * (j / 2) + 1 = j by omega] at this

theorem eqItemS_same (b off c b' off' c' n : Nat) (zs : List Int) (w : World) (hn : n ≤ 1152921504606846976) (hz : zs.length = 2 * n) (h1 : Row w b off zs) (h2 : Row w b' off' zs) :
    Calls Try.prog 19 #[.slice (some ⟨b, off, none⟩) n c, .slice (some ⟨b', off', none⟩) n c'] w fun e w' => e = .returned (.bool true) ∧ Below w.heap.size w w' := by
  have hl : ((n : Int) != (n : Int)) = false := by simp
  have HZ := Lib.hid hz
  clear hz
  go_enter Try.func19, Try.ntmps19
  go_wp2
  go_loopw [5] (fun i wr => ∃ k : Nat, k ≤ n ∧ i = .int .i64 k ∧ Below w.heap.size w wr) (fun i _ => n - (intOf i).toNat)
  case atStart => exact ⟨0, Nat.zero_le _, rfl, Below.refl _ _⟩
  case round =>
    obtain ⟨k, hk, rfl, hB⟩ := hrel
    by_cases hlt : k < n
    · have c1 := Row.wt (h1.behind hB) HZ.out k hlt
      have c2 := Row.wo (h1.behind hB) HZ.out k hlt
      have c3 := Row.wt (h2.behind hB) HZ.out k hlt
      have c4 := Row.wo (h2.behind hB) HZ.out k hlt
      obtain ⟨x, hx⟩ : ∃ x, wt zs k = x := ⟨_, rfl⟩
      obtain ⟨y, hy⟩ : ∃ y, wo zs k = y := ⟨_, rfl⟩
      rw [hx] at c1 c3
      rw [hy] at c2 c4
      have hz := hB.size
      have HB := Lib.hid hB
      clear hx hy hB h1 h2
      go_wp2
      go_region_with (go_at_call 41; refine (eqItem_any _ _ _ _ _).mono ?_; rintro e w2 ⟨rfl, hB2⟩; have HB2 := Lib.hid ((below_drewN HB.out _).trans (hB2.mono hz)); clear hB2)
      all_goals
        go_wp2
        go_roundw
        case rel => exact ⟨k + 1, by omega, by go_num, HB2.out⟩
        case measure => simp [intOf]; omega
    · obtain rfl : k = n := by omega
      go_wp2
      go_ret
      exact ⟨rfl, hB⟩

theorem mark2_step (m k n : Nat) (zs : List Int) (hz : zs.length = 2 * n) (hk : k < n) :
    ((marked m (2 * k) ++ zs.drop (2 * k)).set (2 * k) ((m : Int) + (2 * k : Nat))).set (2 * k + 1) ((m : Int) + (2 * k + 1 : Nat)) = marked m (2 * (k + 1)) ++ zs.drop (2 * (k + 1)) := by
  have h1 := mark_step m zs (2 * k) (by omega)
  have h2 := mark_step m zs (2 * k + 1) (by omega)
  rw [h1, h2]
  rfl

theorem markItemS_any (B g m n : Nat) (zs : List Int) (w : World) (hm : m ≤ 1152921504606846976) (hn : n ≤ 1152921504606846976) (hO : OwnI w B g n zs) :
    Calls Try.prog 24 #[.slice (some ⟨g, 0, none⟩) n n, .int .i64 m] w fun e w' => e = .returned (.int .i64 ((m : Int) + 2 * (n : Int))) ∧ w.grownBy w' (some g) := by
  have hz := hO.1
  have hO0 : OwnI w B g n (marked m (2 * 0) ++ zs.drop (2 * 0)) := hO.cast (by simp [marked])
  have HO := Lib.hid hO0
  have HZ := Lib.hid hz
  clear hO hO0 hz
  go_enter Try.func24, Try.ntmps24
  go_wp2
  go_loopw [5, 1] (fun i v wr => ∃ k : Nat, k ≤ n ∧ i = .int .i64 k ∧ v = .int .i64 ((m : Int) + 2 * (k : Int)) ∧ OwnI wr B g n (marked m (2 * k) ++ zs.drop (2 * k)) ∧ w.grownBy wr (some g)) (fun i _ _ => n - (intOf i).toNat)
  case atStart => exact ⟨0, Nat.zero_le _, rfl, by simp, HO.out, World.grownBy.refl _ _⟩
  case round =>
    clear HO
    obtain ⟨k, hk, rfl, rfl, hO, hB⟩ := hrel
    by_cases hlt : k < n
    · have c1 := Row.wt0 hO.row hO.1 k hlt
      have c2 := Row.wo0 hO.row hO.1 k hlt
      have f1 := hO.free (k * 2)
      have f2 := hO.free (k * 2 + 1)
      have hst := ((hO.set_ (k * 2) ((m : Int) + 2 * (k : Int))).set_ (k * 2 + 1) ((m : Int) + 2 * (k : Int) + 1))
      have HST := Lib.hid hst
      have HB2 := Lib.hid (grown_trans (grown_trans hB (grown_set wr g (k * 2) (.int .i64 ((m : Int) + 2 * (k : Int))))) (grown_set _ g (k * 2 + 1) (.int .i64 ((m : Int) + 2 * (k : Int) + 1))))
      clear hO hB hst
      go_wp2
      go_roundw
      case rel =>
        refine ⟨k + 1, by omega, by go_num, by go_num, HST.out.cast ?_, HB2.out⟩
        have := mark2_step m k n zs HZ.out hlt
        rw [show ((2 * k : Nat) : Int) = 2 * (k : Int) by omega, show ((2 * k + 1 : Nat) : Int) = 2 * (k : Int) + 1 by omega] at this
        rw [← this, Nat.mul_comm 2 k, show (m : Int) + (2 * (k : Int) + 1) = (m : Int) + 2 * (k : Int) + 1 by omega]
      case measure => simp [intOf]; omega
    · obtain rfl : k = n := by omega
      go_wp2
      go_ret
      exact ⟨rfl, hB⟩

end Go.Proofs.Ytfcnlfcjcmpkcaa
