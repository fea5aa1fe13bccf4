/- The iterator over all choices of a list with their sums: its contract. -/
import Derived.Test.YtbechpbfefdmgaaLeaf
import Derived.RangeFuncNested
import Derived.RangeFuncBound
import Derived.RangeFuncCalls
import Derived.RangeFuncLeaves
import Derived.Shelf.Abstract
import Derived.Shelf.RegionOpen
import Derived.OwnWalkIn
import Derived.TacticsInMore
import Derived.LoopNIn
import Derived.LoopIn
import Derived.RangeFuncBox
namespace Go.Proofs.Ytbechpbfefdmgaa
open Go.RowKit Go.Shelf

attribute [local go_sem] Oper.semAt_some

/-- A choice among 2^n. -/
abbrev Ch (n : Nat) := { k : Nat // k < 2 ^ n }
/-- The first k choices. -/
def firsts (n k : Nat) (h : k ≤ 2 ^ n) : List (Ch n) := (List.range k).attach.map fun j => ⟨j.1, by have := List.mem_range.1 j.2; omega⟩
theorem firsts_length (n k : Nat) (h : k ≤ 2 ^ n) : (firsts n k h).length = k := by simp [firsts]
theorem firsts_get (n k : Nat) (h : k ≤ 2 ^ n) (i : Nat) (hi : i < (firsts n k h).length) : ((firsts n k h)[i]).1 = i := by simp [firsts]
theorem firsts_succ (n k : Nat) (h : k + 1 ≤ 2 ^ n) : firsts n (k + 1) h = firsts n k (by omega) ++ [⟨k, by omega⟩] := by
  apply List.ext_getElem
  · simp [firsts_length]
  · intro i h1 h2
    apply Subtype.ext
    rw [firsts_get]
    rw [firsts_length] at h1
    by_cases e : i < k
    · rw [List.getElem_append_left (by rw [firsts_length]; exact e), firsts_get]
    · have : i = k := by omega
      subst this
      rw [List.getElem_append_right (by rw [firsts_length]; omega)]
      simp [firsts_length]
theorem firsts_last {n k : Nat} {h : k ≤ 2 ^ n} {ini : List (Ch n)} {x : Ch n} (e : ini ++ [x] = firsts n k h) : k = x.1 + 1 ∧ ini = firsts n x.1 (by omega) := by
  cases k with
  | zero => simp [firsts] at e
  | succ k =>
    rw [firsts_succ] at e
    obtain ⟨rfl, e2⟩ := List.append_inj' e rfl
    have e3 : x = ⟨k, by omega⟩ := by simpa using e2
    have e4 : x.1 = k := by rw [e3]
    exact ⟨by omega, by simp only [e4]⟩

/-- What a round keeps: two blocks. -/
def KeepsTwo (B b : Nat) (W W' : World) : Prop := W'.heap[B]? = W.heap[B]? ∧ W'.heap[b]? = W.heap[b]? ∧ W.heap.size ≤ W'.heap.size
theorem KeepsTwo.refl (B b : Nat) (W : World) : KeepsTwo B b W W := ⟨rfl, rfl, Nat.le_refl _⟩
theorem KeepsTwo.trans {B b : Nat} {X Y Z : World} (h : KeepsTwo B b X Y) (k : KeepsTwo B b Y Z) : KeepsTwo B b X Z := ⟨k.1.trans h.1, k.2.1.trans h.2.1, Nat.le_trans h.2.2 k.2.2⟩
theorem keepsTwo_b {B b : Nat} {w : World} (hB : B < w.heap.size) (hb : b < w.heap.size) (W : World) (l : Nat) (o o' : Obj) (hl : w.heap.size ≤ l) (_h : W.heap[l]? = some o) (_ : o.isCells = false) (_ : o.isWalk = false) : KeepsTwo B b W (W.putObj l o') :=
  ⟨World.putObj_heap_other (by omega), World.putObj_heap_other (by omega), by simp⟩
theorem KeepsTwo.grown {B b g : Nat} {W W' : World} (hg : W.grownBy W' (some g)) (hB : B < W.heap.size) (hb : b < W.heap.size) (h1 : B ≠ g) (h2 : b ≠ g) : KeepsTwo B b W W' :=
  ⟨hg.block B hB (by simpa using h1), hg.block b hb (by simpa using h2), hg.size⟩
theorem KeepsTwo.row {B b off : Nat} {W W' : World} {zs : List Int} (h : KeepsTwo B b W W') (hr : Row W b off zs) : Row W' b off zs :=
  ⟨Nat.lt_of_lt_of_le hr.1 h.2.2, fun j hj => (World.cell?_of_block h.2.1).trans (hr.2 j hj)⟩

theorem choiceSums_any (b off c : Nat) (n : Nat) (w : World) :
    Calls Try.prog 40 #[.slice (some ⟨b, off, none⟩) n c] w fun e w' => e = .returned (.func (.func 52) #[] #[.pointer (some ⟨w.heap.size, 0, none⟩)]) ∧ w' = w.alloc (.cells #[.slice (some ⟨b, off, none⟩) n c] 22) := by
  go_enter Try.func40, Try.ntmps40
  go_wp2
  go_ret
  exact ⟨rfl, rfl⟩

set_option maxRecDepth 100000 in
set_option maxHeartbeats 2000000 in
theorem choices1_in (F : Fence) (n : Nat) (hF : F = Fence.wide) (h7 : F.fn 52) (hro : F.round = none) (hn : 1 ≤ n) (l Bs b off c : Nat) (zs : List Int) (hin : isIn zs = true) (J Jx : List (Ch zs.length) → World → Prop)
    (hY : ∀ pre x W, J pre W → pre.length < 2 ^ zs.length → YieldAt F (n - 1) Try.prog l #[.int .i64 ((x : Ch zs.length).1 : Int), .int .i64 (cs zs x.1 zs.length)] W fun e W' =>
      (e = .returned (.bool true) ∧ J (pre ++ [x]) W' ∧ KeepsTwo Bs b W W') ∨ (e = .returned (.bool false) ∧ Jx (pre ++ [x]) W'))
    (W : World) (hBs : W.cell? ⟨Bs, 0, none⟩ = some (.slice (some ⟨b, off, none⟩) zs.length c)) (hr : Row W b off zs) (h0 : J [] W) :
    CallsIn F n Try.prog 52 #[.func (.yield l) #[] #[], .pointer (some ⟨Bs, 0, none⟩)] W fun e W' => (∃ v, e = .returned v) ∧
      ((∃ ys, ys = firsts zs.length (2 ^ zs.length) (Nat.le_refl _) ∧ J ys W') ∨ (∃ pre, (∃ k h, pre = firsts zs.length k h) ∧ Jx pre W')) := by
  subst hF
  have hlen := isIn_len hin
  obtain ⟨N, hN, hN1, hN2, hN3⟩ := pow_walk zs.length (by omega)
  have HN := Lib.hid hN
  clear hN
  have HIN := Lib.hid hin
  clear hin
  refine callsIn_of_wp Try.func52 rfl h7 ?_ hro
  simp only [Try.ntmps52, List.size_toArray, List.length_cons, List.length_nil, Nat.reduceAdd, Nat.reduceSub, Array.replicate_succ, Array.replicate_zero, List.push_toArray, List.append_toArray, List.nil_append, List.cons_append]
  gi_wp2
  rw [hN3]
  gi_loopw [7] (fun i wr => ∃ (k : Nat) (h : k ≤ 2 ^ zs.length), i = .int .i64 k ∧ J (firsts zs.length k h) wr ∧ KeepsTwo Bs b W wr)
    (fun i _ => N - (intOf i).toNat)
  case atStart => exact ⟨0, Nat.zero_le _, rfl, by simpa [firsts] using h0, KeepsTwo.refl _ _ _⟩
  case round =>
    obtain ⟨k, hk, rfl, hJs, hk2⟩ := hrel
    have hBx := (World.cell?_of_block hk2.1 (a := ⟨Bs, 0, none⟩)).trans hBs
    have hrx := hk2.row hr
    have hkN : k ≤ N := by rw [← HN.out]; exact hk
    by_cases hlt : k < N
    · have hlt2 : k < 2 ^ zs.length := by rw [HN.out]; exact hlt
      obtain ⟨fn, tmps, assign, body, hy, hR⟩ := hY _ ⟨k, hlt2⟩ wr hJs (by rw [firsts_length]; exact hlt2)
      dsimp only at hy
      have HK := Lib.hid hk2
      have HJ := Lib.hid hJs
      clear hk2 hJs hY hBs hr h0
      gi_wp2_with (refine ⟨trivial, ?_⟩; gi_at_call 53; refine (callsIn_wide.2 (sum_any _ _ _ _ _ _ (by omega) HIN.out hrx)).mono ?_; rintro e w' ⟨rfl, rfl⟩)
      refine hR.mono ?_
      rintro e W3 (⟨rfl, hJ3, hk3⟩ | ⟨rfl, hJx3⟩)
      · have HJ3 := Lib.hid hJ3
        have HK3 := Lib.hid hk3
        clear hJ3 hk3 HJ
        gi_wp2
        go_roundw
        case rel => exact ⟨k + 1, by omega, by simp, by rw [firsts_succ]; exact HJ3.out, HK.out.trans HK3.out⟩
        case measure => simp [intOf]; omega
      · have HJ3 := Lib.hid hJx3
        clear hJx3 HJ
        gi_wp2
        refine bodyPost_ret (results_none rfl _ _ _) rfl ?_
        exact ⟨⟨_, rfl⟩, .inr ⟨_, ⟨k + 1, by omega, (firsts_succ _ _ _).symm⟩, HJ3.out⟩⟩
    · obtain rfl : k = N := by omega
      gi_wp2
      go_end0
      refine ⟨⟨_, rfl⟩, .inl ⟨_, ?_, hJs⟩⟩
      congr 1; exact HN.out.symm

theorem choices_stops (n : Nat) (hn : 1 ≤ n) (Bs b off c : Nat) (zs : List Int) (hin : isIn zs = true) (w : World) (hBs : Bs < w.heap.size)
    (hc : w.cell? ⟨Bs, 0, none⟩ = some (.slice (some ⟨b, off, none⟩) zs.length c)) (hr : Row w b off zs) :
    SeqStopsK Fence.wide n Try.prog 52 #[.pointer (some ⟨Bs, 0, none⟩)] (fun x : Ch zs.length => #[Value.int .i64 (x.1 : Int), Value.int .i64 (cs zs x.1 zs.length)]) (KeepsTwo Bs b)
      (fun ys => ys = firsts zs.length (2 ^ zs.length) (Nat.le_refl _)) (fun pre => ∃ k h, pre = firsts zs.length k h) (2 ^ zs.length) w := fun l J Jx W hW _ _ hY h0 =>
  choices1_in Fence.wide n rfl trivial rfl hn l Bs b off c zs hin J Jx hY W ((hW.cell (p := ⟨Bs, 0, none⟩) hBs).trans hc) (hr.behind hW) h0

theorem boxed_putD {W : World} {B D : Nat} {t : TypeId} {v : Value} {x : Option (List Deferred)} (h : Boxed W B t v) (hK : W.heap[D]? = some (.deferred x)) (o : Obj) : Boxed (W.putObj D o) B t v :=
  h.kept (grownBy_putObj' W D o) (fun e => by
    have e' : B = D := by simpa using e
    subst e'
    rw [show W.heap[B]? = _ from h] at hK; cases hK)
theorem Row.putD {W : World} {b off D : Nat} {zs : List Int} (h : Row W b off zs) (hD : b ≠ D) (o : Obj) : Row (W.putObj D o) b off zs := h.grown (grownBy_putObj' W D o) hD
theorem Owns.putD {W : World} {B g c D : Nat} {zs : List Int} {x : Option (List Deferred)} (h : Owns W B g c zs) (hK : W.heap[D]? = some (.deferred x)) (o : Obj) : Owns (W.putObj D o) B g c zs :=
  h.grown (grownBy_putObj' W D o) (fun e => by
    subst e
    obtain ⟨cur, _, hg, _⟩ := h.parts
    rw [hg] at hK; cases hK)
theorem below_putD {B D : Nat} {w W : World} {x : Option (List Deferred)} (h : Below B w W) (hB : B ≤ D) (hK : W.heap[D]? = some (.deferred x)) (o : Obj) : Below B w (W.putObj D o) :=
  below_wrote h (grownBy_putObj' W D o) (by have := (Array.getElem?_eq_some_iff.1 hK).1; omega) hB
/-- What is said of an owned row abides. -/
theorem owns_own {β : Type} (B g c : Nat) (f : β → List Int) : Own (fun s W => Owns W B g c (f s)) := fun s X Y row hs hg hrow => by
  refine hs.of_block (hg.block g hs.lt (fun e => ?_))
  obtain ⟨o, ho, hc⟩ := hrow g e.symm
  obtain ⟨cur, _, hb, _⟩ := hs.parts
  rw [hb] at ho; cases ho; cases hc

end Go.Proofs.Ytbechpbfefdmgaa
