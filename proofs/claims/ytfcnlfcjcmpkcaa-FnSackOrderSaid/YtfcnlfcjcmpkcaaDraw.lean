/- The reader of a code: it hands out numbers of which we only say that they lie in their range. -/
import Derived.Test.YtfcnlfcjcmpkcaaLeaf
import Derived.BigQuiet
import Derived.Deep.QuietTactic
namespace Go.Proofs.Ytfcnlfcjcmpkcaa
open Go.RowKit

/-- What a slice of bytes reads as. -/
def RowB (w : World) (b off : Nat) (zs : List Int) : Prop :=
  b < w.heap.size ∧ ∀ j, j < zs.length → w.cell? ⟨b, off + j, none⟩ = some (.int .u8 (zs[j]?.getD 0))
def ReadsB (w : World) (A : Option Addr) (zs : List Int) : Prop := (zs = [] ∨ ∃ b off, A = some ⟨b, off, none⟩ ∧ RowB w b off zs) ∧ ∀ j : Nat, 0 ≤ zs[j]?.getD 0 ∧ zs[j]?.getD 0 ≤ 255
/-- The reader: its code, and how many numbers it has handed out. -/
def Rd (w : World) (br : Nat) (A : Option Addr) (n c : Nat) (zs : List Int) (p : Nat) : Prop :=
  w.heap[br]? = some (.cells #[.slice A n c, .int .i64 (p : Int)] 69 (0, 0)) ∧ zs.length = n ∧ n ≤ 2000 ∧ ReadsB w A zs ∧ ∀ b off, A = some ⟨b, off, none⟩ → 0 < n → b < br

theorem RowB.keep {w w' : World} {b off : Nat} {zs : List Int} (h : RowB w b off zs) (hk : w'.heap[b]? = w.heap[b]?) (hs : w.heap.size ≤ w'.heap.size) : RowB w' b off zs :=
  ⟨Nat.lt_of_lt_of_le h.1 hs, fun j hj => (World.cell?_of_block hk).trans (h.2 j hj)⟩

theorem heap_last2 (w : World) (o : Obj) : (w.alloc o).heap[w.heap.size]? = some o := by
  show (w.heap.push o)[w.heap.size]? = some o
  simp
theorem ReadsB.keep {w w' : World} {A : Option Addr} {zs : List Int} (h : ReadsB w A zs) (hk : ∀ b, b < w.heap.size → w'.heap[b]? = w.heap[b]?) (hs : w.heap.size ≤ w'.heap.size) : ReadsB w' A zs := by
  refine ⟨?_, h.2⟩
  rcases h.1 with h1 | ⟨b, off, e, h1⟩
  · exact .inl h1
  · exact .inr ⟨b, off, e, h1.keep (hk b h1.1) hs⟩
theorem ReadsB.take {w : World} {A : Option Addr} {zs : List Int} (h : ReadsB w A zs) (n : Nat) : ReadsB w A (zs.take n) := by
  refine ⟨?_, fun j => ?_⟩
  · rcases h.1 with h1 | ⟨b, off, e, h1⟩
    · exact .inl (by simp [h1])
    · refine .inr ⟨b, off, e, h1.1, fun j hj => ?_⟩
      rw [List.length_take] at hj
      rw [h1.2 j (by omega)]
      simp [show j < n by omega]
  · by_cases hj : j < n
    · have := h.2 j
      rw [List.getElem?_take_of_lt hj]
      exact this
    · rw [List.getElem?_eq_none (by simp; omega)]
      simp

theorem ReadsB.far {w : World} {A : Option Addr} {zs : List Int} (h : ReadsB w A zs) (hne : zs ≠ []) {n : Nat} : ∀ b off, A = some ⟨b, off, none⟩ → 0 < n → b < w.heap.size := by
  intro b off e _
  rcases h.1 with h1 | ⟨b', off', e', h1⟩
  · exact absurd h1 hne
  · rw [e] at e'
    simp at e'
    have := h1.1
    omega

theorem i64_xor_nat (a b : Nat) (ha : a < 4294967296) (hb : b < 4294967296) : bits .xor .i64 (a : Int) (b : Int) = ((a ^^^ b : Nat) : Int) := by
  have hx : a ^^^ b < 2 ^ 32 := Nat.xor_lt_two_pow (by omega) (by omega)
  show IntKind.i64.wrap ((BitVec.ofInt 64 (a : Int) ^^^ BitVec.ofInt 64 (b : Int)).toNat : Int) = _
  rw [BitVec.toNat_xor, ofInt_i64 a (by omega), ofInt_i64 b (by omega), IntKind.wrap_i64]
  omega

set_option maxRecDepth 100000
set_option maxHeartbeats 2000000
theorem l6Open_any (A : Option Addr) (c : Nat) (zs : List Int) (w : World) (hn : zs.length ≤ 1048576) (hc : zs.length ≤ c) (hA : ReadsB w A zs) :
    Calls Try.prog 45 #[.slice A zs.length c] w fun e w' => e = .returned (.pointer (some ⟨w.heap.size, 0, none⟩)) ∧ (∃ n c' ys, Rd w' w.heap.size A n c' ys 0) ∧ Below w.heap.size w w' := by
  by_cases h2 : 2000 < zs.length
  · go_enter Try.func45, Try.ntmps45
    go_wp2
    go_ret
    refine ⟨rfl, ⟨2000, c, zs.take 2000, heap_last2 _ _, by simp; omega, by omega, (hA.take 2000).keep (fun b hb => ((Below.refl w.heap.size w).alloc (Nat.le_refl _) _).block b hb) ((Below.refl w.heap.size w).alloc (Nat.le_refl _) _).size, ?_⟩, by go_grown⟩
    exact hA.far (by rintro rfl; simp at h2)
  · go_enter Try.func45, Try.ntmps45
    go_wp2
    go_ret
    refine ⟨rfl, ⟨zs.length, c, zs, heap_last2 _ _, rfl, by omega, hA.keep (fun b hb => ((Below.refl w.heap.size w).alloc (Nat.le_refl _) _).block b hb) ((Below.refl w.heap.size w).alloc (Nat.le_refl _) _).size, ?_⟩, by go_grown⟩
    intro b off e h0
    exact hA.far (by rintro rfl; simp at h0) b off e h0

/-- What a pick leaves: its reader one place on. -/
theorem Rd.next {w : World} {br : Nat} {A : Option Addr} {n c : Nat} {zs : List Int} {p : Nat} (h : Rd w br A n c zs p) : Rd (w.setCell ⟨br, 1, none⟩ (.int .i64 ((p : Int) + 1))) br A n c zs (p + 1) := by
  obtain ⟨h1, h2, h3, h4, h5⟩ := h
  refine ⟨?_, h2, h3, ?_, h5⟩
  · have := heap_setCell_same w br 1 _ _ (.int .i64 ((p : Int) + 1)) h1
    simpa using this
  · refine ⟨?_, h4.2⟩
    rcases h4.1 with e | ⟨b, off, e, hr⟩
    · exact .inl e
    · rcases Nat.eq_zero_or_pos n with h0 | h0
      · exact .inl (List.eq_nil_of_length_eq_zero (by omega))
      · exact .inr ⟨b, off, e, hr.keep (Below.heap_setCell w _ _ b (Nat.ne_of_lt (h5 b off e h0))) (by simp [World.setCell])⟩

/-- The cells of a reader. -/
theorem Rd.cells {w : World} {br : Nat} {A : Option Addr} {n c : Nat} {zs : List Int} {p : Nat} (h : Rd w br A n c zs p) :
    w.cell? ⟨br, 0, none⟩ = some (.slice A n c) ∧ w.cell? ⟨br, 1, none⟩ = some (.int .i64 (p : Int)) ∧ w.frozen? ⟨br, 1, none⟩ = false := by
  obtain ⟨h1, _⟩ := h
  refine ⟨?_, ?_, ?_⟩
  · simp [World.cell?, h1]
  · simp [World.cell?, h1]
  · simp [World.frozen?, h1]
theorem Rd.keep {w w' : World} {br : Nat} {A : Option Addr} {n c : Nat} {zs : List Int} {p : Nat} (h : Rd w br A n c zs p) (hk : ∀ b, b < w.heap.size → w'.heap[b]? = w.heap[b]?) (hs : w.heap.size ≤ w'.heap.size) : Rd w' br A n c zs p := by
  obtain ⟨h1, h2, h3, h4, h5⟩ := h
  exact ⟨(hk br (lt_of_block h1)).trans h1, h2, h3, h4.keep hk hs, h5⟩
theorem Rd.behind {w w' : World} {br : Nat} {A : Option Addr} {n c : Nat} {zs : List Int} {p : Nat} (h : Rd w br A n c zs p) (hb : Below w.heap.size w w') : Rd w' br A n c zs p := h.keep hb.block hb.size
theorem Rd.drewN {w : World} {br : Nat} {A : Option Addr} {n c : Nat} {zs : List Int} {p : Nat} (h : Rd w br A n c zs p) (m : Nat) : Rd (w.drewN m) br A n c zs p := h

/-- What lies above the reader's block may turn. -/
theorem Rd.low {w w' : World} {br B : Nat} {A : Option Addr} {n c : Nat} {zs : List Int} {p : Nat} (h : Rd w br A n c zs p) (hb : Below B w w') (hB : br < B) : Rd w' br A n c zs p := by
  obtain ⟨h1, h2, h3, h4, h5⟩ := h
  refine ⟨(hb.block br hB).trans h1, h2, h3, ⟨?_, h4.2⟩, h5⟩
  rcases h4.1 with e | ⟨b, off, e, hr⟩
  · exact .inl e
  · rcases Nat.eq_zero_or_pos n with h0 | h0
    · exact .inl (List.eq_nil_of_length_eq_zero (by omega))
    · exact .inr ⟨b, off, e, hr.keep (hb.block b (by have := h5 b off e h0; omega)) hb.size⟩
theorem grown_low {a w w' : World} {row : Option Nat} (h : a.grownBy w row) (hb : Below a.heap.size w w') : a.grownBy w' row :=
  ⟨hb.os.trans h.os, hb.tape.trans h.tape, hb.output.trans h.output, Nat.le_trans h.size hb.size, fun i hi hne => (hb.block i hi).trans (h.block i hi hne)⟩
theorem grown_drewN {a w : World} {row : Option Nat} (h : a.grownBy w row) (n : Nat) : a.grownBy (w.drewN n) row := ⟨h.os, h.tape, h.output, h.size, h.block⟩

theorem pick_any (br : Nat) (A : Option Addr) (n c : Nat) (zs : List Int) (p k : Nat) (w : World) (hk : 1 ≤ k) (hk2 : k ≤ 1000000) (hp : p ≤ 1000000) (h : Rd w br A n c zs p) :
    Calls Try.prog 51 #[.pointer (some ⟨br, 0, none⟩), .int .i64 (k : Int)] w fun e w' => ∃ v : Nat, e = .returned (.int .i64 (v : Int)) ∧ v < k ∧ Rd w' br A n c zs (p + 1) ∧ w.grownBy w' (some br) := by
  obtain ⟨c0, c1, f1⟩ := h.cells
  have hnx := h.next
  have hg := grown_set w br 1 (.int .i64 ((p : Int) + 1))
  obtain ⟨_, hl, hn, hA, hne⟩ := h
  have HN := Lib.hid hnx
  have HG := Lib.hid hg
  clear hnx hg
  by_cases h0 : n = 0
  · have q : decide ((n : Int) = 0) = true := by simp [h0]
    have q' : ((n : Int) == 0) = true := by simp [h0]
    have H0 := Lib.hid h0
    clear h0
    go_enter Try.func51, Try.ntmps51
    go_wp2
    go_ret
    exact ⟨0, rfl, by omega, HN.out, HG.out⟩
  · have q : decide ((n : Int) = 0) = false := by simp; omega
    have q' : ((n : Int) == 0) = false := by simp; omega
    obtain ⟨b, off, rfl, hrow⟩ : ∃ b off, A = some ⟨b, off, none⟩ ∧ RowB w b off zs := by
      rcases hA.1 with e | h
      · rw [e] at hl; simp at hl; omega
      · exact h
    have hbne := Nat.ne_of_lt (hne b off rfl (by omega))
    have hbne' : br ≠ b := Ne.symm hbne
    have hby := hA.2
    by_cases h1 : p < n
    · have hc := hrow.2 p (by omega)
      have hb := hby p
      obtain ⟨z, hz⟩ : ∃ z, zs[p]?.getD 0 = z := ⟨_, rfl⟩
      rw [hz] at hc hb
      clear hz hA hne hrow hby
      obtain ⟨m, hm⟩ : ∃ m : Nat, z % (k : Int) = (m : Int) := ⟨(z % (k : Int)).toNat, by rw [Int.toNat_of_nonneg (Int.emod_nonneg _ (by omega))]⟩
      have hm2 : z % (k : Int) < k := Int.emod_lt_of_pos _ (by omega)
      rw [hm] at hm2
      go_enter Try.func51, Try.ntmps51
      go_wp2
      go_ret
      exact ⟨m, ret_int hm, by omega, HN.out, HG.out⟩
    · have hi1 : p % n < n := Nat.mod_lt _ (by omega)
      have hi2 : (p * 7 + 3) % n < n := Nat.mod_lt _ (by omega)
      have hc1 := hrow.2 (p % n) (by omega)
      have hc2 := hrow.2 ((p * 7 + 3) % n) (by omega)
      have hb1 := hby (p % n)
      have hb2 := hby ((p * 7 + 3) % n)
      have e1 : (p : Int) % (n : Int) = ((p % n : Nat) : Int) := by push_cast; rfl
      have e2 : ((p : Int) * 7 + 3) % (n : Int) = (((p * 7 + 3) % n : Nat) : Int) := by push_cast; rfl
      have e3 : (p : Int) / (n : Int) = ((p / n : Nat) : Int) := by push_cast; rfl
      have hd : p / n ≤ p := Nat.div_le_self _ _
      obtain ⟨i1, hi1e⟩ : ∃ i1, p % n = i1 := ⟨_, rfl⟩
      obtain ⟨i2, hi2e⟩ : ∃ i2, (p * 7 + 3) % n = i2 := ⟨_, rfl⟩
      obtain ⟨d, hde⟩ : ∃ d, p / n = d := ⟨_, rfl⟩
      rw [hi1e] at hi1 hc1 hb1 e1
      rw [hi2e] at hi2 hc2 hb2 e2
      rw [hde] at hd e3
      obtain ⟨z1, hz1⟩ : ∃ z1, zs[i1]?.getD 0 = z1 := ⟨_, rfl⟩
      obtain ⟨z2, hz2⟩ : ∃ z2, zs[i2]?.getD 0 = z2 := ⟨_, rfl⟩
      rw [hz1] at hc1 hb1
      rw [hz2] at hc2 hb2
      clear hz1 hz2 hi1e hi2e hde hA hne hrow hby
      go_enter Try.func51, Try.ntmps51
      go_wp2
      go_quiet (fail)
      obtain ⟨V, hV⟩ : ∃ V : Nat, z1 * 131 + z2 * 1117 + (p : Int) * 29 + (d : Int) * 53 = (V : Int) := ⟨(z1 * 131 + z2 * 1117 + (p : Int) * 29 + (d : Int) * 53).toNat, by omega⟩
      have hVb : V ≤ 200000000 := by omega
      have hx := i64_xor_nat V (V / 64) (by omega) (by omega)
      have hx2 : ((V / 64 : Nat) : Int) = (V : Int) / 64 := by push_cast; rfl
      rw [hx2] at hx
      obtain ⟨X, hX⟩ : ∃ X, V ^^^ V / 64 = X := ⟨_, rfl⟩
      have hXb : X < 4294967296 := by rw [← hX]; exact Nat.xor_lt_two_pow (n := 32) (by omega) (by omega)
      rw [hX] at hx
      obtain ⟨m, hm⟩ : ∃ m : Nat, (X : Int) % (k : Int) = (m : Int) := ⟨X % k, by push_cast; rfl⟩
      have hm2 : (X : Int) % (k : Int) < k := Int.emod_lt_of_pos _ (by omega)
      rw [hm] at hm2
      simp only [hV]
      clear hV hX hx2 hc1 hc2 e1 e2 e3
      go_wp2
      go_ret
      exact ⟨m, ret_int hm, by omega, HN.out.drewN _, ⟨HG.out.os, HG.out.tape, HG.out.output, HG.out.size, HG.out.block⟩⟩

end Go.Proofs.Ytfcnlfcjcmpkcaa
