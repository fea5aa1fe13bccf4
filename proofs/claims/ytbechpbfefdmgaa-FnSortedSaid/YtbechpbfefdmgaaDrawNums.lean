/- The drawn lists of numbers, with values and sizes. -/
import Derived.Test.YtbechpbfefdmgaaDrawList
namespace Go.Proofs.Ytbechpbfefdmgaa
open Go.RowKit
set_option maxHeartbeats 1000000

theorem drawn_cs {L : List Int} (h : drawn L) (c k : Nat) : -(k : Int) ≤ cs L c k ∧ cs L c k ≤ 61 * k := by
  induction k with
  | zero => simp [cs]
  | succ k ih =>
    have := h k
    simp only [cs, bit_mul]
    split <;> omega

theorem Drew.below {w w0 wr : World} {br : Nat} {A : Option Addr} {n c : Nat} {zs : List Int} {p1 g c1 : Nat} {L : List Int} (h : Drew w wr br A n c zs p1 g c1 L) (h0 : Below w0.heap.size w0 w) (hb : w0.heap.size ≤ br) : Below w0.heap.size w0 wr :=
  h0.grown h.2.2.2 h0.size (fun j e => by cases e; exact hb)


/-- A draw of a list: what it shows. -/
def DrewL (w w' : World) (g c : Nat) (L : List Int) : Prop := Owns w' w.heap.size g c L ∧ drawn L ∧ L.length ≤ 11 ∧ Below w.heap.size w w'

theorem l91Some_any (A : Option Addr) (c : Nat) (zs : List Int) (w : World) (hn : zs.length ≤ 1048576) (hc : zs.length ≤ c) (hA : ReadsB w A zs) :
    Calls Try.prog 38 #[.slice A zs.length c] w fun e w' => ∃ (g c' : Nat) (L : List Int), e = .returned (.slice (some ⟨g, 0, none⟩) L.length c') ∧ DrewL w w' g c' L := by
  go_enter Try.func38, Try.ntmps38
  go_wp2_with fail
  refine (l6Open_any A c zs _ hn hc hA).mono ?_
  rintro e w1 ⟨rfl, ⟨n1, c1, ys, hR1⟩, hB1⟩
  have hs1 := hB1.size
  go_wp2_with fail
  refine (l91List_any _ _ _ _ _ 0 8 20 _ (by omega) (by omega) (by omega) (by omega) hR1).mono ?_
  rintro e w2 ⟨g, c2, p2, L, rfl, hl, hp2, hD⟩
  have hB2 := hD.below hB1 (Nat.le_refl _)
  go_wp2
  go_ret
  exact ⟨g, c2, L, rfl, hD.1.base (Nat.le_trans hs1 hD.1.ge), hD.2.1, by omega, hB2⟩





theorem drawSumSorted_any (A : Option Addr) (c : Nat) (zs : List Int) (w : World) (hn : zs.length ≤ 1048576) (hc : zs.length ≤ c) (hA : ReadsB w A zs) :
    Calls Try.prog 18 #[.slice A zs.length c] w fun e w' => ∃ (g c' : Nat) (L : List Int), e = .returned (.slice (some ⟨g, 0, none⟩) L.length c') ∧ DrewL w w' g c' L := by
  go_enter Try.func18, Try.ntmps18
  go_wp2_with fail
  refine (l91Some_any A c zs _ hn hc hA).mono ?_
  rintro e w2 ⟨g, c2, L, rfl, hD⟩
  go_wp2
  go_ret
  exact ⟨g, c2, L, rfl, hD⟩

theorem drawSumGap_any (A : Option Addr) (c : Nat) (zs : List Int) (w : World) (hn : zs.length ≤ 1048576) (hc : zs.length ≤ c) (hA : ReadsB w A zs) :
    Calls Try.prog 25 #[.slice A zs.length c] w fun e w' => ∃ (g c' : Nat) (L : List Int), e = .returned (.slice (some ⟨g, 0, none⟩) L.length c') ∧ DrewL w w' g c' L := by
  go_enter Try.func25, Try.ntmps25
  go_wp2_with fail
  refine (l91Some_any A c zs _ hn hc hA).mono ?_
  rintro e w2 ⟨g, c2, L, rfl, hD⟩
  go_wp2
  go_ret
  exact ⟨g, c2, L, rfl, hD⟩


end Go.Proofs.Ytbechpbfefdmgaa
