/- The stable sort of a list of numbers, the greatest first. -/
import Derived.Test.YtbechpbfefdmgaaSumSorted
namespace Go.Proofs.Ytbechpbfefdmgaa
open Go.RowKit Go.Sort Go.Lib
set_option maxHeartbeats 1000000

theorem falling_any (x y : Int) (w : World) :
    Calls Try.prog 47 #[.int .i64 x, .int .i64 y] w fun e w' => e = .returned (.int .i64 (Lib.compareInt y x)) ∧ w = w' := by
  have hcon := fun W => Try.cmp_Compare_int y x W
  generalize Lib.compareInt y x = r at hcon ⊢
  go_enter Try.func47, Try.ntmps47
  go_wp2_with (go_at_call 56; refine (hcon _).mono ?_; rintro e w' ⟨rfl, rfl⟩)
  go_ret
  exact ⟨rfl, rfl⟩

theorem falls_lt : ltOf (fun x y => Lib.compareInt y x) = fun x y : Int => decide (y < x) := by
  funext x y
  unfold ltOf Lib.compareInt
  by_cases h : y < x
  · simp [h]
  · rcases Int.lt_or_eq_of_le (Int.not_lt.1 h) with h1 | h1
    · simp [h, h1]
    · simp [h1]

theorem insertion_any (B g c : Nat) (zs : List Int) (w : World) (hlen : zs.length ≤ 1000) (hO : Owns w B g c zs) :
    Calls Try.prog 76 #[.slice (some ⟨g, 0, none⟩) zs.length c, .int .i64 0, .int .i64 zs.length, .func (.func 47) #[] #[]] w fun e w' => e = .returned (.tuple #[]) ∧ Owns w' B g c (fallen zs) ∧ w.grownBy w' (some g) := by
  obtain ⟨cur, hb, hg, h1, h2, h3, h4⟩ := hO.parts
  have eg : ∀ args w, (callFunc 47 args).run Try.prog w = .ok (.enter 47 args) w := enters_of Try.func47 (by kernel_rfl) rfl
  have hcmp : CmpReads Try.prog 47 #[] (Value.int .i64) (fun x y => Lib.compareInt y x) g 0 zs.toArray.size w := by
    intro m os dk _ x y
    refine (falling_any x y _).mono ?_
    rintro e w' ⟨rfl, rfl⟩
    exact ⟨rfl, 0, rfl⟩
  have hcon := Try.insertionSortCmpFunc_one (Value.int .i64) (fun _ => rfl) (fun x y => Lib.compareInt y x) 47 #[] g 0 c 0 zs.length zs.toArray w eg hcmp (holds_of_blockI hg h4) (Nat.zero_le _) (by simp) (by simp; omega)
  refine hcon.mono ?_
  rintro e w' ⟨rfl, n, rfl⟩
  have hd : insertionSort (ltOf fun x y => Lib.compareInt y x) zs.toArray 0 zs.length = (fallen zs).toArray := by
    rw [falls_lt]
    apply Array.toList_inj.1
    rw [insertionSort_eq]; rfl
  rw [hd]
  have e : (putRow (Value.int .i64) w g 0 (fallen zs).toArray).drewN n = grow (putRow (Value.int .i64) (Sort.ahead w n) g 0 (fallen zs).toArray) #[] := by rw [grow_empty]; rfl
  rw [e]
  refine ⟨rfl, ?_, grownBy_sortedI _⟩
  have := ownsRow_sortedI (n := n) (os := #[]) (base := B) (ts := fallen zs) (ss := zs) (fallen_length zs) hb hg h1 h2 (by omega)
  unfold Owns
  rw [fallen_length]
  exact this

theorem stable_any (B g c : Nat) (zs : List Int) (w : World) (hlen : zs.length ≤ 12) (hO : Owns w B g c zs) :
    Calls Try.prog 69 #[.slice (some ⟨g, 0, none⟩) zs.length c, .int .i64 zs.length, .func (.func 47) #[] #[]] w fun e w' => e = .returned (.tuple #[]) ∧ Owns w' B g c (fallen zs) ∧ w.grownBy w' (some g) := by
  go_enter Try.func69, Try.ntmps69
  go_wp2
  go_loop [8, 7] (fun b a => b = .int .i64 20 ∧ a = .int .i64 0) (fun _ _ => 0)
  case atStart => exact ⟨rfl, rfl⟩
  case round =>
    obtain ⟨rfl, rfl⟩ := hrel
    go_wp2_with fail
    refine (insertion_any _ _ _ zs _ (by omega) hO).mono ?_
    rintro e w' ⟨rfl, hO2, hG2⟩
    go_wp2
    go_loop [6] (fun b => b = .int .i64 20) (fun _ => 0)
    case atStart => rfl
    case round =>
      subst hrel
      go_wp2
      go_end0
      exact ⟨rfl, hO2, hG2⟩

theorem sortStable_any (B g c : Nat) (zs : List Int) (w : World) (hlen : zs.length ≤ 12) (hO : Owns w B g c zs) :
    Calls Try.prog 55 #[.slice (some ⟨g, 0, none⟩) zs.length c, .func (.func 47) #[] #[]] w fun e w' => e = .returned (.tuple #[]) ∧ Owns w' B g c (fallen zs) ∧ w.grownBy w' (some g) := by
  go_enter Try.func55, Try.ntmps55
  go_wp2_with fail
  refine (stable_any _ _ _ zs _ hlen hO).mono ?_
  rintro e w' ⟨rfl, hO2, hG2⟩
  go_wp2
  go_end0
  exact ⟨rfl, hO2, hG2⟩

theorem inOrder_any (b off c : Nat) (zs : List Int) (w : World) (hlen : zs.length ≤ 12) (hr : Row w b off zs) :
    Calls Try.prog 46 #[.slice (some ⟨b, off, none⟩) zs.length c, .func (.func 47) #[] #[]] w fun e w' => ∃ g c', e = .returned (.slice (some ⟨g, 0, none⟩) zs.length c') ∧ Owns w' w.heap.size g c' (fallen zs) ∧ Below w.heap.size w w' := by
  go_enter Try.func46, Try.ntmps46
  go_wp2_with fail
  refine (clone_any _ _ _ zs _ (by omega) hr).mono ?_
  rintro e w2 ⟨g, c2, rfl, hO2, hB2⟩
  go_wp2_with fail
  refine (sortStable_any _ _ _ zs _ hlen hO2).mono ?_
  rintro e w3 ⟨rfl, hO3, hG3⟩
  have hB3 := hB2.grown hG3 hB2.size (fun j e => by cases e; exact hO2.ge)
  go_wp2
  go_ret
  exact ⟨g, c2, rfl, hO3, hB3⟩

end Go.Proofs.Ytbechpbfefdmgaa
