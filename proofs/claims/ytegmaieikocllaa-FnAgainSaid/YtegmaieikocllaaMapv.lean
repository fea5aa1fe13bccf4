/- A map of ints to ints that the call has made: what it reads as. -/
import Derived.Test.YtegmaieikocllaaHold
import Derived.Maps.Own
import Derived.Maps.OwnOps
import Derived.Maps.OwnSet
import Derived.Maps.Views
namespace Go.Proofs.Ytegmaieikocllaa
open Go.RowKit Go.Maps

theorem lawI : Keyed Try.prog 3 := int_keyed Try.underlying3
theorem zeroI (w : World) : (zeroValue 3).run Try.prog w = .ok (.int .i64 0) w := by kernel_rfl

/-- Block M is a map that reads as f at the first k places, and as 0 at all others. -/
def MapV (w : World) (M k : Nat) (f : Nat → Int) : Prop :=
  ∃ D : DataW Unit, w.ownsMap Try.prog 3 (plainElem Try.prog 3) M k D ∧ ∀ x : Nat, D.atKey (.int .i64 (x : Int)) (.lit (.int .i64 0)) = .lit (.int .i64 (if x < k then f x else 0))

theorem MapV.kept {w w' : World} {M k : Nat} {f : Nat → Int} {row : Option Nat} (h : MapV w M k f) (hg : w.grownBy w' row) (hne : some M ≠ row) : MapV w' M k f := by
  obtain ⟨D, hD, hf⟩ := h
  exact ⟨D, hD.kept hg hne, hf⟩
theorem MapV.of_block {w w' : World} {M k : Nat} {f : Nat → Int} (h : MapV w M k f) (hk : w'.heap[M]? = w.heap[M]?) : MapV w' M k f := by
  obtain ⟨D, ⟨es, clock, hb, F, hs, hD⟩, hf⟩ := h
  exact ⟨D, ⟨es, clock, hk.trans hb, F, hs, hD⟩, hf⟩
theorem MapV.made (w : World) (f : Nat → Int) : MapV (w.alloc (.map #[] 0)) w.heap.size 0 f :=
  ⟨.map [], World.ownsMap_made _ _ _ _, fun x => by simp [DataW.atKey]⟩
theorem MapV.drewN {w : World} {M k : Nat} {f : Nat → Int} (h : MapV w M k f) (n : Nat) : MapV (w.drewN n) M k f := h
theorem MapV.lt {w : World} {M k : Nat} {f : Nat → Int} (h : MapV w M k f) : M < w.heap.size := by
  obtain ⟨D, hD, _⟩ := h
  exact hD.lt

theorem wf_small (x : Nat) (h : x < 9223372036854775808) : (Lit.int .i64 (x : Int)).wf = true := WalkArith.wf_i64 (by omega)

theorem MapV.look {w : World} {M k : Nat} {f : Nat → Int} (h : MapV w M k f) (x : Nat) (hx : x < 9223372036854775808) :
    (Instr.lookup 55 (.map (some M)) (.int .i64 (x : Int)) false).run Try.prog w = .ok (.int .i64 (if x < k then f x else 0)) w := by
  obtain ⟨D, hD, hf⟩ := h
  obtain ⟨c, hrun, hat, _⟩ := hD.lookup_int lawI Try.underlying55 Try.underlying3 (zeroI w) (keyOf_int_mk Try.underlying3 (wf_small x hx))
  rw [hf x] at hat
  simp only [DataW.lit.injEq, Lit.int.injEq, true_and] at hat
  rw [hrun, hat]

theorem MapV.store {w w' : World} {M k : Nat} {f : Nat → Int} {v : Int} (D : DataW Unit) (hD : w.ownsMap Try.prog 3 (plainElem Try.prog 3) M k D) (hf : ∀ x : Nat, D.atKey (.int .i64 (x : Int)) (.lit (.int .i64 0)) = .lit (.int .i64 (if x < k then f x else 0)))
    (h : w'.ownsMap Try.prog 3 (plainElem Try.prog 3) M (k + 1) (D.put (.int .i64 (k : Int)) (.lit (.int .i64 v)))) (hv : v = f k) : MapV w' M (k + 1) f := by
  refine ⟨_, h, fun x => ?_⟩
  by_cases e : x = k
  · subst e
    rw [atKey_put_same hD.isMap (by trivial), if_pos (by omega), hv]
  · rw [atKey_put_other (by simp; omega), hf x]
    by_cases h1 : x < k
    · rw [if_pos h1, if_pos (by omega)]
    · rw [if_neg h1, if_neg (by omega)]

theorem clear_run {w : World} {M clock : Nat} (hb : w.heap[M]? = some (.map #[] clock)) (ty : TypeId) : (Builtin.clear_ #[55] ty #[.map (some M)]).run Try.prog w = .ok (.tuple #[]) w := by
  have hs : w.heap.setIfInBounds M (.map #[] clock) = w.heap := by
    apply Array.ext_getElem?
    intro i
    rw [Array.getElem?_setIfInBounds]
    by_cases e : M = i
    · subst e
      have hlt := lt_of_block hb
      rw [if_pos rfl, if_pos hlt, hb]
    · rw [if_neg e]
  simp [Builtin.clear_, run_underlying Try.underlying55, Go.MapKept.run_getObj_map hb, Go.MapKept.run_setObj_map _ hb, Result.andThen, hs]

end Go.Proofs.Ytegmaieikocllaa
