/- From the reading of an argument that is a code (bytes) to the words of the walks. -/
import Derived.Test.YtfcnlfcjcmpkcaaFrame
import Derived.Test.YtfcnlfcjcmpkcaaDraw
namespace Go.Proofs.Ytfcnlfcjcmpkcaa
open Go.RowKit

theorem readsB_of {w : World} {x : Addr} {len cap : Nat} {zs : List Int} (hl : len ≤ cap) (hz : zs.length = cap) (hc : ∀ i, i < zs.length → w.cell? (x.add i) = some (.int .u8 (zs.getD i 0))) (hw : ∀ n ∈ zs, (Lit.int .u8 n).wf = true) :
    ReadsB w (some x) (zs.take len) := by
  have hb : ∀ j : Nat, 0 ≤ (zs.take len)[j]?.getD 0 ∧ (zs.take len)[j]?.getD 0 ≤ 255 := by
    intro j
    by_cases hj : j < (zs.take len).length
    · rw [List.getElem?_eq_getElem hj]
      have := bounds_u8 (hw _ (List.mem_of_mem_take (List.getElem_mem hj)))
      simp only [Option.getD_some]
      omega
    · rw [List.getElem?_eq_none (by omega)]; simp
  refine ⟨?_, hb⟩
  rcases Nat.eq_zero_or_pos len with h0 | h0
  · exact .inl (by simp [h0])
  · obtain ⟨b, off, rfl, hcell⟩ := ints_at hc (by omega)
    have hlen : (zs.take len).length = len := by simp; omega
    refine .inr ⟨b, off, rfl, ?_, fun j hj => ?_⟩
    · exact lt_of_cell (hcell 0 (by omega))
    · rw [hlen] at hj
      have := hcell j (by omega)
      simpa [hj, List.getD] using this

end Go.Proofs.Ytfcnlfcjcmpkcaa
