/- From the reading of an argument to the words of the walks. -/
import Derived.Test.YtdkhgpcfbdekeaaHold
import Derived.OpenShut
namespace Go.Proofs.Ytdkhgpcfbdekeaa
open Go.RowKit

theorem lt_of_cell {w : World} {b off : Nat} {v : Value} (h : w.cell? ⟨b, off, none⟩ = some v) : b < w.heap.size := by
  rcases Nat.lt_or_ge b w.heap.size with hlt | hge
  · exact hlt
  · unfold World.cell? at h
    simp [Array.getElem?_eq_none hge] at h

theorem reads_of {w : World} {x : Addr} {len cap : Nat} {zs : List Int} (hl : len ≤ cap) (hz : zs.length = cap) (hc : ∀ i, i < zs.length → w.cell? (x.add i) = some (.int .i64 (zs.getD i 0))) :
    Reads w (some x) (zs.take len) := by
  rcases Nat.eq_zero_or_pos len with h0 | h0
  · exact .inl (by simp [h0])
  · obtain ⟨b, off, rfl, hcell⟩ := ints_at hc (by omega)
    have hlen : (zs.take len).length = len := by simp; omega
    refine .inr ⟨b, off, rfl, ?_, fun j hj => ?_⟩
    · exact lt_of_cell (hcell 0 (by omega))
    · rw [hlen] at hj
      have := hcell j (by omega)
      simpa [hj, List.getD] using this

end Go.Proofs.Ytdkhgpcfbdekeaa
