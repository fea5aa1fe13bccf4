/- From the reading of an argument that is a list of items to the words of the walks. -/
import Derived.Test.YtfcnlfcjcmpkcaaFrame
import Derived.Deep.Slices
import Derived.Deep.Fields
import Derived.ChangeSame
namespace Go.Proofs.Ytfcnlfcjcmpkcaa
open Go.ChangeShapes Go.WideShapes Go.Deep Go.RowKit

section
variable {H : Type} {enc : TypeId × Value → H} {w : World} {base : Nat} {spare : Nat → Bool} {held : Bool}

theorem item_fields : (Try.prog.underlying 55).map (fun u => match u with | .struct fs => (fs.toList.map fun f => (f.type, f.offset)) | _ => []) = some [(3, 0), (3, 1)] := by kernel_rfl

theorem item_struct : ∃ fs : Array Field, Try.prog.underlying 55 = some (.struct fs) ∧ (fs.toList.map fun f => (f.type, f.offset)) = [(3, 0), (3, 1)] := by
  have h := item_fields
  cases e : Try.prog.underlying 55 with
  | none => rw [e] at h; simp at h
  | some u =>
    rw [e] at h
    cases u <;> simp at h
    exact ⟨_, rfl, h⟩

theorem open_items {a : Option Addr} {len cap fuel : Nat} {x : DataW H × List MemPlace} (h : DataW.trod enc Try.prog w base spare held fuel 36 (Value.cells (.slice a len cap)).toList = some x) :
    ∃ zs : List Int, zs.length = 2 * len ∧ len ≤ 9223372036854775807 ∧ Reads w a zs := by
  obtain ⟨fs, hfs, hty⟩ := item_struct
  have hsz : fs.size = 2 := by have := congrArg List.length hty; simpa using this
  have hC : Try.prog.cellsOf 55 = 2 := by kernel_rfl
  have hCi : Try.prog.cellsOf 3 = 1 := by kernel_rfl
  have hf0 : ∀ (j : Nat) (hj : j < 2), ∃ f, fs[j]? = some f ∧ f.type = 3 ∧ f.offset = j := by
    intro j hj
    have hlen : j < fs.size := by omega
    have h1 : (fs.toList.map fun f => (f.type, f.offset))[j]? = some ((fs[j]'hlen).type, (fs[j]'hlen).offset) := by simp [hlen]
    rw [hty] at h1
    refine ⟨fs[j]'hlen, by simp [hlen], ?_, ?_⟩
    · rcases (by omega : j = 0 ∨ j = 1) with rfl | rfl <;> simp at h1 <;> exact h1.1.symm
    · rcases (by omega : j = 0 ∨ j = 1) with rfl | rfl <;> simp at h1 <;> exact h1.2.symm
  rcases open_slice Try.underlying36 h with ⟨hcs, _⟩ | ⟨x, l, c, m, n, D, Pl, hcs, hb, hl, hm, hmm, hx, hi⟩
  · simp [Value.cells] at hcs
    obtain ⟨rfl, rfl, rfl⟩ := hcs
    exact ⟨[], rfl, by omega, .inl rfl⟩
  · simp [Value.cells] at hcs
    obtain ⟨rfl, rfl, rfl⟩ := hcs
    have hml : len ≤ m := by rw [hmm]; split <;> omega
    have hcell : ∀ k, ∃ z : Int, k < 2 * len → w.cell? (x.add k) = some (.int .i64 z) := by
      intro k
      by_cases hk : k < 2 * len
      · obtain ⟨cs', hc, ht'⟩ := hi (k / 2) (by omega)
        rw [hC] at hc
        obtain ⟨ys, n', hn', hy, hlen, hyl, hf⟩ := DataW.trod_struct hfs ht'
        obtain ⟨_, hcl, hat⟩ := World.cells?_some hc
        obtain ⟨f, hfj, hft, hfo⟩ := hf0 (k % 2) (by omega)
        have h1 := hf (k % 2) f hfj
        rw [hfo, hft, hCi] at h1
        have hj : k % 2 < cs'.length := by omega
        have hone : (cs'.drop (k % 2)).take 1 = [cs'[k % 2]'hj] := by
          rw [List.drop_eq_getElem_cons hj]; rfl
        rw [hone] at h1
        have hyj : ys[k % 2]? = some (ys[k % 2]'(by omega)) := List.getElem?_eq_getElem (by omega)
        rw [hyj] at h1
        obtain ⟨z, hz, _, _⟩ := DataW.trod_int Try.underlying3 h1
        simp only [List.cons.injEq, and_true] at hz
        refine ⟨z, fun _ => ?_⟩
        have hcell := hat (k % 2) (by omega)
        rw [Go.Deep.add_add, List.getElem?_eq_getElem hj, hz] at hcell
        rwa [show k / 2 * 2 + k % 2 = k by omega] at hcell
      · exact ⟨0, fun h => absurd h hk⟩
    obtain ⟨f, hf⟩ := Classical.axiomOfChoice hcell
    have hlen : ((List.range (2 * len)).map f).length = 2 * len := by simp
    refine ⟨(List.range (2 * len)).map f, hlen, by unfold maxLen at hm; omega, ?_⟩
    have hr := reads_of (w := w) (x := x) (len := 2 * len) (cap := 2 * len) (zs := (List.range (2 * len)).map f) (Nat.le_refl _) hlen (fun i hi => by
      rw [hlen] at hi
      rw [hf i hi]
      simp [List.getD, hi])
    rwa [List.take_of_length_le (by omega)] at hr
end

end Go.Proofs.Ytfcnlfcjcmpkcaa
