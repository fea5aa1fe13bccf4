/-
  No cell of these rows narrows 'for every input' (looked for: loops, veiled, ifaces, maps, wideKeys, modest, calm, conditions, laid).
  DERIVED. THE GIVEN ROWS OF THIS SEAT. 7 by the template 'for every input the law returns true; each argument reads behind the call as it read before'; 0 by the template 'total and deterministic' (their statements: YtbechpbfefdmgaaTotals.lean).
  GIVEN WITH THE SEED: the statements are not yours to turn. If you find one false, say at which input.
  Laid BY PROGRAM, IN A SANDBOX (cutbox-rows.mjs): the forced cells as the released guide's own fill.sh prints them over the translation 89f40dbfb6761952… (all of the seat's roots in one cut). By AI agents, Wed Nov 11 2026. No macro, syntax, notation, axiom, sorry.
-/
import Derived.Test.YtbechpbfefdmgaaChecked
import GoSem.Claim
import GoSem.ClaimJoined
import GoSem.ClaimMapViews
import Derived.JoinedTies
import Derived.KernelRfl
namespace Go.Proofs.Ytbechpbfefdmgaa
/- THE CELL 'sum', in the pinned program and in every row, IS THE sha256 OF THE DUMP (.gsa) THAT YtbechpbfefdmgaaProg.lean LOADS. Nothing in Lean hashes anything: it is a label: what it is worth is what the hold of that sum in a sandbox is worth. -/
noncomputable def Try.pinned : Pinned := { name := "ytbechpbfefdmgaa", sum := "89f40dbfb676195242295780d971004e193b9f87c2cfb7be5aa7dbeb504dd496", checked := Try.checked }
namespace Rows
def none {H : Type} : Left H := { results := [], args := [] }

/-- 'laws.FnExactSumSorted': WHATEVER THE INPUT: true; the input reads as it did. -/
def fnExactSumSortedSpec : ChangeSpec := { name := "fnExactSumSorted", fn := fun _ => fun
  | [d] => { results := [.lit (.bool true)], args := [d] }
  | _ => none }
def fnExactSumSortedRow : OpenClaim := { program := "ytbechpbfefdmgaa", sum := "89f40dbfb676195242295780d971004e193b9f87c2cfb7be5aa7dbeb504dd496", func := "loop.example/chosensums/laws.FnExactSumSorted", spec := "fnExactSumSorted", recurses := true, apart := false }
def FnExactSumSortedSaid : Prop := fnExactSumSortedRow.holds Try.pinned (OpenSpec.ofChange fnExactSumSortedSpec)

/-- ITS FALSE NEIGHBOUR: 'it returns false'. Refute it at one input. -/
def fnExactSumSortedWrong : ChangeSpec := { name := "fnExactSumSorted", fn := fun _ => fun
  | [d] => { results := [.lit (.bool false)], args := [d] }
  | _ => none }
def FnExactSumSortedWrongFalsely : Prop := fnExactSumSortedRow.holds Try.pinned (OpenSpec.ofChange fnExactSumSortedWrong)

/-- 'laws.FnExactSumWhole': WHATEVER THE INPUT: true; the input reads as it did. -/
def fnExactSumWholeSpec : ChangeSpec := { name := "fnExactSumWhole", fn := fun _ => fun
  | [d] => { results := [.lit (.bool true)], args := [d] }
  | _ => none }
def fnExactSumWholeRow : OpenClaim := { program := "ytbechpbfefdmgaa", sum := "89f40dbfb676195242295780d971004e193b9f87c2cfb7be5aa7dbeb504dd496", func := "loop.example/chosensums/laws.FnExactSumWhole", spec := "fnExactSumWhole", recurses := true, apart := false }
def FnExactSumWholeSaid : Prop := fnExactSumWholeRow.holds Try.pinned (OpenSpec.ofChange fnExactSumWholeSpec)

/-- ITS FALSE NEIGHBOUR: 'it returns false'. Refute it at one input. -/
def fnExactSumWholeWrong : ChangeSpec := { name := "fnExactSumWhole", fn := fun _ => fun
  | [d] => { results := [.lit (.bool false)], args := [d] }
  | _ => none }
def FnExactSumWholeWrongFalsely : Prop := fnExactSumWholeRow.holds Try.pinned (OpenSpec.ofChange fnExactSumWholeWrong)

/-- 'laws.FnSorted': WHATEVER THE INPUT: true; the input reads as it did. -/
def fnSortedSpec : ChangeSpec := { name := "fnSorted", fn := fun _ => fun
  | [d] => { results := [.lit (.bool true)], args := [d] }
  | _ => none }
def fnSortedRow : OpenClaim := { program := "ytbechpbfefdmgaa", sum := "89f40dbfb676195242295780d971004e193b9f87c2cfb7be5aa7dbeb504dd496", func := "loop.example/chosensums/laws.FnSorted", spec := "fnSorted", unfollowed := true, recurses := true, apart := false }
def FnSortedSaid : Prop := fnSortedRow.holds Try.pinned (OpenSpec.ofChange fnSortedSpec)

/-- ITS FALSE NEIGHBOUR: 'it returns false'. Refute it at one input. -/
def fnSortedWrong : ChangeSpec := { name := "fnSorted", fn := fun _ => fun
  | [d] => { results := [.lit (.bool false)], args := [d] }
  | _ => none }
def FnSortedWrongFalsely : Prop := fnSortedRow.holds Try.pinned (OpenSpec.ofChange fnSortedWrong)

/-- 'laws.FnGrown': WHATEVER THE INPUT: true; the input reads as it did. -/
def fnGrownSpec : ChangeSpec := { name := "fnGrown", fn := fun _ => fun
  | [d] => { results := [.lit (.bool true)], args := [d] }
  | _ => none }
def fnGrownRow : OpenClaim := { program := "ytbechpbfefdmgaa", sum := "89f40dbfb676195242295780d971004e193b9f87c2cfb7be5aa7dbeb504dd496", func := "loop.example/chosensums/laws.FnGrown", spec := "fnGrown", unfollowed := true, recurses := true, apart := false }
def FnGrownSaid : Prop := fnGrownRow.holds Try.pinned (OpenSpec.ofChange fnGrownSpec)

/-- ITS FALSE NEIGHBOUR: 'it returns false'. Refute it at one input. -/
def fnGrownWrong : ChangeSpec := { name := "fnGrown", fn := fun _ => fun
  | [d] => { results := [.lit (.bool false)], args := [d] }
  | _ => none }
def FnGrownWrongFalsely : Prop := fnGrownRow.holds Try.pinned (OpenSpec.ofChange fnGrownWrong)

/-- 'laws.FnGap': WHATEVER THE INPUT: true; the input reads as it did. -/
def fnGapSpec : ChangeSpec := { name := "fnGap", fn := fun _ => fun
  | [d] => { results := [.lit (.bool true)], args := [d] }
  | _ => none }
def fnGapRow : OpenClaim := { program := "ytbechpbfefdmgaa", sum := "89f40dbfb676195242295780d971004e193b9f87c2cfb7be5aa7dbeb504dd496", func := "loop.example/chosensums/laws.FnGap", spec := "fnGap", unfollowed := true, recurses := true, apart := false }
def FnGapSaid : Prop := fnGapRow.holds Try.pinned (OpenSpec.ofChange fnGapSpec)

/-- ITS FALSE NEIGHBOUR: 'it returns false'. Refute it at one input. -/
def fnGapWrong : ChangeSpec := { name := "fnGap", fn := fun _ => fun
  | [d] => { results := [.lit (.bool false)], args := [d] }
  | _ => none }
def FnGapWrongFalsely : Prop := fnGapRow.holds Try.pinned (OpenSpec.ofChange fnGapWrong)

/-- 'laws.FnExactHalfDifferences': WHATEVER THE INPUT: true; the input reads as it did. -/
def fnExactHalfDifferencesSpec : ChangeSpec := { name := "fnExactHalfDifferences", fn := fun _ => fun
  | [d] => { results := [.lit (.bool true)], args := [d] }
  | _ => none }
def fnExactHalfDifferencesRow : OpenClaim := { program := "ytbechpbfefdmgaa", sum := "89f40dbfb676195242295780d971004e193b9f87c2cfb7be5aa7dbeb504dd496", func := "loop.example/chosensums/laws.FnExactHalfDifferences", spec := "fnExactHalfDifferences", unfollowed := true, recurses := true, apart := false }
def FnExactHalfDifferencesSaid : Prop := fnExactHalfDifferencesRow.holds Try.pinned (OpenSpec.ofChange fnExactHalfDifferencesSpec)

/-- ITS FALSE NEIGHBOUR: 'it returns false'. Refute it at one input. -/
def fnExactHalfDifferencesWrong : ChangeSpec := { name := "fnExactHalfDifferences", fn := fun _ => fun
  | [d] => { results := [.lit (.bool false)], args := [d] }
  | _ => none }
def FnExactHalfDifferencesWrongFalsely : Prop := fnExactHalfDifferencesRow.holds Try.pinned (OpenSpec.ofChange fnExactHalfDifferencesWrong)

/-- 'laws.FnExactHalfGreedy': WHATEVER THE INPUT: true; the input reads as it did. -/
def fnExactHalfGreedySpec : ChangeSpec := { name := "fnExactHalfGreedy", fn := fun _ => fun
  | [d] => { results := [.lit (.bool true)], args := [d] }
  | _ => none }
def fnExactHalfGreedyRow : OpenClaim := { program := "ytbechpbfefdmgaa", sum := "89f40dbfb676195242295780d971004e193b9f87c2cfb7be5aa7dbeb504dd496", func := "loop.example/chosensums/laws.FnExactHalfGreedy", spec := "fnExactHalfGreedy", unfollowed := true, recurses := true, apart := false }
def FnExactHalfGreedySaid : Prop := fnExactHalfGreedyRow.holds Try.pinned (OpenSpec.ofChange fnExactHalfGreedySpec)

/-- ITS FALSE NEIGHBOUR: 'it returns false'. Refute it at one input. -/
def fnExactHalfGreedyWrong : ChangeSpec := { name := "fnExactHalfGreedy", fn := fun _ => fun
  | [d] => { results := [.lit (.bool false)], args := [d] }
  | _ => none }
def FnExactHalfGreedyWrongFalsely : Prop := fnExactHalfGreedyRow.holds Try.pinned (OpenSpec.ofChange fnExactHalfGreedyWrong)

/- THE SECOND FORM. 'bulk': how many values and letters a reading holds, each counted each time it is reached (what is shared counts as often as it is met; a slice's spare places count too). A statement '..UptoSaid' is the law's where the arguments, and the package variables that the reading takes, are together of bulk at most 1048576: NARROWER than '..Said'. Prove '..Said' where nothing that the law and all that it calls make is longer than what came in: it says more and counts as full. Else prove '..UptoSaid'. A law counts once. -/
mutual
def uptoBulk {H : Type} : DataW H → Nat
  | .lit (.string bytes) => bytes.length + 1
  | .lit _ => 1
  | .nil => 1
  | .ptr d => uptoBulk d + 1
  | .slice elems spare => uptoBulkAll elems + uptoBulkAll spare + 1
  | .agg parts => uptoBulkAll parts + 1
  | .iface _ d => uptoBulk d + 1
  | .map entries => uptoBulkEntries entries + 1
  | .held _ => 1
def uptoBulkAll {H : Type} : List (DataW H) → Nat
  | [] => 0
  | d :: r => uptoBulk d + uptoBulkAll r
def uptoBulkEntries {H : Type} : List (Lit × DataW H) → Nat
  | [] => 0
  | x :: r => uptoBulkEntry x + uptoBulkEntries r
def uptoBulkEntry {H : Type} : Lit × DataW H → Nat
  | (.string bytes, d) => bytes.length + uptoBulk d + 1
  | (_, d) => uptoBulk d + 1
 end
def uptoSmall : (H : Type) → List (DataW H) → Bool := fun _ ds => decide (uptoBulkAll ds ≤ 1048576)
def OpenSpec.upto (s : _root_.Go.ChangeSpec) : _root_.Go.OpenSpec := { _root_.Go.OpenSpec.ofChange s with cond := some uptoSmall }

/-- 'laws.FnExactSumSorted', WHERE WHAT IT READS IS OF BULK AT MOST 1048576: true; the input reads as it did. -/
def fnExactSumSortedUptoRow : OpenClaim := { program := "ytbechpbfefdmgaa", sum := "89f40dbfb676195242295780d971004e193b9f87c2cfb7be5aa7dbeb504dd496", func := "loop.example/chosensums/laws.FnExactSumSorted", spec := "fnExactSumSorted", recurses := true, apart := false, narrowed := true }
def FnExactSumSortedUptoSaid : Prop := fnExactSumSortedUptoRow.holds Try.pinned (OpenSpec.upto fnExactSumSortedSpec)

/-- 'laws.FnExactSumWhole', WHERE WHAT IT READS IS OF BULK AT MOST 1048576: true; the input reads as it did. -/
def fnExactSumWholeUptoRow : OpenClaim := { program := "ytbechpbfefdmgaa", sum := "89f40dbfb676195242295780d971004e193b9f87c2cfb7be5aa7dbeb504dd496", func := "loop.example/chosensums/laws.FnExactSumWhole", spec := "fnExactSumWhole", recurses := true, apart := false, narrowed := true }
def FnExactSumWholeUptoSaid : Prop := fnExactSumWholeUptoRow.holds Try.pinned (OpenSpec.upto fnExactSumWholeSpec)

/-- 'laws.FnSorted', WHERE WHAT IT READS IS OF BULK AT MOST 1048576: true; the input reads as it did. -/
def fnSortedUptoRow : OpenClaim := { program := "ytbechpbfefdmgaa", sum := "89f40dbfb676195242295780d971004e193b9f87c2cfb7be5aa7dbeb504dd496", func := "loop.example/chosensums/laws.FnSorted", spec := "fnSorted", unfollowed := true, recurses := true, apart := false, narrowed := true }
def FnSortedUptoSaid : Prop := fnSortedUptoRow.holds Try.pinned (OpenSpec.upto fnSortedSpec)

/-- 'laws.FnGrown', WHERE WHAT IT READS IS OF BULK AT MOST 1048576: true; the input reads as it did. -/
def fnGrownUptoRow : OpenClaim := { program := "ytbechpbfefdmgaa", sum := "89f40dbfb676195242295780d971004e193b9f87c2cfb7be5aa7dbeb504dd496", func := "loop.example/chosensums/laws.FnGrown", spec := "fnGrown", unfollowed := true, recurses := true, apart := false, narrowed := true }
def FnGrownUptoSaid : Prop := fnGrownUptoRow.holds Try.pinned (OpenSpec.upto fnGrownSpec)

/-- 'laws.FnGap', WHERE WHAT IT READS IS OF BULK AT MOST 1048576: true; the input reads as it did. -/
def fnGapUptoRow : OpenClaim := { program := "ytbechpbfefdmgaa", sum := "89f40dbfb676195242295780d971004e193b9f87c2cfb7be5aa7dbeb504dd496", func := "loop.example/chosensums/laws.FnGap", spec := "fnGap", unfollowed := true, recurses := true, apart := false, narrowed := true }
def FnGapUptoSaid : Prop := fnGapUptoRow.holds Try.pinned (OpenSpec.upto fnGapSpec)

/-- 'laws.FnExactHalfDifferences', WHERE WHAT IT READS IS OF BULK AT MOST 1048576: true; the input reads as it did. -/
def fnExactHalfDifferencesUptoRow : OpenClaim := { program := "ytbechpbfefdmgaa", sum := "89f40dbfb676195242295780d971004e193b9f87c2cfb7be5aa7dbeb504dd496", func := "loop.example/chosensums/laws.FnExactHalfDifferences", spec := "fnExactHalfDifferences", unfollowed := true, recurses := true, apart := false, narrowed := true }
def FnExactHalfDifferencesUptoSaid : Prop := fnExactHalfDifferencesUptoRow.holds Try.pinned (OpenSpec.upto fnExactHalfDifferencesSpec)

/-- 'laws.FnExactHalfGreedy', WHERE WHAT IT READS IS OF BULK AT MOST 1048576: true; the input reads as it did. -/
def fnExactHalfGreedyUptoRow : OpenClaim := { program := "ytbechpbfefdmgaa", sum := "89f40dbfb676195242295780d971004e193b9f87c2cfb7be5aa7dbeb504dd496", func := "loop.example/chosensums/laws.FnExactHalfGreedy", spec := "fnExactHalfGreedy", unfollowed := true, recurses := true, apart := false, narrowed := true }
def FnExactHalfGreedyUptoSaid : Prop := fnExactHalfGreedyUptoRow.holds Try.pinned (OpenSpec.upto fnExactHalfGreedySpec)

end Rows
end Go.Proofs.Ytbechpbfefdmgaa
