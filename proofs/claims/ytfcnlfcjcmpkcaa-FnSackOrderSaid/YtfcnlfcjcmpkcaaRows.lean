/-
  No cell of these rows narrows 'for every input' (looked for: loops, veiled, ifaces, maps, wideKeys, modest, calm, conditions, laid).
  DERIVED. THE GIVEN ROWS OF THIS SEAT. 7 by the template 'for every input the law returns true; each argument reads behind the call as it read before'; 0 by the template 'total and deterministic' (their statements: YtfcnlfcjcmpkcaaTotals.lean).
  GIVEN WITH THE SEED: the statements are not yours to turn. If you find one false, say at which input.
  Laid BY PROGRAM, IN A SANDBOX (cutbox-rows.mjs): the forced cells as the released guide's own fill.sh prints them over the translation 72f7701b09da5f05… (all of the seat's roots in one cut). By AI agents, Wed Nov 11 2026. No macro, syntax, notation, axiom, sorry.
-/
import Derived.Test.YtfcnlfcjcmpkcaaChecked
import GoSem.Claim
import GoSem.ClaimJoined
import GoSem.ClaimMapViews
import Derived.JoinedTies
import Derived.KernelRfl
namespace Go.Proofs.Ytfcnlfcjcmpkcaa
/- THE CELL 'sum', in the pinned program and in every row, IS THE sha256 OF THE DUMP (.gsa) THAT YtfcnlfcjcmpkcaaProg.lean LOADS. Nothing in Lean hashes anything: it is a label: what it is worth is what the hold of that sum in a sandbox is worth. -/
noncomputable def Try.pinned : Pinned := { name := "ytfcnlfcjcmpkcaa", sum := "72f7701b09da5f052c37d1a2980a7b6d1de8d727353e673c86c5190286ca2ae3", checked := Try.checked }
namespace Rows
def none {H : Type} : Left H := { results := [], args := [] }

/-- 'laws.FnSackOrder': WHATEVER THE INPUT: true; the input reads as it did. -/
def fnSackOrderSpec : ChangeSpec := { name := "fnSackOrder", fn := fun _ => fun
  | [d] => { results := [.lit (.bool true)], args := [d] }
  | _ => none }
def fnSackOrderRow : OpenClaim := { program := "ytfcnlfcjcmpkcaa", sum := "72f7701b09da5f052c37d1a2980a7b6d1de8d727353e673c86c5190286ca2ae3", func := "loop.example/chosensums/laws.FnSackOrder", spec := "fnSackOrder", unfollowed := true, recurses := true, apart := false }
def FnSackOrderSaid : Prop := fnSackOrderRow.holds Try.pinned (OpenSpec.ofChange fnSackOrderSpec)

/-- ITS FALSE NEIGHBOUR: 'it returns false'. Refute it at one input. -/
def fnSackOrderWrong : ChangeSpec := { name := "fnSackOrder", fn := fun _ => fun
  | [d] => { results := [.lit (.bool false)], args := [d] }
  | _ => none }
def FnSackOrderWrongFalsely : Prop := fnSackOrderRow.holds Try.pinned (OpenSpec.ofChange fnSackOrderWrong)

/-- 'laws.FnSackBound': WHATEVER THE INPUT: true; the input reads as it did. -/
def fnSackBoundSpec : ChangeSpec := { name := "fnSackBound", fn := fun _ => fun
  | [d] => { results := [.lit (.bool true)], args := [d] }
  | _ => none }
def fnSackBoundRow : OpenClaim := { program := "ytfcnlfcjcmpkcaa", sum := "72f7701b09da5f052c37d1a2980a7b6d1de8d727353e673c86c5190286ca2ae3", func := "loop.example/chosensums/laws.FnSackBound", spec := "fnSackBound", unfollowed := true, recurses := true, apart := false }
def FnSackBoundSaid : Prop := fnSackBoundRow.holds Try.pinned (OpenSpec.ofChange fnSackBoundSpec)

/-- ITS FALSE NEIGHBOUR: 'it returns false'. Refute it at one input. -/
def fnSackBoundWrong : ChangeSpec := { name := "fnSackBound", fn := fun _ => fun
  | [d] => { results := [.lit (.bool false)], args := [d] }
  | _ => none }
def FnSackBoundWrongFalsely : Prop := fnSackBoundRow.holds Try.pinned (OpenSpec.ofChange fnSackBoundWrong)

/-- 'laws.FnExactSackBound': WHATEVER THE INPUT: true; the input reads as it did. -/
def fnExactSackBoundSpec : ChangeSpec := { name := "fnExactSackBound", fn := fun _ => fun
  | [d1, d2] => { results := [.lit (.bool true)], args := [d1, d2] }
  | _ => none }
def fnExactSackBoundRow : OpenClaim := { program := "ytfcnlfcjcmpkcaa", sum := "72f7701b09da5f052c37d1a2980a7b6d1de8d727353e673c86c5190286ca2ae3", func := "loop.example/chosensums/laws.FnExactSackBound", spec := "fnExactSackBound", unfollowed := true, recurses := true, apart := false }
def FnExactSackBoundSaid : Prop := fnExactSackBoundRow.holds Try.pinned (OpenSpec.ofChange fnExactSackBoundSpec)

/-- ITS FALSE NEIGHBOUR: 'it returns false'. Refute it at one input. -/
def fnExactSackBoundWrong : ChangeSpec := { name := "fnExactSackBound", fn := fun _ => fun
  | [d1, d2] => { results := [.lit (.bool false)], args := [d1, d2] }
  | _ => none }
def FnExactSackBoundWrongFalsely : Prop := fnExactSackBoundRow.holds Try.pinned (OpenSpec.ofChange fnExactSackBoundWrong)

/-- 'laws.FnSackGreedy': WHATEVER THE INPUT: true; the input reads as it did. -/
def fnSackGreedySpec : ChangeSpec := { name := "fnSackGreedy", fn := fun _ => fun
  | [d] => { results := [.lit (.bool true)], args := [d] }
  | _ => none }
def fnSackGreedyRow : OpenClaim := { program := "ytfcnlfcjcmpkcaa", sum := "72f7701b09da5f052c37d1a2980a7b6d1de8d727353e673c86c5190286ca2ae3", func := "loop.example/chosensums/laws.FnSackGreedy", spec := "fnSackGreedy", unfollowed := true, recurses := true, apart := false }
def FnSackGreedySaid : Prop := fnSackGreedyRow.holds Try.pinned (OpenSpec.ofChange fnSackGreedySpec)

/-- ITS FALSE NEIGHBOUR: 'it returns false'. Refute it at one input. -/
def fnSackGreedyWrong : ChangeSpec := { name := "fnSackGreedy", fn := fun _ => fun
  | [d] => { results := [.lit (.bool false)], args := [d] }
  | _ => none }
def FnSackGreedyWrongFalsely : Prop := fnSackGreedyRow.holds Try.pinned (OpenSpec.ofChange fnSackGreedyWrong)

/-- 'laws.FnExactSackGreedy': WHATEVER THE INPUT: true; the input reads as it did. -/
def fnExactSackGreedySpec : ChangeSpec := { name := "fnExactSackGreedy", fn := fun _ => fun
  | [d1, d2] => { results := [.lit (.bool true)], args := [d1, d2] }
  | _ => none }
def fnExactSackGreedyRow : OpenClaim := { program := "ytfcnlfcjcmpkcaa", sum := "72f7701b09da5f052c37d1a2980a7b6d1de8d727353e673c86c5190286ca2ae3", func := "loop.example/chosensums/laws.FnExactSackGreedy", spec := "fnExactSackGreedy", unfollowed := true, recurses := true, apart := false }
def FnExactSackGreedySaid : Prop := fnExactSackGreedyRow.holds Try.pinned (OpenSpec.ofChange fnExactSackGreedySpec)

/-- ITS FALSE NEIGHBOUR: 'it returns false'. Refute it at one input. -/
def fnExactSackGreedyWrong : ChangeSpec := { name := "fnExactSackGreedy", fn := fun _ => fun
  | [d1, d2] => { results := [.lit (.bool false)], args := [d1, d2] }
  | _ => none }
def FnExactSackGreedyWrongFalsely : Prop := fnExactSackGreedyRow.holds Try.pinned (OpenSpec.ofChange fnExactSackGreedyWrong)

/-- 'laws.FnExactSackOrder': WHATEVER THE INPUT: true; the input reads as it did. -/
def fnExactSackOrderSpec : ChangeSpec := { name := "fnExactSackOrder", fn := fun _ => fun
  | [d] => { results := [.lit (.bool true)], args := [d] }
  | _ => none }
def fnExactSackOrderRow : OpenClaim := { program := "ytfcnlfcjcmpkcaa", sum := "72f7701b09da5f052c37d1a2980a7b6d1de8d727353e673c86c5190286ca2ae3", func := "loop.example/chosensums/laws.FnExactSackOrder", spec := "fnExactSackOrder", unfollowed := true, recurses := true, apart := false }
def FnExactSackOrderSaid : Prop := fnExactSackOrderRow.holds Try.pinned (OpenSpec.ofChange fnExactSackOrderSpec)

/-- ITS FALSE NEIGHBOUR: 'it returns false'. Refute it at one input. -/
def fnExactSackOrderWrong : ChangeSpec := { name := "fnExactSackOrder", fn := fun _ => fun
  | [d] => { results := [.lit (.bool false)], args := [d] }
  | _ => none }
def FnExactSackOrderWrongFalsely : Prop := fnExactSackOrderRow.holds Try.pinned (OpenSpec.ofChange fnExactSackOrderWrong)

/-- 'laws.FnSackBest': WHATEVER THE INPUT: true; the input reads as it did. -/
def fnSackBestSpec : ChangeSpec := { name := "fnSackBest", fn := fun _ => fun
  | [d] => { results := [.lit (.bool true)], args := [d] }
  | _ => none }
def fnSackBestRow : OpenClaim := { program := "ytfcnlfcjcmpkcaa", sum := "72f7701b09da5f052c37d1a2980a7b6d1de8d727353e673c86c5190286ca2ae3", func := "loop.example/chosensums/laws.FnSackBest", spec := "fnSackBest", unfollowed := true, recurses := true, apart := false }
def FnSackBestSaid : Prop := fnSackBestRow.holds Try.pinned (OpenSpec.ofChange fnSackBestSpec)

/-- ITS FALSE NEIGHBOUR: 'it returns false'. Refute it at one input. -/
def fnSackBestWrong : ChangeSpec := { name := "fnSackBest", fn := fun _ => fun
  | [d] => { results := [.lit (.bool false)], args := [d] }
  | _ => none }
def FnSackBestWrongFalsely : Prop := fnSackBestRow.holds Try.pinned (OpenSpec.ofChange fnSackBestWrong)

/- THE SECOND FORM. 'bulk': how many values and letters a reading holds, each counted each time it is reached (what is shared counts as often as it is met; a slice's spare places count too). A statement '..UptoSaid' is the law's where the arguments, and the package variables that the reading takes, are together of bulk at most 1048576: NARROWER than '..Said'. Prove '..Said' where nothing that the law and all that it calls make is longer than what came in: it says more and counts as full. Else prove '..UptoSaid'. A law counts once. -/
mutual
def uptoBulk {H : Type} : DataW H → Nat
  | .lit (.string bytes) => bytes.length + 1
  | .lit _ => 1
  | .nil => 1
  | .ptr d => uptoBulk d + 1
  | .slice elems spare => uptoBulkAll elems + uptoBulkAll spare + 1
  | .agg parts => uptoBulkAll parts + 1
  | .iface _ d => uptoBulk d + 1
  | .map entries => uptoBulkEntries entries + 1
  | .held _ => 1
def uptoBulkAll {H : Type} : List (DataW H) → Nat
  | [] => 0
  | d :: r => uptoBulk d + uptoBulkAll r
def uptoBulkEntries {H : Type} : List (Lit × DataW H) → Nat
  | [] => 0
  | x :: r => uptoBulkEntry x + uptoBulkEntries r
def uptoBulkEntry {H : Type} : Lit × DataW H → Nat
  | (.string bytes, d) => bytes.length + uptoBulk d + 1
  | (_, d) => uptoBulk d + 1
 end
def uptoSmall : (H : Type) → List (DataW H) → Bool := fun _ ds => decide (uptoBulkAll ds ≤ 1048576)
def OpenSpec.upto (s : _root_.Go.ChangeSpec) : _root_.Go.OpenSpec := { _root_.Go.OpenSpec.ofChange s with cond := some uptoSmall }

/-- 'laws.FnSackOrder', WHERE WHAT IT READS IS OF BULK AT MOST 1048576: true; the input reads as it did. -/
def fnSackOrderUptoRow : OpenClaim := { program := "ytfcnlfcjcmpkcaa", sum := "72f7701b09da5f052c37d1a2980a7b6d1de8d727353e673c86c5190286ca2ae3", func := "loop.example/chosensums/laws.FnSackOrder", spec := "fnSackOrder", unfollowed := true, recurses := true, apart := false, narrowed := true }
def FnSackOrderUptoSaid : Prop := fnSackOrderUptoRow.holds Try.pinned (OpenSpec.upto fnSackOrderSpec)

/-- 'laws.FnSackBound', WHERE WHAT IT READS IS OF BULK AT MOST 1048576: true; the input reads as it did. -/
def fnSackBoundUptoRow : OpenClaim := { program := "ytfcnlfcjcmpkcaa", sum := "72f7701b09da5f052c37d1a2980a7b6d1de8d727353e673c86c5190286ca2ae3", func := "loop.example/chosensums/laws.FnSackBound", spec := "fnSackBound", unfollowed := true, recurses := true, apart := false, narrowed := true }
def FnSackBoundUptoSaid : Prop := fnSackBoundUptoRow.holds Try.pinned (OpenSpec.upto fnSackBoundSpec)

/-- 'laws.FnExactSackBound', WHERE WHAT IT READS IS OF BULK AT MOST 1048576: true; the input reads as it did. -/
def fnExactSackBoundUptoRow : OpenClaim := { program := "ytfcnlfcjcmpkcaa", sum := "72f7701b09da5f052c37d1a2980a7b6d1de8d727353e673c86c5190286ca2ae3", func := "loop.example/chosensums/laws.FnExactSackBound", spec := "fnExactSackBound", unfollowed := true, recurses := true, apart := false, narrowed := true }
def FnExactSackBoundUptoSaid : Prop := fnExactSackBoundUptoRow.holds Try.pinned (OpenSpec.upto fnExactSackBoundSpec)

/-- 'laws.FnSackGreedy', WHERE WHAT IT READS IS OF BULK AT MOST 1048576: true; the input reads as it did. -/
def fnSackGreedyUptoRow : OpenClaim := { program := "ytfcnlfcjcmpkcaa", sum := "72f7701b09da5f052c37d1a2980a7b6d1de8d727353e673c86c5190286ca2ae3", func := "loop.example/chosensums/laws.FnSackGreedy", spec := "fnSackGreedy", unfollowed := true, recurses := true, apart := false, narrowed := true }
def FnSackGreedyUptoSaid : Prop := fnSackGreedyUptoRow.holds Try.pinned (OpenSpec.upto fnSackGreedySpec)

/-- 'laws.FnExactSackGreedy', WHERE WHAT IT READS IS OF BULK AT MOST 1048576: true; the input reads as it did. -/
def fnExactSackGreedyUptoRow : OpenClaim := { program := "ytfcnlfcjcmpkcaa", sum := "72f7701b09da5f052c37d1a2980a7b6d1de8d727353e673c86c5190286ca2ae3", func := "loop.example/chosensums/laws.FnExactSackGreedy", spec := "fnExactSackGreedy", unfollowed := true, recurses := true, apart := false, narrowed := true }
def FnExactSackGreedyUptoSaid : Prop := fnExactSackGreedyUptoRow.holds Try.pinned (OpenSpec.upto fnExactSackGreedySpec)

/-- 'laws.FnExactSackOrder', WHERE WHAT IT READS IS OF BULK AT MOST 1048576: true; the input reads as it did. -/
def fnExactSackOrderUptoRow : OpenClaim := { program := "ytfcnlfcjcmpkcaa", sum := "72f7701b09da5f052c37d1a2980a7b6d1de8d727353e673c86c5190286ca2ae3", func := "loop.example/chosensums/laws.FnExactSackOrder", spec := "fnExactSackOrder", unfollowed := true, recurses := true, apart := false, narrowed := true }
def FnExactSackOrderUptoSaid : Prop := fnExactSackOrderUptoRow.holds Try.pinned (OpenSpec.upto fnExactSackOrderSpec)

/-- 'laws.FnSackBest', WHERE WHAT IT READS IS OF BULK AT MOST 1048576: true; the input reads as it did. -/
def fnSackBestUptoRow : OpenClaim := { program := "ytfcnlfcjcmpkcaa", sum := "72f7701b09da5f052c37d1a2980a7b6d1de8d727353e673c86c5190286ca2ae3", func := "loop.example/chosensums/laws.FnSackBest", spec := "fnSackBest", unfollowed := true, recurses := true, apart := false, narrowed := true }
def FnSackBestUptoSaid : Prop := fnSackBestUptoRow.holds Try.pinned (OpenSpec.upto fnSackBestSpec)

end Rows
end Go.Proofs.Ytfcnlfcjcmpkcaa
