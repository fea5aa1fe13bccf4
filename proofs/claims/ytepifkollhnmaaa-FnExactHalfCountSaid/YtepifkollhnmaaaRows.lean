/-
  No cell of these rows narrows 'for every input' (looked for: loops, veiled, ifaces, maps, wideKeys, modest, calm, conditions, laid).
  DERIVED. THE GIVEN ROWS OF THIS SEAT. 12 by the template 'for every input the law returns true; each argument reads behind the call as it read before'; 0 by the template 'total and deterministic' (their statements: YtepifkollhnmaaaTotals.lean).
  GIVEN WITH THE SEED: the statements are not yours to turn. If you find one false, say at which input.
  Laid BY PROGRAM, IN A SANDBOX (cutbox-rows.mjs): the forced cells as the released guide's own fill.sh prints them over the translation 57d6a2c4db7e2726… (all of the seat's roots in one cut). By AI agents, Wed Nov 11 2026. No macro, syntax, notation, axiom, sorry.
-/
import Derived.Test.YtepifkollhnmaaaChecked
import GoSem.Claim
import GoSem.ClaimJoined
import GoSem.ClaimMapViews
import Derived.JoinedTies
import Derived.KernelRfl
namespace Go.Proofs.Ytepifkollhnmaaa
/- THE CELL 'sum', in the pinned program and in every row, IS THE sha256 OF THE DUMP (.gsa) THAT YtepifkollhnmaaaProg.lean LOADS. Nothing in Lean hashes anything: it is a label: what it is worth is what the hold of that sum in a sandbox is worth. -/
noncomputable def Try.pinned : Pinned := { name := "ytepifkollhnmaaa", sum := "57d6a2c4db7e2726d7109e2dffedb305df24cb33b01374c2a0cafde53e8d6e64", checked := Try.checked }
namespace Rows
def none {H : Type} : Left H := { results := [], args := [] }

/-- 'laws.FnExactConstants': WHATEVER THE INPUT: true; the input reads as it did. -/
def fnExactConstantsSpec : ChangeSpec := { name := "fnExactConstants", fn := fun _ => fun
  | [] => { results := [.lit (.bool true)], args := [] }
  | _ => none }
def fnExactConstantsRow : OpenClaim := { program := "ytepifkollhnmaaa", sum := "57d6a2c4db7e2726d7109e2dffedb305df24cb33b01374c2a0cafde53e8d6e64", func := "loop.example/chosensums/laws.FnExactConstants", spec := "fnExactConstants", apart := false }
def FnExactConstantsSaid : Prop := fnExactConstantsRow.holds Try.pinned (OpenSpec.ofChange fnExactConstantsSpec)

/-- ITS FALSE NEIGHBOUR: 'it returns false'. Refute it at one input. -/
def fnExactConstantsWrong : ChangeSpec := { name := "fnExactConstants", fn := fun _ => fun
  | [] => { results := [.lit (.bool false)], args := [] }
  | _ => none }
def FnExactConstantsWrongFalsely : Prop := fnExactConstantsRow.holds Try.pinned (OpenSpec.ofChange fnExactConstantsWrong)

/-- 'laws.FnExactSumIn': WHATEVER THE INPUT: true; the input reads as it did. -/
def fnExactSumInSpec : ChangeSpec := { name := "fnExactSumIn", fn := fun _ => fun
  | [d] => { results := [.lit (.bool true)], args := [d] }
  | _ => none }
def fnExactSumInRow : OpenClaim := { program := "ytepifkollhnmaaa", sum := "57d6a2c4db7e2726d7109e2dffedb305df24cb33b01374c2a0cafde53e8d6e64", func := "loop.example/chosensums/laws.FnExactSumIn", spec := "fnExactSumIn", apart := false }
def FnExactSumInSaid : Prop := fnExactSumInRow.holds Try.pinned (OpenSpec.ofChange fnExactSumInSpec)

/-- ITS FALSE NEIGHBOUR: 'it returns false'. Refute it at one input. -/
def fnExactSumInWrong : ChangeSpec := { name := "fnExactSumIn", fn := fun _ => fun
  | [d] => { results := [.lit (.bool false)], args := [d] }
  | _ => none }
def FnExactSumInWrongFalsely : Prop := fnExactSumInRow.holds Try.pinned (OpenSpec.ofChange fnExactSumInWrong)

/-- 'laws.FnExactSumGrown': WHATEVER THE INPUT: true; the input reads as it did. -/
def fnExactSumGrownSpec : ChangeSpec := { name := "fnExactSumGrown", fn := fun _ => fun
  | [d] => { results := [.lit (.bool true)], args := [d] }
  | _ => none }
def fnExactSumGrownRow : OpenClaim := { program := "ytepifkollhnmaaa", sum := "57d6a2c4db7e2726d7109e2dffedb305df24cb33b01374c2a0cafde53e8d6e64", func := "loop.example/chosensums/laws.FnExactSumGrown", spec := "fnExactSumGrown", apart := false }
def FnExactSumGrownSaid : Prop := fnExactSumGrownRow.holds Try.pinned (OpenSpec.ofChange fnExactSumGrownSpec)

/-- ITS FALSE NEIGHBOUR: 'it returns false'. Refute it at one input. -/
def fnExactSumGrownWrong : ChangeSpec := { name := "fnExactSumGrown", fn := fun _ => fun
  | [d] => { results := [.lit (.bool false)], args := [d] }
  | _ => none }
def FnExactSumGrownWrongFalsely : Prop := fnExactSumGrownRow.holds Try.pinned (OpenSpec.ofChange fnExactSumGrownWrong)

/-- 'laws.FnExactSumOf': WHATEVER THE INPUT: true; the input reads as it did. -/
def fnExactSumOfSpec : ChangeSpec := { name := "fnExactSumOf", fn := fun _ => fun
  | [d1, d2] => { results := [.lit (.bool true)], args := [d1, d2] }
  | _ => none }
def fnExactSumOfRow : OpenClaim := { program := "ytepifkollhnmaaa", sum := "57d6a2c4db7e2726d7109e2dffedb305df24cb33b01374c2a0cafde53e8d6e64", func := "loop.example/chosensums/laws.FnExactSumOf", spec := "fnExactSumOf", apart := false }
def FnExactSumOfSaid : Prop := fnExactSumOfRow.holds Try.pinned (OpenSpec.ofChange fnExactSumOfSpec)

/-- ITS FALSE NEIGHBOUR: 'it returns false'. Refute it at one input. -/
def fnExactSumOfWrong : ChangeSpec := { name := "fnExactSumOf", fn := fun _ => fun
  | [d1, d2] => { results := [.lit (.bool false)], args := [d1, d2] }
  | _ => none }
def FnExactSumOfWrongFalsely : Prop := fnExactSumOfRow.holds Try.pinned (OpenSpec.ofChange fnExactSumOfWrong)

/-- 'laws.FnExactSumFirst': WHATEVER THE INPUT: true; the input reads as it did. -/
def fnExactSumFirstSpec : ChangeSpec := { name := "fnExactSumFirst", fn := fun _ => fun
  | [d1, d2] => { results := [.lit (.bool true)], args := [d1, d2] }
  | _ => none }
def fnExactSumFirstRow : OpenClaim := { program := "ytepifkollhnmaaa", sum := "57d6a2c4db7e2726d7109e2dffedb305df24cb33b01374c2a0cafde53e8d6e64", func := "loop.example/chosensums/laws.FnExactSumFirst", spec := "fnExactSumFirst", unfollowed := true, recurses := true, apart := false }
def FnExactSumFirstSaid : Prop := fnExactSumFirstRow.holds Try.pinned (OpenSpec.ofChange fnExactSumFirstSpec)

/-- ITS FALSE NEIGHBOUR: 'it returns false'. Refute it at one input. -/
def fnExactSumFirstWrong : ChangeSpec := { name := "fnExactSumFirst", fn := fun _ => fun
  | [d1, d2] => { results := [.lit (.bool false)], args := [d1, d2] }
  | _ => none }
def FnExactSumFirstWrongFalsely : Prop := fnExactSumFirstRow.holds Try.pinned (OpenSpec.ofChange fnExactSumFirstWrong)

/-- 'laws.FnExactSumCounts': WHATEVER THE INPUT: true; the input reads as it did. -/
def fnExactSumCountsSpec : ChangeSpec := { name := "fnExactSumCounts", fn := fun _ => fun
  | [d] => { results := [.lit (.bool true)], args := [d] }
  | _ => none }
def fnExactSumCountsRow : OpenClaim := { program := "ytepifkollhnmaaa", sum := "57d6a2c4db7e2726d7109e2dffedb305df24cb33b01374c2a0cafde53e8d6e64", func := "loop.example/chosensums/laws.FnExactSumCounts", spec := "fnExactSumCounts", unfollowed := true, recurses := true, apart := false }
def FnExactSumCountsSaid : Prop := fnExactSumCountsRow.holds Try.pinned (OpenSpec.ofChange fnExactSumCountsSpec)

/-- ITS FALSE NEIGHBOUR: 'it returns false'. Refute it at one input. -/
def fnExactSumCountsWrong : ChangeSpec := { name := "fnExactSumCounts", fn := fun _ => fun
  | [d] => { results := [.lit (.bool false)], args := [d] }
  | _ => none }
def FnExactSumCountsWrongFalsely : Prop := fnExactSumCountsRow.holds Try.pinned (OpenSpec.ofChange fnExactSumCountsWrong)

/-- 'laws.FnExactSumMissing': WHATEVER THE INPUT: true; the input reads as it did. -/
def fnExactSumMissingSpec : ChangeSpec := { name := "fnExactSumMissing", fn := fun _ => fun
  | [d] => { results := [.lit (.bool true)], args := [d] }
  | _ => none }
def fnExactSumMissingRow : OpenClaim := { program := "ytepifkollhnmaaa", sum := "57d6a2c4db7e2726d7109e2dffedb305df24cb33b01374c2a0cafde53e8d6e64", func := "loop.example/chosensums/laws.FnExactSumMissing", spec := "fnExactSumMissing", unfollowed := true, recurses := true, apart := false }
def FnExactSumMissingSaid : Prop := fnExactSumMissingRow.holds Try.pinned (OpenSpec.ofChange fnExactSumMissingSpec)

/-- ITS FALSE NEIGHBOUR: 'it returns false'. Refute it at one input. -/
def fnExactSumMissingWrong : ChangeSpec := { name := "fnExactSumMissing", fn := fun _ => fun
  | [d] => { results := [.lit (.bool false)], args := [d] }
  | _ => none }
def FnExactSumMissingWrongFalsely : Prop := fnExactSumMissingRow.holds Try.pinned (OpenSpec.ofChange fnExactSumMissingWrong)

/-- 'laws.FnExactSumApart': WHATEVER THE INPUT: true; the input reads as it did. -/
def fnExactSumApartSpec : ChangeSpec := { name := "fnExactSumApart", fn := fun _ => fun
  | [d] => { results := [.lit (.bool true)], args := [d] }
  | _ => none }
def fnExactSumApartRow : OpenClaim := { program := "ytepifkollhnmaaa", sum := "57d6a2c4db7e2726d7109e2dffedb305df24cb33b01374c2a0cafde53e8d6e64", func := "loop.example/chosensums/laws.FnExactSumApart", spec := "fnExactSumApart", unfollowed := true, recurses := true, apart := false }
def FnExactSumApartSaid : Prop := fnExactSumApartRow.holds Try.pinned (OpenSpec.ofChange fnExactSumApartSpec)

/-- ITS FALSE NEIGHBOUR: 'it returns false'. Refute it at one input. -/
def fnExactSumApartWrong : ChangeSpec := { name := "fnExactSumApart", fn := fun _ => fun
  | [d] => { results := [.lit (.bool false)], args := [d] }
  | _ => none }
def FnExactSumApartWrongFalsely : Prop := fnExactSumApartRow.holds Try.pinned (OpenSpec.ofChange fnExactSumApartWrong)

/-- 'laws.FnExactSumChoices': WHATEVER THE INPUT: true; the input reads as it did. -/
def fnExactSumChoicesSpec : ChangeSpec := { name := "fnExactSumChoices", fn := fun _ => fun
  | [d1, d2] => { results := [.lit (.bool true)], args := [d1, d2] }
  | _ => none }
def fnExactSumChoicesRow : OpenClaim := { program := "ytepifkollhnmaaa", sum := "57d6a2c4db7e2726d7109e2dffedb305df24cb33b01374c2a0cafde53e8d6e64", func := "loop.example/chosensums/laws.FnExactSumChoices", spec := "fnExactSumChoices", unfollowed := true, recurses := true, apart := false }
def FnExactSumChoicesSaid : Prop := fnExactSumChoicesRow.holds Try.pinned (OpenSpec.ofChange fnExactSumChoicesSpec)

/-- ITS FALSE NEIGHBOUR: 'it returns false'. Refute it at one input. -/
def fnExactSumChoicesWrong : ChangeSpec := { name := "fnExactSumChoices", fn := fun _ => fun
  | [d1, d2] => { results := [.lit (.bool false)], args := [d1, d2] }
  | _ => none }
def FnExactSumChoicesWrongFalsely : Prop := fnExactSumChoicesRow.holds Try.pinned (OpenSpec.ofChange fnExactSumChoicesWrong)

/-- 'laws.FnExactSumReach': WHATEVER THE INPUT: true; the input reads as it did. -/
def fnExactSumReachSpec : ChangeSpec := { name := "fnExactSumReach", fn := fun _ => fun
  | [d] => { results := [.lit (.bool true)], args := [d] }
  | _ => none }
def fnExactSumReachRow : OpenClaim := { program := "ytepifkollhnmaaa", sum := "57d6a2c4db7e2726d7109e2dffedb305df24cb33b01374c2a0cafde53e8d6e64", func := "loop.example/chosensums/laws.FnExactSumReach", spec := "fnExactSumReach", unfollowed := true, recurses := true, apart := false }
def FnExactSumReachSaid : Prop := fnExactSumReachRow.holds Try.pinned (OpenSpec.ofChange fnExactSumReachSpec)

/-- ITS FALSE NEIGHBOUR: 'it returns false'. Refute it at one input. -/
def fnExactSumReachWrong : ChangeSpec := { name := "fnExactSumReach", fn := fun _ => fun
  | [d] => { results := [.lit (.bool false)], args := [d] }
  | _ => none }
def FnExactSumReachWrongFalsely : Prop := fnExactSumReachRow.holds Try.pinned (OpenSpec.ofChange fnExactSumReachWrong)

/-- 'laws.FnExactSumGap': WHATEVER THE INPUT: true; the input reads as it did. -/
def fnExactSumGapSpec : ChangeSpec := { name := "fnExactSumGap", fn := fun _ => fun
  | [d] => { results := [.lit (.bool true)], args := [d] }
  | _ => none }
def fnExactSumGapRow : OpenClaim := { program := "ytepifkollhnmaaa", sum := "57d6a2c4db7e2726d7109e2dffedb305df24cb33b01374c2a0cafde53e8d6e64", func := "loop.example/chosensums/laws.FnExactSumGap", spec := "fnExactSumGap", unfollowed := true, recurses := true, apart := false }
def FnExactSumGapSaid : Prop := fnExactSumGapRow.holds Try.pinned (OpenSpec.ofChange fnExactSumGapSpec)

/-- ITS FALSE NEIGHBOUR: 'it returns false'. Refute it at one input. -/
def fnExactSumGapWrong : ChangeSpec := { name := "fnExactSumGap", fn := fun _ => fun
  | [d] => { results := [.lit (.bool false)], args := [d] }
  | _ => none }
def FnExactSumGapWrongFalsely : Prop := fnExactSumGapRow.holds Try.pinned (OpenSpec.ofChange fnExactSumGapWrong)

/-- 'laws.FnExactHalfCount': WHATEVER THE INPUT: true; the input reads as it did. -/
def fnExactHalfCountSpec : ChangeSpec := { name := "fnExactHalfCount", fn := fun _ => fun
  | [d] => { results := [.lit (.bool true)], args := [d] }
  | _ => none }
def fnExactHalfCountRow : OpenClaim := { program := "ytepifkollhnmaaa", sum := "57d6a2c4db7e2726d7109e2dffedb305df24cb33b01374c2a0cafde53e8d6e64", func := "loop.example/chosensums/laws.FnExactHalfCount", spec := "fnExactHalfCount", unfollowed := true, recurses := true, apart := false }
def FnExactHalfCountSaid : Prop := fnExactHalfCountRow.holds Try.pinned (OpenSpec.ofChange fnExactHalfCountSpec)

/-- ITS FALSE NEIGHBOUR: 'it returns false'. Refute it at one input. -/
def fnExactHalfCountWrong : ChangeSpec := { name := "fnExactHalfCount", fn := fun _ => fun
  | [d] => { results := [.lit (.bool false)], args := [d] }
  | _ => none }
def FnExactHalfCountWrongFalsely : Prop := fnExactHalfCountRow.holds Try.pinned (OpenSpec.ofChange fnExactHalfCountWrong)

/- THE SECOND FORM. 'bulk': how many values and letters a reading holds, each counted each time it is reached (what is shared counts as often as it is met; a slice's spare places count too). A statement '..UptoSaid' is the law's where the arguments, and the package variables that the reading takes, are together of bulk at most 1048576: NARROWER than '..Said'. Prove '..Said' where nothing that the law and all that it calls make is longer than what came in: it says more and counts as full. Else prove '..UptoSaid'. A law counts once. -/
mutual
def uptoBulk {H : Type} : DataW H → Nat
  | .lit (.string bytes) => bytes.length + 1
  | .lit _ => 1
  | .nil => 1
  | .ptr d => uptoBulk d + 1
  | .slice elems spare => uptoBulkAll elems + uptoBulkAll spare + 1
  | .agg parts => uptoBulkAll parts + 1
  | .iface _ d => uptoBulk d + 1
  | .map entries => uptoBulkEntries entries + 1
  | .held _ => 1
def uptoBulkAll {H : Type} : List (DataW H) → Nat
  | [] => 0
  | d :: r => uptoBulk d + uptoBulkAll r
def uptoBulkEntries {H : Type} : List (Lit × DataW H) → Nat
  | [] => 0
  | x :: r => uptoBulkEntry x + uptoBulkEntries r
def uptoBulkEntry {H : Type} : Lit × DataW H → Nat
  | (.string bytes, d) => bytes.length + uptoBulk d + 1
  | (_, d) => uptoBulk d + 1
 end
def uptoSmall : (H : Type) → List (DataW H) → Bool := fun _ ds => decide (uptoBulkAll ds ≤ 1048576)
def OpenSpec.upto (s : _root_.Go.ChangeSpec) : _root_.Go.OpenSpec := { _root_.Go.OpenSpec.ofChange s with cond := some uptoSmall }

/-- 'laws.FnExactConstants', WHERE WHAT IT READS IS OF BULK AT MOST 1048576: true; the input reads as it did. -/
def fnExactConstantsUptoRow : OpenClaim := { program := "ytepifkollhnmaaa", sum := "57d6a2c4db7e2726d7109e2dffedb305df24cb33b01374c2a0cafde53e8d6e64", func := "loop.example/chosensums/laws.FnExactConstants", spec := "fnExactConstants", apart := false, narrowed := true }
def FnExactConstantsUptoSaid : Prop := fnExactConstantsUptoRow.holds Try.pinned (OpenSpec.upto fnExactConstantsSpec)

/-- 'laws.FnExactSumIn', WHERE WHAT IT READS IS OF BULK AT MOST 1048576: true; the input reads as it did. -/
def fnExactSumInUptoRow : OpenClaim := { program := "ytepifkollhnmaaa", sum := "57d6a2c4db7e2726d7109e2dffedb305df24cb33b01374c2a0cafde53e8d6e64", func := "loop.example/chosensums/laws.FnExactSumIn", spec := "fnExactSumIn", apart := false, narrowed := true }
def FnExactSumInUptoSaid : Prop := fnExactSumInUptoRow.holds Try.pinned (OpenSpec.upto fnExactSumInSpec)

/-- 'laws.FnExactSumGrown', WHERE WHAT IT READS IS OF BULK AT MOST 1048576: true; the input reads as it did. -/
def fnExactSumGrownUptoRow : OpenClaim := { program := "ytepifkollhnmaaa", sum := "57d6a2c4db7e2726d7109e2dffedb305df24cb33b01374c2a0cafde53e8d6e64", func := "loop.example/chosensums/laws.FnExactSumGrown", spec := "fnExactSumGrown", apart := false, narrowed := true }
def FnExactSumGrownUptoSaid : Prop := fnExactSumGrownUptoRow.holds Try.pinned (OpenSpec.upto fnExactSumGrownSpec)

/-- 'laws.FnExactSumOf', WHERE WHAT IT READS IS OF BULK AT MOST 1048576: true; the input reads as it did. -/
def fnExactSumOfUptoRow : OpenClaim := { program := "ytepifkollhnmaaa", sum := "57d6a2c4db7e2726d7109e2dffedb305df24cb33b01374c2a0cafde53e8d6e64", func := "loop.example/chosensums/laws.FnExactSumOf", spec := "fnExactSumOf", apart := false, narrowed := true }
def FnExactSumOfUptoSaid : Prop := fnExactSumOfUptoRow.holds Try.pinned (OpenSpec.upto fnExactSumOfSpec)

/-- 'laws.FnExactSumFirst', WHERE WHAT IT READS IS OF BULK AT MOST 1048576: true; the input reads as it did. -/
def fnExactSumFirstUptoRow : OpenClaim := { program := "ytepifkollhnmaaa", sum := "57d6a2c4db7e2726d7109e2dffedb305df24cb33b01374c2a0cafde53e8d6e64", func := "loop.example/chosensums/laws.FnExactSumFirst", spec := "fnExactSumFirst", unfollowed := true, recurses := true, apart := false, narrowed := true }
def FnExactSumFirstUptoSaid : Prop := fnExactSumFirstUptoRow.holds Try.pinned (OpenSpec.upto fnExactSumFirstSpec)

/-- 'laws.FnExactSumCounts', WHERE WHAT IT READS IS OF BULK AT MOST 1048576: true; the input reads as it did. -/
def fnExactSumCountsUptoRow : OpenClaim := { program := "ytepifkollhnmaaa", sum := "57d6a2c4db7e2726d7109e2dffedb305df24cb33b01374c2a0cafde53e8d6e64", func := "loop.example/chosensums/laws.FnExactSumCounts", spec := "fnExactSumCounts", unfollowed := true, recurses := true, apart := false, narrowed := true }
def FnExactSumCountsUptoSaid : Prop := fnExactSumCountsUptoRow.holds Try.pinned (OpenSpec.upto fnExactSumCountsSpec)

/-- 'laws.FnExactSumMissing', WHERE WHAT IT READS IS OF BULK AT MOST 1048576: true; the input reads as it did. -/
def fnExactSumMissingUptoRow : OpenClaim := { program := "ytepifkollhnmaaa", sum := "57d6a2c4db7e2726d7109e2dffedb305df24cb33b01374c2a0cafde53e8d6e64", func := "loop.example/chosensums/laws.FnExactSumMissing", spec := "fnExactSumMissing", unfollowed := true, recurses := true, apart := false, narrowed := true }
def FnExactSumMissingUptoSaid : Prop := fnExactSumMissingUptoRow.holds Try.pinned (OpenSpec.upto fnExactSumMissingSpec)

/-- 'laws.FnExactSumApart', WHERE WHAT IT READS IS OF BULK AT MOST 1048576: true; the input reads as it did. -/
def fnExactSumApartUptoRow : OpenClaim := { program := "ytepifkollhnmaaa", sum := "57d6a2c4db7e2726d7109e2dffedb305df24cb33b01374c2a0cafde53e8d6e64", func := "loop.example/chosensums/laws.FnExactSumApart", spec := "fnExactSumApart", unfollowed := true, recurses := true, apart := false, narrowed := true }
def FnExactSumApartUptoSaid : Prop := fnExactSumApartUptoRow.holds Try.pinned (OpenSpec.upto fnExactSumApartSpec)

/-- 'laws.FnExactSumChoices', WHERE WHAT IT READS IS OF BULK AT MOST 1048576: true; the input reads as it did. -/
def fnExactSumChoicesUptoRow : OpenClaim := { program := "ytepifkollhnmaaa", sum := "57d6a2c4db7e2726d7109e2dffedb305df24cb33b01374c2a0cafde53e8d6e64", func := "loop.example/chosensums/laws.FnExactSumChoices", spec := "fnExactSumChoices", unfollowed := true, recurses := true, apart := false, narrowed := true }
def FnExactSumChoicesUptoSaid : Prop := fnExactSumChoicesUptoRow.holds Try.pinned (OpenSpec.upto fnExactSumChoicesSpec)

/-- 'laws.FnExactSumReach', WHERE WHAT IT READS IS OF BULK AT MOST 1048576: true; the input reads as it did. -/
def fnExactSumReachUptoRow : OpenClaim := { program := "ytepifkollhnmaaa", sum := "57d6a2c4db7e2726d7109e2dffedb305df24cb33b01374c2a0cafde53e8d6e64", func := "loop.example/chosensums/laws.FnExactSumReach", spec := "fnExactSumReach", unfollowed := true, recurses := true, apart := false, narrowed := true }
def FnExactSumReachUptoSaid : Prop := fnExactSumReachUptoRow.holds Try.pinned (OpenSpec.upto fnExactSumReachSpec)

/-- 'laws.FnExactSumGap', WHERE WHAT IT READS IS OF BULK AT MOST 1048576: true; the input reads as it did. -/
def fnExactSumGapUptoRow : OpenClaim := { program := "ytepifkollhnmaaa", sum := "57d6a2c4db7e2726d7109e2dffedb305df24cb33b01374c2a0cafde53e8d6e64", func := "loop.example/chosensums/laws.FnExactSumGap", spec := "fnExactSumGap", unfollowed := true, recurses := true, apart := false, narrowed := true }
def FnExactSumGapUptoSaid : Prop := fnExactSumGapUptoRow.holds Try.pinned (OpenSpec.upto fnExactSumGapSpec)

/-- 'laws.FnExactHalfCount', WHERE WHAT IT READS IS OF BULK AT MOST 1048576: true; the input reads as it did. -/
def fnExactHalfCountUptoRow : OpenClaim := { program := "ytepifkollhnmaaa", sum := "57d6a2c4db7e2726d7109e2dffedb305df24cb33b01374c2a0cafde53e8d6e64", func := "loop.example/chosensums/laws.FnExactHalfCount", spec := "fnExactHalfCount", unfollowed := true, recurses := true, apart := false, narrowed := true }
def FnExactHalfCountUptoSaid : Prop := fnExactHalfCountUptoRow.holds Try.pinned (OpenSpec.upto fnExactHalfCountSpec)

end Rows
end Go.Proofs.Ytepifkollhnmaaa
