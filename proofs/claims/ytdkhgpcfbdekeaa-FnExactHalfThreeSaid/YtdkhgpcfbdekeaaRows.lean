/-
  No cell of these rows narrows 'for every input' (looked for: loops, veiled, ifaces, maps, wideKeys, modest, calm, conditions, laid).
  DERIVED. THE GIVEN ROWS OF THIS SEAT. 9 by the template 'for every input the law returns true; each argument reads behind the call as it read before'; 0 by the template 'total and deterministic' (their statements: YtdkhgpcfbdekeaaTotals.lean).
  GIVEN WITH THE SEED: the statements are not yours to turn. If you find one false, say at which input.
  Laid BY PROGRAM, IN A SANDBOX (cutbox-rows.mjs): the forced cells as the released guide's own fill.sh prints them over the translation 752068ad0ce68204… (all of the seat's roots in one cut). By AI agents, Wed Nov 11 2026. No macro, syntax, notation, axiom, sorry.
-/
import Derived.Test.YtdkhgpcfbdekeaaChecked
import GoSem.Claim
import GoSem.ClaimJoined
import GoSem.ClaimMapViews
import Derived.JoinedTies
import Derived.KernelRfl
namespace Go.Proofs.Ytdkhgpcfbdekeaa
/- THE CELL 'sum', in the pinned program and in every row, IS THE sha256 OF THE DUMP (.gsa) THAT YtdkhgpcfbdekeaaProg.lean LOADS. Nothing in Lean hashes anything: it is a label: what it is worth is what the hold of that sum in a sandbox is worth. -/
noncomputable def Try.pinned : Pinned := { name := "ytdkhgpcfbdekeaa", sum := "752068ad0ce682040d454451558c3af42f88eb2fdebecdc92473d71ad61cae80", checked := Try.checked }
namespace Rows
def none {H : Type} : Left H := { results := [], args := [] }

/-- 'laws.FnExactHalfSigned': WHATEVER THE INPUT: true; the input reads as it did. -/
def fnExactHalfSignedSpec : ChangeSpec := { name := "fnExactHalfSigned", fn := fun _ => fun
  | [d] => { results := [.lit (.bool true)], args := [d] }
  | _ => none }
def fnExactHalfSignedRow : OpenClaim := { program := "ytdkhgpcfbdekeaa", sum := "752068ad0ce682040d454451558c3af42f88eb2fdebecdc92473d71ad61cae80", func := "loop.example/chosensums/laws.FnExactHalfSigned", spec := "fnExactHalfSigned", unfollowed := true, recurses := true, apart := false }
def FnExactHalfSignedSaid : Prop := fnExactHalfSignedRow.holds Try.pinned (OpenSpec.ofChange fnExactHalfSignedSpec)

/-- ITS FALSE NEIGHBOUR: 'it returns false'. Refute it at one input. -/
def fnExactHalfSignedWrong : ChangeSpec := { name := "fnExactHalfSigned", fn := fun _ => fun
  | [d] => { results := [.lit (.bool false)], args := [d] }
  | _ => none }
def FnExactHalfSignedWrongFalsely : Prop := fnExactHalfSignedRow.holds Try.pinned (OpenSpec.ofChange fnExactHalfSignedWrong)

/-- 'laws.FnExactHalfBest': WHATEVER THE INPUT: true; the input reads as it did. -/
def fnExactHalfBestSpec : ChangeSpec := { name := "fnExactHalfBest", fn := fun _ => fun
  | [d] => { results := [.lit (.bool true)], args := [d] }
  | _ => none }
def fnExactHalfBestRow : OpenClaim := { program := "ytdkhgpcfbdekeaa", sum := "752068ad0ce682040d454451558c3af42f88eb2fdebecdc92473d71ad61cae80", func := "loop.example/chosensums/laws.FnExactHalfBest", spec := "fnExactHalfBest", unfollowed := true, recurses := true, apart := false }
def FnExactHalfBestSaid : Prop := fnExactHalfBestRow.holds Try.pinned (OpenSpec.ofChange fnExactHalfBestSpec)

/-- ITS FALSE NEIGHBOUR: 'it returns false'. Refute it at one input. -/
def fnExactHalfBestWrong : ChangeSpec := { name := "fnExactHalfBest", fn := fun _ => fun
  | [d] => { results := [.lit (.bool false)], args := [d] }
  | _ => none }
def FnExactHalfBestWrongFalsely : Prop := fnExactHalfBestRow.holds Try.pinned (OpenSpec.ofChange fnExactHalfBestWrong)

/-- 'laws.FnExactHalfThree': WHATEVER THE INPUT: true; the input reads as it did. -/
def fnExactHalfThreeSpec : ChangeSpec := { name := "fnExactHalfThree", fn := fun _ => fun
  | [d] => { results := [.lit (.bool true)], args := [d] }
  | _ => none }
def fnExactHalfThreeRow : OpenClaim := { program := "ytdkhgpcfbdekeaa", sum := "752068ad0ce682040d454451558c3af42f88eb2fdebecdc92473d71ad61cae80", func := "loop.example/chosensums/laws.FnExactHalfThree", spec := "fnExactHalfThree", unfollowed := true, recurses := true, apart := false }
def FnExactHalfThreeSaid : Prop := fnExactHalfThreeRow.holds Try.pinned (OpenSpec.ofChange fnExactHalfThreeSpec)

/-- ITS FALSE NEIGHBOUR: 'it returns false'. Refute it at one input. -/
def fnExactHalfThreeWrong : ChangeSpec := { name := "fnExactHalfThree", fn := fun _ => fun
  | [d] => { results := [.lit (.bool false)], args := [d] }
  | _ => none }
def FnExactHalfThreeWrongFalsely : Prop := fnExactHalfThreeRow.holds Try.pinned (OpenSpec.ofChange fnExactHalfThreeWrong)

/-- 'laws.FnExactHalfChoice': WHATEVER THE INPUT: true; the input reads as it did. -/
def fnExactHalfChoiceSpec : ChangeSpec := { name := "fnExactHalfChoice", fn := fun _ => fun
  | [d] => { results := [.lit (.bool true)], args := [d] }
  | _ => none }
def fnExactHalfChoiceRow : OpenClaim := { program := "ytdkhgpcfbdekeaa", sum := "752068ad0ce682040d454451558c3af42f88eb2fdebecdc92473d71ad61cae80", func := "loop.example/chosensums/laws.FnExactHalfChoice", spec := "fnExactHalfChoice", unfollowed := true, recurses := true, apart := false }
def FnExactHalfChoiceSaid : Prop := fnExactHalfChoiceRow.holds Try.pinned (OpenSpec.ofChange fnExactHalfChoiceSpec)

/-- ITS FALSE NEIGHBOUR: 'it returns false'. Refute it at one input. -/
def fnExactHalfChoiceWrong : ChangeSpec := { name := "fnExactHalfChoice", fn := fun _ => fun
  | [d] => { results := [.lit (.bool false)], args := [d] }
  | _ => none }
def FnExactHalfChoiceWrongFalsely : Prop := fnExactHalfChoiceRow.holds Try.pinned (OpenSpec.ofChange fnExactHalfChoiceWrong)

/-- 'laws.FnExactBinBound': WHATEVER THE INPUT: true; the input reads as it did. -/
def fnExactBinBoundSpec : ChangeSpec := { name := "fnExactBinBound", fn := fun _ => fun
  | [d1, d2] => { results := [.lit (.bool true)], args := [d1, d2] }
  | _ => none }
def fnExactBinBoundRow : OpenClaim := { program := "ytdkhgpcfbdekeaa", sum := "752068ad0ce682040d454451558c3af42f88eb2fdebecdc92473d71ad61cae80", func := "loop.example/chosensums/laws.FnExactBinBound", spec := "fnExactBinBound", apart := false }
def FnExactBinBoundSaid : Prop := fnExactBinBoundRow.holds Try.pinned (OpenSpec.ofChange fnExactBinBoundSpec)

/-- ITS FALSE NEIGHBOUR: 'it returns false'. Refute it at one input. -/
def fnExactBinBoundWrong : ChangeSpec := { name := "fnExactBinBound", fn := fun _ => fun
  | [d1, d2] => { results := [.lit (.bool false)], args := [d1, d2] }
  | _ => none }
def FnExactBinBoundWrongFalsely : Prop := fnExactBinBoundRow.holds Try.pinned (OpenSpec.ofChange fnExactBinBoundWrong)

/-- 'laws.FnExactBinDual': WHATEVER THE INPUT: true; the input reads as it did. -/
def fnExactBinDualSpec : ChangeSpec := { name := "fnExactBinDual", fn := fun _ => fun
  | [d1, d2] => { results := [.lit (.bool true)], args := [d1, d2] }
  | _ => none }
def fnExactBinDualRow : OpenClaim := { program := "ytdkhgpcfbdekeaa", sum := "752068ad0ce682040d454451558c3af42f88eb2fdebecdc92473d71ad61cae80", func := "loop.example/chosensums/laws.FnExactBinDual", spec := "fnExactBinDual", apart := false }
def FnExactBinDualSaid : Prop := fnExactBinDualRow.holds Try.pinned (OpenSpec.ofChange fnExactBinDualSpec)

/-- ITS FALSE NEIGHBOUR: 'it returns false'. Refute it at one input. -/
def fnExactBinDualWrong : ChangeSpec := { name := "fnExactBinDual", fn := fun _ => fun
  | [d1, d2] => { results := [.lit (.bool false)], args := [d1, d2] }
  | _ => none }
def FnExactBinDualWrongFalsely : Prop := fnExactBinDualRow.holds Try.pinned (OpenSpec.ofChange fnExactBinDualWrong)

/-- 'laws.FnBinBound': WHATEVER THE INPUT: true; the input reads as it did. -/
def fnBinBoundSpec : ChangeSpec := { name := "fnBinBound", fn := fun _ => fun
  | [d] => { results := [.lit (.bool true)], args := [d] }
  | _ => none }
def fnBinBoundRow : OpenClaim := { program := "ytdkhgpcfbdekeaa", sum := "752068ad0ce682040d454451558c3af42f88eb2fdebecdc92473d71ad61cae80", func := "loop.example/chosensums/laws.FnBinBound", spec := "fnBinBound", apart := false }
def FnBinBoundSaid : Prop := fnBinBoundRow.holds Try.pinned (OpenSpec.ofChange fnBinBoundSpec)

/-- ITS FALSE NEIGHBOUR: 'it returns false'. Refute it at one input. -/
def fnBinBoundWrong : ChangeSpec := { name := "fnBinBound", fn := fun _ => fun
  | [d] => { results := [.lit (.bool false)], args := [d] }
  | _ => none }
def FnBinBoundWrongFalsely : Prop := fnBinBoundRow.holds Try.pinned (OpenSpec.ofChange fnBinBoundWrong)

/-- 'laws.FnFirst': WHATEVER THE INPUT: true; the input reads as it did. -/
def fnFirstSpec : ChangeSpec := { name := "fnFirst", fn := fun _ => fun
  | [d] => { results := [.lit (.bool true)], args := [d] }
  | _ => none }
def fnFirstRow : OpenClaim := { program := "ytdkhgpcfbdekeaa", sum := "752068ad0ce682040d454451558c3af42f88eb2fdebecdc92473d71ad61cae80", func := "loop.example/chosensums/laws.FnFirst", spec := "fnFirst", unfollowed := true, recurses := true, apart := false }
def FnFirstSaid : Prop := fnFirstRow.holds Try.pinned (OpenSpec.ofChange fnFirstSpec)

/-- ITS FALSE NEIGHBOUR: 'it returns false'. Refute it at one input. -/
def fnFirstWrong : ChangeSpec := { name := "fnFirst", fn := fun _ => fun
  | [d] => { results := [.lit (.bool false)], args := [d] }
  | _ => none }
def FnFirstWrongFalsely : Prop := fnFirstRow.holds Try.pinned (OpenSpec.ofChange fnFirstWrong)

/-- 'laws.FnChoices': WHATEVER THE INPUT: true; the input reads as it did. -/
def fnChoicesSpec : ChangeSpec := { name := "fnChoices", fn := fun _ => fun
  | [d] => { results := [.lit (.bool true)], args := [d] }
  | _ => none }
def fnChoicesRow : OpenClaim := { program := "ytdkhgpcfbdekeaa", sum := "752068ad0ce682040d454451558c3af42f88eb2fdebecdc92473d71ad61cae80", func := "loop.example/chosensums/laws.FnChoices", spec := "fnChoices", unfollowed := true, recurses := true, apart := false }
def FnChoicesSaid : Prop := fnChoicesRow.holds Try.pinned (OpenSpec.ofChange fnChoicesSpec)

/-- ITS FALSE NEIGHBOUR: 'it returns false'. Refute it at one input. -/
def fnChoicesWrong : ChangeSpec := { name := "fnChoices", fn := fun _ => fun
  | [d] => { results := [.lit (.bool false)], args := [d] }
  | _ => none }
def FnChoicesWrongFalsely : Prop := fnChoicesRow.holds Try.pinned (OpenSpec.ofChange fnChoicesWrong)

/- THE SECOND FORM. 'bulk': how many values and letters a reading holds, each counted each time it is reached (what is shared counts as often as it is met; a slice's spare places count too). A statement '..UptoSaid' is the law's where the arguments, and the package variables that the reading takes, are together of bulk at most 1048576: NARROWER than '..Said'. Prove '..Said' where nothing that the law and all that it calls make is longer than what came in: it says more and counts as full. Else prove '..UptoSaid'. A law counts once. -/
mutual
def uptoBulk {H : Type} : DataW H → Nat
  | .lit (.string bytes) => bytes.length + 1
  | .lit _ => 1
  | .nil => 1
  | .ptr d => uptoBulk d + 1
  | .slice elems spare => uptoBulkAll elems + uptoBulkAll spare + 1
  | .agg parts => uptoBulkAll parts + 1
  | .iface _ d => uptoBulk d + 1
  | .map entries => uptoBulkEntries entries + 1
  | .held _ => 1
def uptoBulkAll {H : Type} : List (DataW H) → Nat
  | [] => 0
  | d :: r => uptoBulk d + uptoBulkAll r
def uptoBulkEntries {H : Type} : List (Lit × DataW H) → Nat
  | [] => 0
  | x :: r => uptoBulkEntry x + uptoBulkEntries r
def uptoBulkEntry {H : Type} : Lit × DataW H → Nat
  | (.string bytes, d) => bytes.length + uptoBulk d + 1
  | (_, d) => uptoBulk d + 1
 end
def uptoSmall : (H : Type) → List (DataW H) → Bool := fun _ ds => decide (uptoBulkAll ds ≤ 1048576)
def OpenSpec.upto (s : _root_.Go.ChangeSpec) : _root_.Go.OpenSpec := { _root_.Go.OpenSpec.ofChange s with cond := some uptoSmall }

/-- 'laws.FnExactHalfSigned', WHERE WHAT IT READS IS OF BULK AT MOST 1048576: true; the input reads as it did. -/
def fnExactHalfSignedUptoRow : OpenClaim := { program := "ytdkhgpcfbdekeaa", sum := "752068ad0ce682040d454451558c3af42f88eb2fdebecdc92473d71ad61cae80", func := "loop.example/chosensums/laws.FnExactHalfSigned", spec := "fnExactHalfSigned", unfollowed := true, recurses := true, apart := false, narrowed := true }
def FnExactHalfSignedUptoSaid : Prop := fnExactHalfSignedUptoRow.holds Try.pinned (OpenSpec.upto fnExactHalfSignedSpec)

/-- 'laws.FnExactHalfBest', WHERE WHAT IT READS IS OF BULK AT MOST 1048576: true; the input reads as it did. -/
def fnExactHalfBestUptoRow : OpenClaim := { program := "ytdkhgpcfbdekeaa", sum := "752068ad0ce682040d454451558c3af42f88eb2fdebecdc92473d71ad61cae80", func := "loop.example/chosensums/laws.FnExactHalfBest", spec := "fnExactHalfBest", unfollowed := true, recurses := true, apart := false, narrowed := true }
def FnExactHalfBestUptoSaid : Prop := fnExactHalfBestUptoRow.holds Try.pinned (OpenSpec.upto fnExactHalfBestSpec)

/-- 'laws.FnExactHalfThree', WHERE WHAT IT READS IS OF BULK AT MOST 1048576: true; the input reads as it did. -/
def fnExactHalfThreeUptoRow : OpenClaim := { program := "ytdkhgpcfbdekeaa", sum := "752068ad0ce682040d454451558c3af42f88eb2fdebecdc92473d71ad61cae80", func := "loop.example/chosensums/laws.FnExactHalfThree", spec := "fnExactHalfThree", unfollowed := true, recurses := true, apart := false, narrowed := true }
def FnExactHalfThreeUptoSaid : Prop := fnExactHalfThreeUptoRow.holds Try.pinned (OpenSpec.upto fnExactHalfThreeSpec)

/-- 'laws.FnExactHalfChoice', WHERE WHAT IT READS IS OF BULK AT MOST 1048576: true; the input reads as it did. -/
def fnExactHalfChoiceUptoRow : OpenClaim := { program := "ytdkhgpcfbdekeaa", sum := "752068ad0ce682040d454451558c3af42f88eb2fdebecdc92473d71ad61cae80", func := "loop.example/chosensums/laws.FnExactHalfChoice", spec := "fnExactHalfChoice", unfollowed := true, recurses := true, apart := false, narrowed := true }
def FnExactHalfChoiceUptoSaid : Prop := fnExactHalfChoiceUptoRow.holds Try.pinned (OpenSpec.upto fnExactHalfChoiceSpec)

/-- 'laws.FnExactBinBound', WHERE WHAT IT READS IS OF BULK AT MOST 1048576: true; the input reads as it did. -/
def fnExactBinBoundUptoRow : OpenClaim := { program := "ytdkhgpcfbdekeaa", sum := "752068ad0ce682040d454451558c3af42f88eb2fdebecdc92473d71ad61cae80", func := "loop.example/chosensums/laws.FnExactBinBound", spec := "fnExactBinBound", apart := false, narrowed := true }
def FnExactBinBoundUptoSaid : Prop := fnExactBinBoundUptoRow.holds Try.pinned (OpenSpec.upto fnExactBinBoundSpec)

/-- 'laws.FnExactBinDual', WHERE WHAT IT READS IS OF BULK AT MOST 1048576: true; the input reads as it did. -/
def fnExactBinDualUptoRow : OpenClaim := { program := "ytdkhgpcfbdekeaa", sum := "752068ad0ce682040d454451558c3af42f88eb2fdebecdc92473d71ad61cae80", func := "loop.example/chosensums/laws.FnExactBinDual", spec := "fnExactBinDual", apart := false, narrowed := true }
def FnExactBinDualUptoSaid : Prop := fnExactBinDualUptoRow.holds Try.pinned (OpenSpec.upto fnExactBinDualSpec)

/-- 'laws.FnBinBound', WHERE WHAT IT READS IS OF BULK AT MOST 1048576: true; the input reads as it did. -/
def fnBinBoundUptoRow : OpenClaim := { program := "ytdkhgpcfbdekeaa", sum := "752068ad0ce682040d454451558c3af42f88eb2fdebecdc92473d71ad61cae80", func := "loop.example/chosensums/laws.FnBinBound", spec := "fnBinBound", apart := false, narrowed := true }
def FnBinBoundUptoSaid : Prop := fnBinBoundUptoRow.holds Try.pinned (OpenSpec.upto fnBinBoundSpec)

/-- 'laws.FnFirst', WHERE WHAT IT READS IS OF BULK AT MOST 1048576: true; the input reads as it did. -/
def fnFirstUptoRow : OpenClaim := { program := "ytdkhgpcfbdekeaa", sum := "752068ad0ce682040d454451558c3af42f88eb2fdebecdc92473d71ad61cae80", func := "loop.example/chosensums/laws.FnFirst", spec := "fnFirst", unfollowed := true, recurses := true, apart := false, narrowed := true }
def FnFirstUptoSaid : Prop := fnFirstUptoRow.holds Try.pinned (OpenSpec.upto fnFirstSpec)

/-- 'laws.FnChoices', WHERE WHAT IT READS IS OF BULK AT MOST 1048576: true; the input reads as it did. -/
def fnChoicesUptoRow : OpenClaim := { program := "ytdkhgpcfbdekeaa", sum := "752068ad0ce682040d454451558c3af42f88eb2fdebecdc92473d71ad61cae80", func := "loop.example/chosensums/laws.FnChoices", spec := "fnChoices", unfollowed := true, recurses := true, apart := false, narrowed := true }
def FnChoicesUptoSaid : Prop := fnChoicesUptoRow.holds Try.pinned (OpenSpec.upto fnChoicesSpec)

end Rows
end Go.Proofs.Ytdkhgpcfbdekeaa
