/-
  No cell of these rows narrows 'for every input' (looked for: loops, veiled, ifaces, maps, wideKeys, modest, calm, conditions, laid).
  DERIVED. THE GIVEN ROWS OF THIS SEAT. 13 by the template 'for every input the law returns true; each argument reads behind the call as it read before'; 0 by the template 'total and deterministic' (their statements: YtegmaieikocllaaTotals.lean).
  GIVEN WITH THE SEED: the statements are not yours to turn. If you find one false, say at which input.
  Laid BY PROGRAM, IN A SANDBOX (cutbox-rows.mjs): the forced cells as the released guide's own fill.sh prints them over the translation 89d112a31a9ed787… (all of the seat's roots in one cut). By AI agents, Wed Nov 11 2026. No macro, syntax, notation, axiom, sorry.
-/
import Derived.Test.YtegmaieikocllaaChecked
import GoSem.Claim
import GoSem.ClaimJoined
import GoSem.ClaimMapViews
import Derived.JoinedTies
import Derived.KernelRfl
namespace Go.Proofs.Ytegmaieikocllaa
/- THE CELL 'sum', in the pinned program and in every row, IS THE sha256 OF THE DUMP (.gsa) THAT YtegmaieikocllaaProg.lean LOADS. Nothing in Lean hashes anything: it is a label: what it is worth is what the hold of that sum in a sandbox is worth. -/
noncomputable def Try.pinned : Pinned := { name := "ytegmaieikocllaa", sum := "89d112a31a9ed78730bf3b17bd6bd118f02d53c8a67cbb41c138a5c94624babd", checked := Try.checked }
namespace Rows
def none {H : Type} : Left H := { results := [], args := [] }

/-- 'laws.FnExactSackIn': WHATEVER THE INPUT: true; the input reads as it did. -/
def fnExactSackInSpec : ChangeSpec := { name := "fnExactSackIn", fn := fun _ => fun
  | [d] => { results := [.lit (.bool true)], args := [d] }
  | _ => none }
def fnExactSackInRow : OpenClaim := { program := "ytegmaieikocllaa", sum := "89d112a31a9ed78730bf3b17bd6bd118f02d53c8a67cbb41c138a5c94624babd", func := "loop.example/chosensums/laws.FnExactSackIn", spec := "fnExactSackIn", apart := false }
def FnExactSackInSaid : Prop := fnExactSackInRow.holds Try.pinned (OpenSpec.ofChange fnExactSackInSpec)

/-- ITS FALSE NEIGHBOUR: 'it returns false'. Refute it at one input. -/
def fnExactSackInWrong : ChangeSpec := { name := "fnExactSackIn", fn := fun _ => fun
  | [d] => { results := [.lit (.bool false)], args := [d] }
  | _ => none }
def FnExactSackInWrongFalsely : Prop := fnExactSackInRow.holds Try.pinned (OpenSpec.ofChange fnExactSackInWrong)

/-- 'laws.FnExactSackBest': WHATEVER THE INPUT: true; the input reads as it did. -/
def fnExactSackBestSpec : ChangeSpec := { name := "fnExactSackBest", fn := fun _ => fun
  | [d1, d2] => { results := [.lit (.bool true)], args := [d1, d2] }
  | _ => none }
def fnExactSackBestRow : OpenClaim := { program := "ytegmaieikocllaa", sum := "89d112a31a9ed78730bf3b17bd6bd118f02d53c8a67cbb41c138a5c94624babd", func := "loop.example/chosensums/laws.FnExactSackBest", spec := "fnExactSackBest", apart := false }
def FnExactSackBestSaid : Prop := fnExactSackBestRow.holds Try.pinned (OpenSpec.ofChange fnExactSackBestSpec)

/-- ITS FALSE NEIGHBOUR: 'it returns false'. Refute it at one input. -/
def fnExactSackBestWrong : ChangeSpec := { name := "fnExactSackBest", fn := fun _ => fun
  | [d1, d2] => { results := [.lit (.bool false)], args := [d1, d2] }
  | _ => none }
def FnExactSackBestWrongFalsely : Prop := fnExactSackBestRow.holds Try.pinned (OpenSpec.ofChange fnExactSackBestWrong)

/-- 'laws.FnExactSackChoice': WHATEVER THE INPUT: true; the input reads as it did. -/
def fnExactSackChoiceSpec : ChangeSpec := { name := "fnExactSackChoice", fn := fun _ => fun
  | [d1, d2] => { results := [.lit (.bool true)], args := [d1, d2] }
  | _ => none }
def fnExactSackChoiceRow : OpenClaim := { program := "ytegmaieikocllaa", sum := "89d112a31a9ed78730bf3b17bd6bd118f02d53c8a67cbb41c138a5c94624babd", func := "loop.example/chosensums/laws.FnExactSackChoice", spec := "fnExactSackChoice", apart := false }
def FnExactSackChoiceSaid : Prop := fnExactSackChoiceRow.holds Try.pinned (OpenSpec.ofChange fnExactSackChoiceSpec)

/-- ITS FALSE NEIGHBOUR: 'it returns false'. Refute it at one input. -/
def fnExactSackChoiceWrong : ChangeSpec := { name := "fnExactSackChoice", fn := fun _ => fun
  | [d1, d2] => { results := [.lit (.bool false)], args := [d1, d2] }
  | _ => none }
def FnExactSackChoiceWrongFalsely : Prop := fnExactSackChoiceRow.holds Try.pinned (OpenSpec.ofChange fnExactSackChoiceWrong)

/-- 'laws.FnExactSackFront': WHATEVER THE INPUT: true; the input reads as it did. -/
def fnExactSackFrontSpec : ChangeSpec := { name := "fnExactSackFront", fn := fun _ => fun
  | [d1, d2] => { results := [.lit (.bool true)], args := [d1, d2] }
  | _ => none }
def fnExactSackFrontRow : OpenClaim := { program := "ytegmaieikocllaa", sum := "89d112a31a9ed78730bf3b17bd6bd118f02d53c8a67cbb41c138a5c94624babd", func := "loop.example/chosensums/laws.FnExactSackFront", spec := "fnExactSackFront", apart := false }
def FnExactSackFrontSaid : Prop := fnExactSackFrontRow.holds Try.pinned (OpenSpec.ofChange fnExactSackFrontSpec)

/-- ITS FALSE NEIGHBOUR: 'it returns false'. Refute it at one input. -/
def fnExactSackFrontWrong : ChangeSpec := { name := "fnExactSackFront", fn := fun _ => fun
  | [d1, d2] => { results := [.lit (.bool false)], args := [d1, d2] }
  | _ => none }
def FnExactSackFrontWrongFalsely : Prop := fnExactSackFrontRow.holds Try.pinned (OpenSpec.ofChange fnExactSackFrontWrong)

/-- 'laws.FnExactSackAgain': WHATEVER THE INPUT: true; the input reads as it did. -/
def fnExactSackAgainSpec : ChangeSpec := { name := "fnExactSackAgain", fn := fun _ => fun
  | [d1, d2] => { results := [.lit (.bool true)], args := [d1, d2] }
  | _ => none }
def fnExactSackAgainRow : OpenClaim := { program := "ytegmaieikocllaa", sum := "89d112a31a9ed78730bf3b17bd6bd118f02d53c8a67cbb41c138a5c94624babd", func := "loop.example/chosensums/laws.FnExactSackAgain", spec := "fnExactSackAgain", apart := false }
def FnExactSackAgainSaid : Prop := fnExactSackAgainRow.holds Try.pinned (OpenSpec.ofChange fnExactSackAgainSpec)

/-- ITS FALSE NEIGHBOUR: 'it returns false'. Refute it at one input. -/
def fnExactSackAgainWrong : ChangeSpec := { name := "fnExactSackAgain", fn := fun _ => fun
  | [d1, d2] => { results := [.lit (.bool false)], args := [d1, d2] }
  | _ => none }
def FnExactSackAgainWrongFalsely : Prop := fnExactSackAgainRow.holds Try.pinned (OpenSpec.ofChange fnExactSackAgainWrong)

/-- 'laws.FnExactSackWorse': WHATEVER THE INPUT: true; the input reads as it did. -/
def fnExactSackWorseSpec : ChangeSpec := { name := "fnExactSackWorse", fn := fun _ => fun
  | [d] => { results := [.lit (.bool true)], args := [d] }
  | _ => none }
def fnExactSackWorseRow : OpenClaim := { program := "ytegmaieikocllaa", sum := "89d112a31a9ed78730bf3b17bd6bd118f02d53c8a67cbb41c138a5c94624babd", func := "loop.example/chosensums/laws.FnExactSackWorse", spec := "fnExactSackWorse", unfollowed := true, recurses := true, apart := false }
def FnExactSackWorseSaid : Prop := fnExactSackWorseRow.holds Try.pinned (OpenSpec.ofChange fnExactSackWorseSpec)

/-- ITS FALSE NEIGHBOUR: 'it returns false'. Refute it at one input. -/
def fnExactSackWorseWrong : ChangeSpec := { name := "fnExactSackWorse", fn := fun _ => fun
  | [d] => { results := [.lit (.bool false)], args := [d] }
  | _ => none }
def FnExactSackWorseWrongFalsely : Prop := fnExactSackWorseRow.holds Try.pinned (OpenSpec.ofChange fnExactSackWorseWrong)

/-- 'laws.FnExactSackMost': WHATEVER THE INPUT: true; the input reads as it did. -/
def fnExactSackMostSpec : ChangeSpec := { name := "fnExactSackMost", fn := fun _ => fun
  | [d1, d2] => { results := [.lit (.bool true)], args := [d1, d2] }
  | _ => none }
def fnExactSackMostRow : OpenClaim := { program := "ytegmaieikocllaa", sum := "89d112a31a9ed78730bf3b17bd6bd118f02d53c8a67cbb41c138a5c94624babd", func := "loop.example/chosensums/laws.FnExactSackMost", spec := "fnExactSackMost", apart := false }
def FnExactSackMostSaid : Prop := fnExactSackMostRow.holds Try.pinned (OpenSpec.ofChange fnExactSackMostSpec)

/-- ITS FALSE NEIGHBOUR: 'it returns false'. Refute it at one input. -/
def fnExactSackMostWrong : ChangeSpec := { name := "fnExactSackMost", fn := fun _ => fun
  | [d1, d2] => { results := [.lit (.bool false)], args := [d1, d2] }
  | _ => none }
def FnExactSackMostWrongFalsely : Prop := fnExactSackMostRow.holds Try.pinned (OpenSpec.ofChange fnExactSackMostWrong)

/-- 'laws.FnItems': WHATEVER THE INPUT: true; the input reads as it did. -/
def fnItemsSpec : ChangeSpec := { name := "fnItems", fn := fun _ => fun
  | [d] => { results := [.lit (.bool true)], args := [d] }
  | _ => none }
def fnItemsRow : OpenClaim := { program := "ytegmaieikocllaa", sum := "89d112a31a9ed78730bf3b17bd6bd118f02d53c8a67cbb41c138a5c94624babd", func := "loop.example/chosensums/laws.FnItems", spec := "fnItems", apart := false }
def FnItemsSaid : Prop := fnItemsRow.holds Try.pinned (OpenSpec.ofChange fnItemsSpec)

/-- ITS FALSE NEIGHBOUR: 'it returns false'. Refute it at one input. -/
def fnItemsWrong : ChangeSpec := { name := "fnItems", fn := fun _ => fun
  | [d] => { results := [.lit (.bool false)], args := [d] }
  | _ => none }
def FnItemsWrongFalsely : Prop := fnItemsRow.holds Try.pinned (OpenSpec.ofChange fnItemsWrong)

/-- 'laws.FnSackChoice': WHATEVER THE INPUT: true; the input reads as it did. -/
def fnSackChoiceSpec : ChangeSpec := { name := "fnSackChoice", fn := fun _ => fun
  | [d] => { results := [.lit (.bool true)], args := [d] }
  | _ => none }
def fnSackChoiceRow : OpenClaim := { program := "ytegmaieikocllaa", sum := "89d112a31a9ed78730bf3b17bd6bd118f02d53c8a67cbb41c138a5c94624babd", func := "loop.example/chosensums/laws.FnSackChoice", spec := "fnSackChoice", apart := false }
def FnSackChoiceSaid : Prop := fnSackChoiceRow.holds Try.pinned (OpenSpec.ofChange fnSackChoiceSpec)

/-- ITS FALSE NEIGHBOUR: 'it returns false'. Refute it at one input. -/
def fnSackChoiceWrong : ChangeSpec := { name := "fnSackChoice", fn := fun _ => fun
  | [d] => { results := [.lit (.bool false)], args := [d] }
  | _ => none }
def FnSackChoiceWrongFalsely : Prop := fnSackChoiceRow.holds Try.pinned (OpenSpec.ofChange fnSackChoiceWrong)

/-- 'laws.FnFront': WHATEVER THE INPUT: true; the input reads as it did. -/
def fnFrontSpec : ChangeSpec := { name := "fnFront", fn := fun _ => fun
  | [d] => { results := [.lit (.bool true)], args := [d] }
  | _ => none }
def fnFrontRow : OpenClaim := { program := "ytegmaieikocllaa", sum := "89d112a31a9ed78730bf3b17bd6bd118f02d53c8a67cbb41c138a5c94624babd", func := "loop.example/chosensums/laws.FnFront", spec := "fnFront", apart := false }
def FnFrontSaid : Prop := fnFrontRow.holds Try.pinned (OpenSpec.ofChange fnFrontSpec)

/-- ITS FALSE NEIGHBOUR: 'it returns false'. Refute it at one input. -/
def fnFrontWrong : ChangeSpec := { name := "fnFront", fn := fun _ => fun
  | [d] => { results := [.lit (.bool false)], args := [d] }
  | _ => none }
def FnFrontWrongFalsely : Prop := fnFrontRow.holds Try.pinned (OpenSpec.ofChange fnFrontWrong)

/-- 'laws.FnAgain': WHATEVER THE INPUT: true; the input reads as it did. -/
def fnAgainSpec : ChangeSpec := { name := "fnAgain", fn := fun _ => fun
  | [d] => { results := [.lit (.bool true)], args := [d] }
  | _ => none }
def fnAgainRow : OpenClaim := { program := "ytegmaieikocllaa", sum := "89d112a31a9ed78730bf3b17bd6bd118f02d53c8a67cbb41c138a5c94624babd", func := "loop.example/chosensums/laws.FnAgain", spec := "fnAgain", apart := false }
def FnAgainSaid : Prop := fnAgainRow.holds Try.pinned (OpenSpec.ofChange fnAgainSpec)

/-- ITS FALSE NEIGHBOUR: 'it returns false'. Refute it at one input. -/
def fnAgainWrong : ChangeSpec := { name := "fnAgain", fn := fun _ => fun
  | [d] => { results := [.lit (.bool false)], args := [d] }
  | _ => none }
def FnAgainWrongFalsely : Prop := fnAgainRow.holds Try.pinned (OpenSpec.ofChange fnAgainWrong)

/-- 'laws.FnMost': WHATEVER THE INPUT: true; the input reads as it did. -/
def fnMostSpec : ChangeSpec := { name := "fnMost", fn := fun _ => fun
  | [d] => { results := [.lit (.bool true)], args := [d] }
  | _ => none }
def fnMostRow : OpenClaim := { program := "ytegmaieikocllaa", sum := "89d112a31a9ed78730bf3b17bd6bd118f02d53c8a67cbb41c138a5c94624babd", func := "loop.example/chosensums/laws.FnMost", spec := "fnMost", apart := false }
def FnMostSaid : Prop := fnMostRow.holds Try.pinned (OpenSpec.ofChange fnMostSpec)

/-- ITS FALSE NEIGHBOUR: 'it returns false'. Refute it at one input. -/
def fnMostWrong : ChangeSpec := { name := "fnMost", fn := fun _ => fun
  | [d] => { results := [.lit (.bool false)], args := [d] }
  | _ => none }
def FnMostWrongFalsely : Prop := fnMostRow.holds Try.pinned (OpenSpec.ofChange fnMostWrong)

/-- 'laws.FnWorse': WHATEVER THE INPUT: true; the input reads as it did. -/
def fnWorseSpec : ChangeSpec := { name := "fnWorse", fn := fun _ => fun
  | [d] => { results := [.lit (.bool true)], args := [d] }
  | _ => none }
def fnWorseRow : OpenClaim := { program := "ytegmaieikocllaa", sum := "89d112a31a9ed78730bf3b17bd6bd118f02d53c8a67cbb41c138a5c94624babd", func := "loop.example/chosensums/laws.FnWorse", spec := "fnWorse", unfollowed := true, recurses := true, apart := false }
def FnWorseSaid : Prop := fnWorseRow.holds Try.pinned (OpenSpec.ofChange fnWorseSpec)

/-- ITS FALSE NEIGHBOUR: 'it returns false'. Refute it at one input. -/
def fnWorseWrong : ChangeSpec := { name := "fnWorse", fn := fun _ => fun
  | [d] => { results := [.lit (.bool false)], args := [d] }
  | _ => none }
def FnWorseWrongFalsely : Prop := fnWorseRow.holds Try.pinned (OpenSpec.ofChange fnWorseWrong)

/- THE SECOND FORM. 'bulk': how many values and letters a reading holds, each counted each time it is reached (what is shared counts as often as it is met; a slice's spare places count too). A statement '..UptoSaid' is the law's where the arguments, and the package variables that the reading takes, are together of bulk at most 1048576: NARROWER than '..Said'. Prove '..Said' where nothing that the law and all that it calls make is longer than what came in: it says more and counts as full. Else prove '..UptoSaid'. A law counts once. -/
mutual
def uptoBulk {H : Type} : DataW H → Nat
  | .lit (.string bytes) => bytes.length + 1
  | .lit _ => 1
  | .nil => 1
  | .ptr d => uptoBulk d + 1
  | .slice elems spare => uptoBulkAll elems + uptoBulkAll spare + 1
  | .agg parts => uptoBulkAll parts + 1
  | .iface _ d => uptoBulk d + 1
  | .map entries => uptoBulkEntries entries + 1
  | .held _ => 1
def uptoBulkAll {H : Type} : List (DataW H) → Nat
  | [] => 0
  | d :: r => uptoBulk d + uptoBulkAll r
def uptoBulkEntries {H : Type} : List (Lit × DataW H) → Nat
  | [] => 0
  | x :: r => uptoBulkEntry x + uptoBulkEntries r
def uptoBulkEntry {H : Type} : Lit × DataW H → Nat
  | (.string bytes, d) => bytes.length + uptoBulk d + 1
  | (_, d) => uptoBulk d + 1
 end
def uptoSmall : (H : Type) → List (DataW H) → Bool := fun _ ds => decide (uptoBulkAll ds ≤ 1048576)
def OpenSpec.upto (s : _root_.Go.ChangeSpec) : _root_.Go.OpenSpec := { _root_.Go.OpenSpec.ofChange s with cond := some uptoSmall }

/-- 'laws.FnExactSackIn', WHERE WHAT IT READS IS OF BULK AT MOST 1048576: true; the input reads as it did. -/
def fnExactSackInUptoRow : OpenClaim := { program := "ytegmaieikocllaa", sum := "89d112a31a9ed78730bf3b17bd6bd118f02d53c8a67cbb41c138a5c94624babd", func := "loop.example/chosensums/laws.FnExactSackIn", spec := "fnExactSackIn", apart := false, narrowed := true }
def FnExactSackInUptoSaid : Prop := fnExactSackInUptoRow.holds Try.pinned (OpenSpec.upto fnExactSackInSpec)

/-- 'laws.FnExactSackBest', WHERE WHAT IT READS IS OF BULK AT MOST 1048576: true; the input reads as it did. -/
def fnExactSackBestUptoRow : OpenClaim := { program := "ytegmaieikocllaa", sum := "89d112a31a9ed78730bf3b17bd6bd118f02d53c8a67cbb41c138a5c94624babd", func := "loop.example/chosensums/laws.FnExactSackBest", spec := "fnExactSackBest", apart := false, narrowed := true }
def FnExactSackBestUptoSaid : Prop := fnExactSackBestUptoRow.holds Try.pinned (OpenSpec.upto fnExactSackBestSpec)

/-- 'laws.FnExactSackChoice', WHERE WHAT IT READS IS OF BULK AT MOST 1048576: true; the input reads as it did. -/
def fnExactSackChoiceUptoRow : OpenClaim := { program := "ytegmaieikocllaa", sum := "89d112a31a9ed78730bf3b17bd6bd118f02d53c8a67cbb41c138a5c94624babd", func := "loop.example/chosensums/laws.FnExactSackChoice", spec := "fnExactSackChoice", apart := false, narrowed := true }
def FnExactSackChoiceUptoSaid : Prop := fnExactSackChoiceUptoRow.holds Try.pinned (OpenSpec.upto fnExactSackChoiceSpec)

/-- 'laws.FnExactSackFront', WHERE WHAT IT READS IS OF BULK AT MOST 1048576: true; the input reads as it did. -/
def fnExactSackFrontUptoRow : OpenClaim := { program := "ytegmaieikocllaa", sum := "89d112a31a9ed78730bf3b17bd6bd118f02d53c8a67cbb41c138a5c94624babd", func := "loop.example/chosensums/laws.FnExactSackFront", spec := "fnExactSackFront", apart := false, narrowed := true }
def FnExactSackFrontUptoSaid : Prop := fnExactSackFrontUptoRow.holds Try.pinned (OpenSpec.upto fnExactSackFrontSpec)

/-- 'laws.FnExactSackAgain', WHERE WHAT IT READS IS OF BULK AT MOST 1048576: true; the input reads as it did. -/
def fnExactSackAgainUptoRow : OpenClaim := { program := "ytegmaieikocllaa", sum := "89d112a31a9ed78730bf3b17bd6bd118f02d53c8a67cbb41c138a5c94624babd", func := "loop.example/chosensums/laws.FnExactSackAgain", spec := "fnExactSackAgain", apart := false, narrowed := true }
def FnExactSackAgainUptoSaid : Prop := fnExactSackAgainUptoRow.holds Try.pinned (OpenSpec.upto fnExactSackAgainSpec)

/-- 'laws.FnExactSackWorse', WHERE WHAT IT READS IS OF BULK AT MOST 1048576: true; the input reads as it did. -/
def fnExactSackWorseUptoRow : OpenClaim := { program := "ytegmaieikocllaa", sum := "89d112a31a9ed78730bf3b17bd6bd118f02d53c8a67cbb41c138a5c94624babd", func := "loop.example/chosensums/laws.FnExactSackWorse", spec := "fnExactSackWorse", unfollowed := true, recurses := true, apart := false, narrowed := true }
def FnExactSackWorseUptoSaid : Prop := fnExactSackWorseUptoRow.holds Try.pinned (OpenSpec.upto fnExactSackWorseSpec)

/-- 'laws.FnExactSackMost', WHERE WHAT IT READS IS OF BULK AT MOST 1048576: true; the input reads as it did. -/
def fnExactSackMostUptoRow : OpenClaim := { program := "ytegmaieikocllaa", sum := "89d112a31a9ed78730bf3b17bd6bd118f02d53c8a67cbb41c138a5c94624babd", func := "loop.example/chosensums/laws.FnExactSackMost", spec := "fnExactSackMost", apart := false, narrowed := true }
def FnExactSackMostUptoSaid : Prop := fnExactSackMostUptoRow.holds Try.pinned (OpenSpec.upto fnExactSackMostSpec)

/-- 'laws.FnItems', WHERE WHAT IT READS IS OF BULK AT MOST 1048576: true; the input reads as it did. -/
def fnItemsUptoRow : OpenClaim := { program := "ytegmaieikocllaa", sum := "89d112a31a9ed78730bf3b17bd6bd118f02d53c8a67cbb41c138a5c94624babd", func := "loop.example/chosensums/laws.FnItems", spec := "fnItems", apart := false, narrowed := true }
def FnItemsUptoSaid : Prop := fnItemsUptoRow.holds Try.pinned (OpenSpec.upto fnItemsSpec)

/-- 'laws.FnSackChoice', WHERE WHAT IT READS IS OF BULK AT MOST 1048576: true; the input reads as it did. -/
def fnSackChoiceUptoRow : OpenClaim := { program := "ytegmaieikocllaa", sum := "89d112a31a9ed78730bf3b17bd6bd118f02d53c8a67cbb41c138a5c94624babd", func := "loop.example/chosensums/laws.FnSackChoice", spec := "fnSackChoice", apart := false, narrowed := true }
def FnSackChoiceUptoSaid : Prop := fnSackChoiceUptoRow.holds Try.pinned (OpenSpec.upto fnSackChoiceSpec)

/-- 'laws.FnFront', WHERE WHAT IT READS IS OF BULK AT MOST 1048576: true; the input reads as it did. -/
def fnFrontUptoRow : OpenClaim := { program := "ytegmaieikocllaa", sum := "89d112a31a9ed78730bf3b17bd6bd118f02d53c8a67cbb41c138a5c94624babd", func := "loop.example/chosensums/laws.FnFront", spec := "fnFront", apart := false, narrowed := true }
def FnFrontUptoSaid : Prop := fnFrontUptoRow.holds Try.pinned (OpenSpec.upto fnFrontSpec)

/-- 'laws.FnAgain', WHERE WHAT IT READS IS OF BULK AT MOST 1048576: true; the input reads as it did. -/
def fnAgainUptoRow : OpenClaim := { program := "ytegmaieikocllaa", sum := "89d112a31a9ed78730bf3b17bd6bd118f02d53c8a67cbb41c138a5c94624babd", func := "loop.example/chosensums/laws.FnAgain", spec := "fnAgain", apart := false, narrowed := true }
def FnAgainUptoSaid : Prop := fnAgainUptoRow.holds Try.pinned (OpenSpec.upto fnAgainSpec)

/-- 'laws.FnMost', WHERE WHAT IT READS IS OF BULK AT MOST 1048576: true; the input reads as it did. -/
def fnMostUptoRow : OpenClaim := { program := "ytegmaieikocllaa", sum := "89d112a31a9ed78730bf3b17bd6bd118f02d53c8a67cbb41c138a5c94624babd", func := "loop.example/chosensums/laws.FnMost", spec := "fnMost", apart := false, narrowed := true }
def FnMostUptoSaid : Prop := fnMostUptoRow.holds Try.pinned (OpenSpec.upto fnMostSpec)

/-- 'laws.FnWorse', WHERE WHAT IT READS IS OF BULK AT MOST 1048576: true; the input reads as it did. -/
def fnWorseUptoRow : OpenClaim := { program := "ytegmaieikocllaa", sum := "89d112a31a9ed78730bf3b17bd6bd118f02d53c8a67cbb41c138a5c94624babd", func := "loop.example/chosensums/laws.FnWorse", spec := "fnWorse", unfollowed := true, recurses := true, apart := false, narrowed := true }
def FnWorseUptoSaid : Prop := fnWorseUptoRow.holds Try.pinned (OpenSpec.upto fnWorseSpec)

end Rows
end Go.Proofs.Ytegmaieikocllaa
