/-
  No cell of these rows narrows 'for every input' (looked for: loops, veiled, ifaces, maps, wideKeys, modest, calm, conditions, laid).
  DERIVED. THE GIVEN ROWS OF THIS SEAT. 4 by the template 'for every input the law returns true; each argument reads behind the call as it read before'; 0 by the template 'total and deterministic' (their statements: YtdlgikajkljdeaaTotals.lean).
  GIVEN WITH THE SEED: the statements are not yours to turn. If you find one false, say at which input.
  Laid BY PROGRAM, IN A SANDBOX (cutbox-rows.mjs): the forced cells as the released guide's own fill.sh prints them over the translation f606d9fffd7f8f8f… (all of the seat's roots in one cut). By AI agents, Wed Nov 11 2026. No macro, syntax, notation, axiom, sorry.
-/
import Derived.Test.YtdlgikajkljdeaaChecked
import GoSem.Claim
import GoSem.ClaimJoined
import GoSem.ClaimMapViews
import Derived.JoinedTies
import Derived.KernelRfl
namespace Go.Proofs.Ytdlgikajkljdeaa
/- THE CELL 'sum', in the pinned program and in every row, IS THE sha256 OF THE DUMP (.gsa) THAT YtdlgikajkljdeaaProg.lean LOADS. Nothing in Lean hashes anything: it is a label: what it is worth is what the hold of that sum in a sandbox is worth. -/
noncomputable def Try.pinned : Pinned := { name := "ytdlgikajkljdeaa", sum := "f606d9fffd7f8f8f39dfadd43bfe6367ac94fffa235e62ca5f5cc31082416688", checked := Try.checked }
namespace Rows
def none {H : Type} : Left H := { results := [], args := [] }

/-- 'crossroadslaw12.BodySummary': WHATEVER THE INPUT: true; the input reads as it did. -/
def bodySummarySpec : ChangeSpec := { name := "bodySummary", fn := fun _ => fun
  | [d1, d2] => { results := [.lit (.bool true)], args := [d1, d2] }
  | _ => none }
def bodySummaryRow : OpenClaim := { program := "ytdlgikajkljdeaa", sum := "f606d9fffd7f8f8f39dfadd43bfe6367ac94fffa235e62ca5f5cc31082416688", func := "crossroads/crossroadslaw12.BodySummary", spec := "bodySummary", apart := false }
def BodySummarySaid : Prop := bodySummaryRow.holds Try.pinned (OpenSpec.ofChange bodySummarySpec)

/-- ITS FALSE NEIGHBOUR: 'it returns false'. Refute it at one input. -/
def bodySummaryWrong : ChangeSpec := { name := "bodySummary", fn := fun _ => fun
  | [d1, d2] => { results := [.lit (.bool false)], args := [d1, d2] }
  | _ => none }
def BodySummaryWrongFalsely : Prop := bodySummaryRow.holds Try.pinned (OpenSpec.ofChange bodySummaryWrong)

/-- 'crossroadslaw12.BodyRight': WHATEVER THE INPUT: true; the input reads as it did. -/
def bodyRightSpec : ChangeSpec := { name := "bodyRight", fn := fun _ => fun
  | [d] => { results := [.lit (.bool true)], args := [d] }
  | _ => none }
def bodyRightRow : OpenClaim := { program := "ytdlgikajkljdeaa", sum := "f606d9fffd7f8f8f39dfadd43bfe6367ac94fffa235e62ca5f5cc31082416688", func := "crossroads/crossroadslaw12.BodyRight", spec := "bodyRight", apart := false }
def BodyRightSaid : Prop := bodyRightRow.holds Try.pinned (OpenSpec.ofChange bodyRightSpec)

/-- ITS FALSE NEIGHBOUR: 'it returns false'. Refute it at one input. -/
def bodyRightWrong : ChangeSpec := { name := "bodyRight", fn := fun _ => fun
  | [d] => { results := [.lit (.bool false)], args := [d] }
  | _ => none }
def BodyRightWrongFalsely : Prop := bodyRightRow.holds Try.pinned (OpenSpec.ofChange bodyRightWrong)

/-- 'crossroadslaw12.BodyRouter': WHATEVER THE INPUT: true; the input reads as it did. -/
def bodyRouterSpec : ChangeSpec := { name := "bodyRouter", fn := fun _ => fun
  | [d1, d2] => { results := [.lit (.bool true)], args := [d1, d2] }
  | _ => none }
def bodyRouterRow : OpenClaim := { program := "ytdlgikajkljdeaa", sum := "f606d9fffd7f8f8f39dfadd43bfe6367ac94fffa235e62ca5f5cc31082416688", func := "crossroads/crossroadslaw12.BodyRouter", spec := "bodyRouter", apart := false }
def BodyRouterSaid : Prop := bodyRouterRow.holds Try.pinned (OpenSpec.ofChange bodyRouterSpec)

/-- ITS FALSE NEIGHBOUR: 'it returns false'. Refute it at one input. -/
def bodyRouterWrong : ChangeSpec := { name := "bodyRouter", fn := fun _ => fun
  | [d1, d2] => { results := [.lit (.bool false)], args := [d1, d2] }
  | _ => none }
def BodyRouterWrongFalsely : Prop := bodyRouterRow.holds Try.pinned (OpenSpec.ofChange bodyRouterWrong)

/-- 'crossroadslaw12.BodyExternal': WHATEVER THE INPUT: true; the input reads as it did. -/
def bodyExternalSpec : ChangeSpec := { name := "bodyExternal", fn := fun _ => fun
  | [d1, d2] => { results := [.lit (.bool true)], args := [d1, d2] }
  | _ => none }
def bodyExternalRow : OpenClaim := { program := "ytdlgikajkljdeaa", sum := "f606d9fffd7f8f8f39dfadd43bfe6367ac94fffa235e62ca5f5cc31082416688", func := "crossroads/crossroadslaw12.BodyExternal", spec := "bodyExternal", apart := false }
def BodyExternalSaid : Prop := bodyExternalRow.holds Try.pinned (OpenSpec.ofChange bodyExternalSpec)

/-- ITS FALSE NEIGHBOUR: 'it returns false'. Refute it at one input. -/
def bodyExternalWrong : ChangeSpec := { name := "bodyExternal", fn := fun _ => fun
  | [d1, d2] => { results := [.lit (.bool false)], args := [d1, d2] }
  | _ => none }
def BodyExternalWrongFalsely : Prop := bodyExternalRow.holds Try.pinned (OpenSpec.ofChange bodyExternalWrong)

/- THE SECOND FORM. 'bulk': how many values and letters a reading holds, each counted each time it is reached (what is shared counts as often as it is met; a slice's spare places count too). A statement '..UptoSaid' is the law's where the arguments, and the package variables that the reading takes, are together of bulk at most 1048576: NARROWER than '..Said'. Prove '..Said' where nothing that the law and all that it calls make is longer than what came in: it says more and counts as full. Else prove '..UptoSaid'. A law counts once. -/
mutual
def uptoBulk {H : Type} : DataW H → Nat
  | .lit (.string bytes) => bytes.length + 1
  | .lit _ => 1
  | .nil => 1
  | .ptr d => uptoBulk d + 1
  | .slice elems spare => uptoBulkAll elems + uptoBulkAll spare + 1
  | .agg parts => uptoBulkAll parts + 1
  | .iface _ d => uptoBulk d + 1
  | .map entries => uptoBulkEntries entries + 1
  | .held _ => 1
def uptoBulkAll {H : Type} : List (DataW H) → Nat
  | [] => 0
  | d :: r => uptoBulk d + uptoBulkAll r
def uptoBulkEntries {H : Type} : List (Lit × DataW H) → Nat
  | [] => 0
  | x :: r => uptoBulkEntry x + uptoBulkEntries r
def uptoBulkEntry {H : Type} : Lit × DataW H → Nat
  | (.string bytes, d) => bytes.length + uptoBulk d + 1
  | (_, d) => uptoBulk d + 1
 end
def uptoSmall : (H : Type) → List (DataW H) → Bool := fun _ ds => decide (uptoBulkAll ds ≤ 1048576)
def OpenSpec.upto (s : _root_.Go.ChangeSpec) : _root_.Go.OpenSpec := { _root_.Go.OpenSpec.ofChange s with cond := some uptoSmall }

/-- 'crossroadslaw12.BodySummary', WHERE WHAT IT READS IS OF BULK AT MOST 1048576: true; the input reads as it did. -/
def bodySummaryUptoRow : OpenClaim := { program := "ytdlgikajkljdeaa", sum := "f606d9fffd7f8f8f39dfadd43bfe6367ac94fffa235e62ca5f5cc31082416688", func := "crossroads/crossroadslaw12.BodySummary", spec := "bodySummary", apart := false, narrowed := true }
def BodySummaryUptoSaid : Prop := bodySummaryUptoRow.holds Try.pinned (OpenSpec.upto bodySummarySpec)

/-- 'crossroadslaw12.BodyRight', WHERE WHAT IT READS IS OF BULK AT MOST 1048576: true; the input reads as it did. -/
def bodyRightUptoRow : OpenClaim := { program := "ytdlgikajkljdeaa", sum := "f606d9fffd7f8f8f39dfadd43bfe6367ac94fffa235e62ca5f5cc31082416688", func := "crossroads/crossroadslaw12.BodyRight", spec := "bodyRight", apart := false, narrowed := true }
def BodyRightUptoSaid : Prop := bodyRightUptoRow.holds Try.pinned (OpenSpec.upto bodyRightSpec)

/-- 'crossroadslaw12.BodyRouter', WHERE WHAT IT READS IS OF BULK AT MOST 1048576: true; the input reads as it did. -/
def bodyRouterUptoRow : OpenClaim := { program := "ytdlgikajkljdeaa", sum := "f606d9fffd7f8f8f39dfadd43bfe6367ac94fffa235e62ca5f5cc31082416688", func := "crossroads/crossroadslaw12.BodyRouter", spec := "bodyRouter", apart := false, narrowed := true }
def BodyRouterUptoSaid : Prop := bodyRouterUptoRow.holds Try.pinned (OpenSpec.upto bodyRouterSpec)

/-- 'crossroadslaw12.BodyExternal', WHERE WHAT IT READS IS OF BULK AT MOST 1048576: true; the input reads as it did. -/
def bodyExternalUptoRow : OpenClaim := { program := "ytdlgikajkljdeaa", sum := "f606d9fffd7f8f8f39dfadd43bfe6367ac94fffa235e62ca5f5cc31082416688", func := "crossroads/crossroadslaw12.BodyExternal", spec := "bodyExternal", apart := false, narrowed := true }
def BodyExternalUptoSaid : Prop := bodyExternalUptoRow.holds Try.pinned (OpenSpec.upto bodyExternalSpec)

end Rows
end Go.Proofs.Ytdlgikajkljdeaa
