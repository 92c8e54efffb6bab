/-
  No cell of these rows narrows 'for every input' (looked for: loops, veiled, ifaces, maps, wideKeys, modest, calm, conditions, laid).
  DERIVED. THE GIVEN ROWS OF THIS SEAT. 4 by the template 'for every input the law returns true; each argument reads behind the call as it read before'; 0 by the template 'total and deterministic' (their statements: YtocloebloblodaaTotals.lean).
  GIVEN WITH THE SEED: the statements are not yours to turn. If you find one false, say at which input.
  Laid BY PROGRAM, IN A SANDBOX (cutbox-rows.mjs): the forced cells as the released guide's own fill.sh prints them over the translation d71150dc54a7726b… (all of the seat's roots in one cut). By AI agents, Wed Nov 11 2026. No macro, syntax, notation, axiom, sorry.
-/
import Derived.Test.YtocloebloblodaaChecked
import GoSem.Claim
import GoSem.ClaimJoined
import GoSem.ClaimMapViews
import Derived.JoinedTies
import Derived.KernelRfl
namespace Go.Proofs.Ytocloebloblodaa
/- THE CELL 'sum', in the pinned program and in every row, IS THE sha256 OF THE DUMP (.gsa) THAT YtocloebloblodaaProg.lean LOADS. Nothing in Lean hashes anything: it is a label: what it is worth is what the hold of that sum in a sandbox is worth. -/
noncomputable def Try.pinned : Pinned := { name := "ytocloebloblodaa", sum := "d71150dc54a7726b1bc279e60407ed6f7dfef285e7e9c02983fbf740de5b6a7f", checked := Try.checked }
namespace Rows
def none {H : Type} : Left H := { results := [], args := [] }

/-- 'crossroadslaw22.PduLsp': WHATEVER THE INPUT: true; the input reads as it did. -/
def pduLspSpec : ChangeSpec := { name := "pduLsp", fn := fun _ => fun
  | [d1, d2] => { results := [.lit (.bool true)], args := [d1, d2] }
  | _ => none }
def pduLspRow : OpenClaim := { program := "ytocloebloblodaa", sum := "d71150dc54a7726b1bc279e60407ed6f7dfef285e7e9c02983fbf740de5b6a7f", func := "crossroads/crossroadslaw22.PduLsp", spec := "pduLsp", apart := false }
def PduLspSaid : Prop := pduLspRow.holds Try.pinned (OpenSpec.ofChange pduLspSpec)

/-- ITS FALSE NEIGHBOUR: 'it returns false'. Refute it at one input. -/
def pduLspWrong : ChangeSpec := { name := "pduLsp", fn := fun _ => fun
  | [d1, d2] => { results := [.lit (.bool false)], args := [d1, d2] }
  | _ => none }
def PduLspWrongFalsely : Prop := pduLspRow.holds Try.pinned (OpenSpec.ofChange pduLspWrong)

/-- 'crossroadslaw22.PduSpoilt': WHATEVER THE INPUT: true; the input reads as it did. -/
def pduSpoiltSpec : ChangeSpec := { name := "pduSpoilt", fn := fun _ => fun
  | [d1, d2, d3] => { results := [.lit (.bool true)], args := [d1, d2, d3] }
  | _ => none }
def pduSpoiltRow : OpenClaim := { program := "ytocloebloblodaa", sum := "d71150dc54a7726b1bc279e60407ed6f7dfef285e7e9c02983fbf740de5b6a7f", func := "crossroads/crossroadslaw22.PduSpoilt", spec := "pduSpoilt", apart := false }
def PduSpoiltSaid : Prop := pduSpoiltRow.holds Try.pinned (OpenSpec.ofChange pduSpoiltSpec)

/-- ITS FALSE NEIGHBOUR: 'it returns false'. Refute it at one input. -/
def pduSpoiltWrong : ChangeSpec := { name := "pduSpoilt", fn := fun _ => fun
  | [d1, d2, d3] => { results := [.lit (.bool false)], args := [d1, d2, d3] }
  | _ => none }
def PduSpoiltWrongFalsely : Prop := pduSpoiltRow.holds Try.pinned (OpenSpec.ofChange pduSpoiltWrong)

/-- 'crossroadslaw22.PduHello': WHATEVER THE INPUT: true; the input reads as it did. -/
def pduHelloSpec : ChangeSpec := { name := "pduHello", fn := fun _ => fun
  | [d1, d2] => { results := [.lit (.bool true)], args := [d1, d2] }
  | _ => none }
def pduHelloRow : OpenClaim := { program := "ytocloebloblodaa", sum := "d71150dc54a7726b1bc279e60407ed6f7dfef285e7e9c02983fbf740de5b6a7f", func := "crossroads/crossroadslaw22.PduHello", spec := "pduHello", apart := false }
def PduHelloSaid : Prop := pduHelloRow.holds Try.pinned (OpenSpec.ofChange pduHelloSpec)

/-- ITS FALSE NEIGHBOUR: 'it returns false'. Refute it at one input. -/
def pduHelloWrong : ChangeSpec := { name := "pduHello", fn := fun _ => fun
  | [d1, d2] => { results := [.lit (.bool false)], args := [d1, d2] }
  | _ => none }
def PduHelloWrongFalsely : Prop := pduHelloRow.holds Try.pinned (OpenSpec.ofChange pduHelloWrong)

/-- 'crossroadslaw22.PduList': WHATEVER THE INPUT: true; the input reads as it did. -/
def pduListSpec : ChangeSpec := { name := "pduList", fn := fun _ => fun
  | [d1, d2] => { results := [.lit (.bool true)], args := [d1, d2] }
  | _ => none }
def pduListRow : OpenClaim := { program := "ytocloebloblodaa", sum := "d71150dc54a7726b1bc279e60407ed6f7dfef285e7e9c02983fbf740de5b6a7f", func := "crossroads/crossroadslaw22.PduList", spec := "pduList", unfollowed := true, recurses := true, apart := false }
def PduListSaid : Prop := pduListRow.holds Try.pinned (OpenSpec.ofChange pduListSpec)

/-- ITS FALSE NEIGHBOUR: 'it returns false'. Refute it at one input. -/
def pduListWrong : ChangeSpec := { name := "pduList", fn := fun _ => fun
  | [d1, d2] => { results := [.lit (.bool false)], args := [d1, d2] }
  | _ => none }
def PduListWrongFalsely : Prop := pduListRow.holds Try.pinned (OpenSpec.ofChange pduListWrong)

/- THE SECOND FORM. 'bulk': how many values and letters a reading holds, each counted each time it is reached (what is shared counts as often as it is met; a slice's spare places count too). A statement '..UptoSaid' is the law's where the arguments, and the package variables that the reading takes, are together of bulk at most 1048576: NARROWER than '..Said'. Prove '..Said' where nothing that the law and all that it calls make is longer than what came in: it says more and counts as full. Else prove '..UptoSaid'. A law counts once. -/
mutual
def uptoBulk {H : Type} : DataW H → Nat
  | .lit (.string bytes) => bytes.length + 1
  | .lit _ => 1
  | .nil => 1
  | .ptr d => uptoBulk d + 1
  | .slice elems spare => uptoBulkAll elems + uptoBulkAll spare + 1
  | .agg parts => uptoBulkAll parts + 1
  | .iface _ d => uptoBulk d + 1
  | .map entries => uptoBulkEntries entries + 1
  | .held _ => 1
def uptoBulkAll {H : Type} : List (DataW H) → Nat
  | [] => 0
  | d :: r => uptoBulk d + uptoBulkAll r
def uptoBulkEntries {H : Type} : List (Lit × DataW H) → Nat
  | [] => 0
  | x :: r => uptoBulkEntry x + uptoBulkEntries r
def uptoBulkEntry {H : Type} : Lit × DataW H → Nat
  | (.string bytes, d) => bytes.length + uptoBulk d + 1
  | (_, d) => uptoBulk d + 1
 end
def uptoSmall : (H : Type) → List (DataW H) → Bool := fun _ ds => decide (uptoBulkAll ds ≤ 1048576)
def OpenSpec.upto (s : _root_.Go.ChangeSpec) : _root_.Go.OpenSpec := { _root_.Go.OpenSpec.ofChange s with cond := some uptoSmall }

/-- 'crossroadslaw22.PduLsp', WHERE WHAT IT READS IS OF BULK AT MOST 1048576: true; the input reads as it did. -/
def pduLspUptoRow : OpenClaim := { program := "ytocloebloblodaa", sum := "d71150dc54a7726b1bc279e60407ed6f7dfef285e7e9c02983fbf740de5b6a7f", func := "crossroads/crossroadslaw22.PduLsp", spec := "pduLsp", apart := false, narrowed := true }
def PduLspUptoSaid : Prop := pduLspUptoRow.holds Try.pinned (OpenSpec.upto pduLspSpec)

/-- 'crossroadslaw22.PduSpoilt', WHERE WHAT IT READS IS OF BULK AT MOST 1048576: true; the input reads as it did. -/
def pduSpoiltUptoRow : OpenClaim := { program := "ytocloebloblodaa", sum := "d71150dc54a7726b1bc279e60407ed6f7dfef285e7e9c02983fbf740de5b6a7f", func := "crossroads/crossroadslaw22.PduSpoilt", spec := "pduSpoilt", apart := false, narrowed := true }
def PduSpoiltUptoSaid : Prop := pduSpoiltUptoRow.holds Try.pinned (OpenSpec.upto pduSpoiltSpec)

/-- 'crossroadslaw22.PduHello', WHERE WHAT IT READS IS OF BULK AT MOST 1048576: true; the input reads as it did. -/
def pduHelloUptoRow : OpenClaim := { program := "ytocloebloblodaa", sum := "d71150dc54a7726b1bc279e60407ed6f7dfef285e7e9c02983fbf740de5b6a7f", func := "crossroads/crossroadslaw22.PduHello", spec := "pduHello", apart := false, narrowed := true }
def PduHelloUptoSaid : Prop := pduHelloUptoRow.holds Try.pinned (OpenSpec.upto pduHelloSpec)

/-- 'crossroadslaw22.PduList', WHERE WHAT IT READS IS OF BULK AT MOST 1048576: true; the input reads as it did. -/
def pduListUptoRow : OpenClaim := { program := "ytocloebloblodaa", sum := "d71150dc54a7726b1bc279e60407ed6f7dfef285e7e9c02983fbf740de5b6a7f", func := "crossroads/crossroadslaw22.PduList", spec := "pduList", unfollowed := true, recurses := true, apart := false, narrowed := true }
def PduListUptoSaid : Prop := pduListUptoRow.holds Try.pinned (OpenSpec.upto pduListSpec)

end Rows
end Go.Proofs.Ytocloebloblodaa
