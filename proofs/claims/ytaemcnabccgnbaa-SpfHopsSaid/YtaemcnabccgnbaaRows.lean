/-
  No cell of these rows narrows 'for every input' (looked for: loops, veiled, ifaces, maps, wideKeys, modest, calm, conditions, laid).
  DERIVED. THE GIVEN ROWS OF THIS SEAT. 6 by the template 'for every input the law returns true; each argument reads behind the call as it read before'; 0 by the template 'total and deterministic' (their statements: YtaemcnabccgnbaaTotals.lean).
  GIVEN WITH THE SEED: the statements are not yours to turn. If you find one false, say at which input.
  Laid BY PROGRAM, IN A SANDBOX (cutbox-rows.mjs): the forced cells as the released guide's own fill.sh prints them over the translation c88a5f7597c5e3d9… (all of the seat's roots in one cut). By AI agents, Wed Nov 11 2026. No macro, syntax, notation, axiom, sorry.
-/
import Derived.Test.YtaemcnabccgnbaaChecked
import GoSem.Claim
import GoSem.ClaimJoined
import GoSem.ClaimMapViews
import Derived.JoinedTies
import Derived.KernelRfl
namespace Go.Proofs.Ytaemcnabccgnbaa
/- THE CELL 'sum', in the pinned program and in every row, IS THE sha256 OF THE DUMP (.gsa) THAT YtaemcnabccgnbaaProg.lean LOADS. Nothing in Lean hashes anything: it is a label: what it is worth is what the hold of that sum in a sandbox is worth. -/
noncomputable def Try.pinned : Pinned := { name := "ytaemcnabccgnbaa", sum := "c88a5f7597c5e3d99f69c6257e38bf911f3235849931f4b5f10c923e460a6d7c", checked := Try.checked }
namespace Rows
def none {H : Type} : Left H := { results := [], args := [] }

/-- 'crossroadslaw05.SpfTold': WHATEVER THE INPUT: true; the input reads as it did. -/
def spfToldSpec : ChangeSpec := { name := "spfTold", fn := fun _ => fun
  | [d1, d2] => { results := [.lit (.bool true)], args := [d1, d2] }
  | _ => none }
def spfToldRow : OpenClaim := { program := "ytaemcnabccgnbaa", sum := "c88a5f7597c5e3d99f69c6257e38bf911f3235849931f4b5f10c923e460a6d7c", func := "crossroads/crossroadslaw05.SpfTold", spec := "spfTold", unfollowed := true, recurses := true, plainKeys := false, apart := false }
def SpfToldSaid : Prop := spfToldRow.holds Try.pinned (OpenSpec.ofChange spfToldSpec)

/-- ITS FALSE NEIGHBOUR: 'it returns false'. Refute it at one input. -/
def spfToldWrong : ChangeSpec := { name := "spfTold", fn := fun _ => fun
  | [d1, d2] => { results := [.lit (.bool false)], args := [d1, d2] }
  | _ => none }
def SpfToldWrongFalsely : Prop := spfToldRow.holds Try.pinned (OpenSpec.ofChange spfToldWrong)

/-- 'crossroadslaw05.SpfShortest': WHATEVER THE INPUT: true; the input reads as it did. -/
def spfShortestSpec : ChangeSpec := { name := "spfShortest", fn := fun _ => fun
  | [d1, d2] => { results := [.lit (.bool true)], args := [d1, d2] }
  | _ => none }
def spfShortestRow : OpenClaim := { program := "ytaemcnabccgnbaa", sum := "c88a5f7597c5e3d99f69c6257e38bf911f3235849931f4b5f10c923e460a6d7c", func := "crossroads/crossroadslaw05.SpfShortest", spec := "spfShortest", unfollowed := true, recurses := true, plainKeys := false, apart := false }
def SpfShortestSaid : Prop := spfShortestRow.holds Try.pinned (OpenSpec.ofChange spfShortestSpec)

/-- ITS FALSE NEIGHBOUR: 'it returns false'. Refute it at one input. -/
def spfShortestWrong : ChangeSpec := { name := "spfShortest", fn := fun _ => fun
  | [d1, d2] => { results := [.lit (.bool false)], args := [d1, d2] }
  | _ => none }
def SpfShortestWrongFalsely : Prop := spfShortestRow.holds Try.pinned (OpenSpec.ofChange spfShortestWrong)

/-- 'crossroadslaw05.SpfHops': WHATEVER THE INPUT: true; the input reads as it did. -/
def spfHopsSpec : ChangeSpec := { name := "spfHops", fn := fun _ => fun
  | [d1, d2] => { results := [.lit (.bool true)], args := [d1, d2] }
  | _ => none }
def spfHopsRow : OpenClaim := { program := "ytaemcnabccgnbaa", sum := "c88a5f7597c5e3d99f69c6257e38bf911f3235849931f4b5f10c923e460a6d7c", func := "crossroads/crossroadslaw05.SpfHops", spec := "spfHops", unfollowed := true, recurses := true, plainKeys := false, apart := false }
def SpfHopsSaid : Prop := spfHopsRow.holds Try.pinned (OpenSpec.ofChange spfHopsSpec)

/-- ITS FALSE NEIGHBOUR: 'it returns false'. Refute it at one input. -/
def spfHopsWrong : ChangeSpec := { name := "spfHops", fn := fun _ => fun
  | [d1, d2] => { results := [.lit (.bool false)], args := [d1, d2] }
  | _ => none }
def SpfHopsWrongFalsely : Prop := spfHopsRow.holds Try.pinned (OpenSpec.ofChange spfHopsWrong)

/-- 'crossroadslaw05.SpfReverse': WHATEVER THE INPUT: true; the input reads as it did. -/
def spfReverseSpec : ChangeSpec := { name := "spfReverse", fn := fun _ => fun
  | [d1, d2, d3] => { results := [.lit (.bool true)], args := [d1, d2, d3] }
  | _ => none }
def spfReverseRow : OpenClaim := { program := "ytaemcnabccgnbaa", sum := "c88a5f7597c5e3d99f69c6257e38bf911f3235849931f4b5f10c923e460a6d7c", func := "crossroads/crossroadslaw05.SpfReverse", spec := "spfReverse", unfollowed := true, recurses := true, plainKeys := false, apart := false }
def SpfReverseSaid : Prop := spfReverseRow.holds Try.pinned (OpenSpec.ofChange spfReverseSpec)

/-- ITS FALSE NEIGHBOUR: 'it returns false'. Refute it at one input. -/
def spfReverseWrong : ChangeSpec := { name := "spfReverse", fn := fun _ => fun
  | [d1, d2, d3] => { results := [.lit (.bool false)], args := [d1, d2, d3] }
  | _ => none }
def SpfReverseWrongFalsely : Prop := spfReverseRow.holds Try.pinned (OpenSpec.ofChange spfReverseWrong)

/-- 'crossroadslaw05.SpfTwice': WHATEVER THE INPUT: true; the input reads as it did. -/
def spfTwiceSpec : ChangeSpec := { name := "spfTwice", fn := fun _ => fun
  | [d] => { results := [.lit (.bool true)], args := [d] }
  | _ => none }
def spfTwiceRow : OpenClaim := { program := "ytaemcnabccgnbaa", sum := "c88a5f7597c5e3d99f69c6257e38bf911f3235849931f4b5f10c923e460a6d7c", func := "crossroads/crossroadslaw05.SpfTwice", spec := "spfTwice", unfollowed := true, recurses := true, plainKeys := false, apart := false }
def SpfTwiceSaid : Prop := spfTwiceRow.holds Try.pinned (OpenSpec.ofChange spfTwiceSpec)

/-- ITS FALSE NEIGHBOUR: 'it returns false'. Refute it at one input. -/
def spfTwiceWrong : ChangeSpec := { name := "spfTwice", fn := fun _ => fun
  | [d] => { results := [.lit (.bool false)], args := [d] }
  | _ => none }
def SpfTwiceWrongFalsely : Prop := spfTwiceRow.holds Try.pinned (OpenSpec.ofChange spfTwiceWrong)

/-- 'crossroadslaw05.SpfEdges': WHATEVER THE INPUT: true; the input reads as it did. -/
def spfEdgesSpec : ChangeSpec := { name := "spfEdges", fn := fun _ => fun
  | [d1, d2] => { results := [.lit (.bool true)], args := [d1, d2] }
  | _ => none }
def spfEdgesRow : OpenClaim := { program := "ytaemcnabccgnbaa", sum := "c88a5f7597c5e3d99f69c6257e38bf911f3235849931f4b5f10c923e460a6d7c", func := "crossroads/crossroadslaw05.SpfEdges", spec := "spfEdges", unfollowed := true, recurses := true, plainKeys := false, apart := false }
def SpfEdgesSaid : Prop := spfEdgesRow.holds Try.pinned (OpenSpec.ofChange spfEdgesSpec)

/-- ITS FALSE NEIGHBOUR: 'it returns false'. Refute it at one input. -/
def spfEdgesWrong : ChangeSpec := { name := "spfEdges", fn := fun _ => fun
  | [d1, d2] => { results := [.lit (.bool false)], args := [d1, d2] }
  | _ => none }
def SpfEdgesWrongFalsely : Prop := spfEdgesRow.holds Try.pinned (OpenSpec.ofChange spfEdgesWrong)

/- THE SECOND FORM. 'bulk': how many values and letters a reading holds, each counted each time it is reached (what is shared counts as often as it is met; a slice's spare places count too). A statement '..UptoSaid' is the law's where the arguments, and the package variables that the reading takes, are together of bulk at most 1048576: NARROWER than '..Said'. Prove '..Said' where nothing that the law and all that it calls make is longer than what came in: it says more and counts as full. Else prove '..UptoSaid'. A law counts once. -/
mutual
def uptoBulk {H : Type} : DataW H → Nat
  | .lit (.string bytes) => bytes.length + 1
  | .lit _ => 1
  | .nil => 1
  | .ptr d => uptoBulk d + 1
  | .slice elems spare => uptoBulkAll elems + uptoBulkAll spare + 1
  | .agg parts => uptoBulkAll parts + 1
  | .iface _ d => uptoBulk d + 1
  | .map entries => uptoBulkEntries entries + 1
  | .held _ => 1
def uptoBulkAll {H : Type} : List (DataW H) → Nat
  | [] => 0
  | d :: r => uptoBulk d + uptoBulkAll r
def uptoBulkEntries {H : Type} : List (Lit × DataW H) → Nat
  | [] => 0
  | x :: r => uptoBulkEntry x + uptoBulkEntries r
def uptoBulkEntry {H : Type} : Lit × DataW H → Nat
  | (.string bytes, d) => bytes.length + uptoBulk d + 1
  | (_, d) => uptoBulk d + 1
 end
def uptoSmall : (H : Type) → List (DataW H) → Bool := fun _ ds => decide (uptoBulkAll ds ≤ 1048576)
def OpenSpec.upto (s : _root_.Go.ChangeSpec) : _root_.Go.OpenSpec := { _root_.Go.OpenSpec.ofChange s with cond := some uptoSmall }

/-- 'crossroadslaw05.SpfTold', WHERE WHAT IT READS IS OF BULK AT MOST 1048576: true; the input reads as it did. -/
def spfToldUptoRow : OpenClaim := { program := "ytaemcnabccgnbaa", sum := "c88a5f7597c5e3d99f69c6257e38bf911f3235849931f4b5f10c923e460a6d7c", func := "crossroads/crossroadslaw05.SpfTold", spec := "spfTold", unfollowed := true, recurses := true, plainKeys := false, apart := false, narrowed := true }
def SpfToldUptoSaid : Prop := spfToldUptoRow.holds Try.pinned (OpenSpec.upto spfToldSpec)

/-- 'crossroadslaw05.SpfShortest', WHERE WHAT IT READS IS OF BULK AT MOST 1048576: true; the input reads as it did. -/
def spfShortestUptoRow : OpenClaim := { program := "ytaemcnabccgnbaa", sum := "c88a5f7597c5e3d99f69c6257e38bf911f3235849931f4b5f10c923e460a6d7c", func := "crossroads/crossroadslaw05.SpfShortest", spec := "spfShortest", unfollowed := true, recurses := true, plainKeys := false, apart := false, narrowed := true }
def SpfShortestUptoSaid : Prop := spfShortestUptoRow.holds Try.pinned (OpenSpec.upto spfShortestSpec)

/-- 'crossroadslaw05.SpfHops', WHERE WHAT IT READS IS OF BULK AT MOST 1048576: true; the input reads as it did. -/
def spfHopsUptoRow : OpenClaim := { program := "ytaemcnabccgnbaa", sum := "c88a5f7597c5e3d99f69c6257e38bf911f3235849931f4b5f10c923e460a6d7c", func := "crossroads/crossroadslaw05.SpfHops", spec := "spfHops", unfollowed := true, recurses := true, plainKeys := false, apart := false, narrowed := true }
def SpfHopsUptoSaid : Prop := spfHopsUptoRow.holds Try.pinned (OpenSpec.upto spfHopsSpec)

/-- 'crossroadslaw05.SpfReverse', WHERE WHAT IT READS IS OF BULK AT MOST 1048576: true; the input reads as it did. -/
def spfReverseUptoRow : OpenClaim := { program := "ytaemcnabccgnbaa", sum := "c88a5f7597c5e3d99f69c6257e38bf911f3235849931f4b5f10c923e460a6d7c", func := "crossroads/crossroadslaw05.SpfReverse", spec := "spfReverse", unfollowed := true, recurses := true, plainKeys := false, apart := false, narrowed := true }
def SpfReverseUptoSaid : Prop := spfReverseUptoRow.holds Try.pinned (OpenSpec.upto spfReverseSpec)

/-- 'crossroadslaw05.SpfTwice', WHERE WHAT IT READS IS OF BULK AT MOST 1048576: true; the input reads as it did. -/
def spfTwiceUptoRow : OpenClaim := { program := "ytaemcnabccgnbaa", sum := "c88a5f7597c5e3d99f69c6257e38bf911f3235849931f4b5f10c923e460a6d7c", func := "crossroads/crossroadslaw05.SpfTwice", spec := "spfTwice", unfollowed := true, recurses := true, plainKeys := false, apart := false, narrowed := true }
def SpfTwiceUptoSaid : Prop := spfTwiceUptoRow.holds Try.pinned (OpenSpec.upto spfTwiceSpec)

/-- 'crossroadslaw05.SpfEdges', WHERE WHAT IT READS IS OF BULK AT MOST 1048576: true; the input reads as it did. -/
def spfEdgesUptoRow : OpenClaim := { program := "ytaemcnabccgnbaa", sum := "c88a5f7597c5e3d99f69c6257e38bf911f3235849931f4b5f10c923e460a6d7c", func := "crossroads/crossroadslaw05.SpfEdges", spec := "spfEdges", unfollowed := true, recurses := true, plainKeys := false, apart := false, narrowed := true }
def SpfEdgesUptoSaid : Prop := spfEdgesUptoRow.holds Try.pinned (OpenSpec.upto spfEdgesSpec)

end Rows
end Go.Proofs.Ytaemcnabccgnbaa
