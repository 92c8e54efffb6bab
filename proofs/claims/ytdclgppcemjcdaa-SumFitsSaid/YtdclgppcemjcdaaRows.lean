/-
  No cell of these rows narrows 'for every input' (looked for: loops, veiled, ifaces, maps, wideKeys, modest, calm, conditions, laid).
  DERIVED. THE GIVEN ROWS OF THIS SEAT. 10 by the template 'for every input the law returns true; each argument reads behind the call as it read before'; 0 by the template 'total and deterministic' (their statements: YtdclgppcemjcdaaTotals.lean).
  GIVEN WITH THE SEED: the statements are not yours to turn. If you find one false, say at which input.
  Laid BY PROGRAM, IN A SANDBOX (cutbox-rows.mjs): the forced cells as the released guide's own fill.sh prints them over the translation c612ce55970b91d8… (all of the seat's roots in one cut). By AI agents, Wed Nov 11 2026. No macro, syntax, notation, axiom, sorry.
-/
import Derived.Test.YtdclgppcemjcdaaChecked
import GoSem.Claim
import GoSem.ClaimJoined
import GoSem.ClaimMapViews
import Derived.JoinedTies
import Derived.KernelRfl
namespace Go.Proofs.Ytdclgppcemjcdaa
/- THE CELL 'sum', in the pinned program and in every row, IS THE sha256 OF THE DUMP (.gsa) THAT YtdclgppcemjcdaaProg.lean LOADS. Nothing in Lean hashes anything: it is a label: what it is worth is what the hold of that sum in a sandbox is worth. -/
noncomputable def Try.pinned : Pinned := { name := "ytdclgppcemjcdaa", sum := "c612ce55970b91d8e931734ebc79d72a8141fd3cddb76b117aa5a19e0365539f", checked := Try.checked }
namespace Rows
def none {H : Type} : Left H := { results := [], args := [] }

/-- 'crossroadslaw01.OctetPut': WHATEVER THE INPUT: true; the input reads as it did. -/
def octetPutSpec : ChangeSpec := { name := "octetPut", fn := fun _ => fun
  | [d1, d2, d3] => { results := [.lit (.bool true)], args := [d1, d2, d3] }
  | _ => none }
def octetPutRow : OpenClaim := { program := "ytdclgppcemjcdaa", sum := "c612ce55970b91d8e931734ebc79d72a8141fd3cddb76b117aa5a19e0365539f", func := "crossroads/crossroadslaw01.OctetPut", spec := "octetPut", apart := false }
def OctetPutSaid : Prop := octetPutRow.holds Try.pinned (OpenSpec.ofChange octetPutSpec)

/-- ITS FALSE NEIGHBOUR: 'it returns false'. Refute it at one input. -/
def octetPutWrong : ChangeSpec := { name := "octetPut", fn := fun _ => fun
  | [d1, d2, d3] => { results := [.lit (.bool false)], args := [d1, d2, d3] }
  | _ => none }
def OctetPutWrongFalsely : Prop := octetPutRow.holds Try.pinned (OpenSpec.ofChange octetPutWrong)

/-- 'crossroadslaw01.OctetRows': WHATEVER THE INPUT: true; the input reads as it did. -/
def octetRowsSpec : ChangeSpec := { name := "octetRows", fn := fun _ => fun
  | [d1, d2, d3] => { results := [.lit (.bool true)], args := [d1, d2, d3] }
  | _ => none }
def octetRowsRow : OpenClaim := { program := "ytdclgppcemjcdaa", sum := "c612ce55970b91d8e931734ebc79d72a8141fd3cddb76b117aa5a19e0365539f", func := "crossroads/crossroadslaw01.OctetRows", spec := "octetRows", apart := false }
def OctetRowsSaid : Prop := octetRowsRow.holds Try.pinned (OpenSpec.ofChange octetRowsSpec)

/-- ITS FALSE NEIGHBOUR: 'it returns false'. Refute it at one input. -/
def octetRowsWrong : ChangeSpec := { name := "octetRows", fn := fun _ => fun
  | [d1, d2, d3] => { results := [.lit (.bool false)], args := [d1, d2, d3] }
  | _ => none }
def OctetRowsWrongFalsely : Prop := octetRowsRow.holds Try.pinned (OpenSpec.ofChange octetRowsWrong)

/-- 'crossroadslaw01.OctetTake': WHATEVER THE INPUT: true; the input reads as it did. -/
def octetTakeSpec : ChangeSpec := { name := "octetTake", fn := fun _ => fun
  | [d1, d2] => { results := [.lit (.bool true)], args := [d1, d2] }
  | _ => none }
def octetTakeRow : OpenClaim := { program := "ytdclgppcemjcdaa", sum := "c612ce55970b91d8e931734ebc79d72a8141fd3cddb76b117aa5a19e0365539f", func := "crossroads/crossroadslaw01.OctetTake", spec := "octetTake", apart := false }
def OctetTakeSaid : Prop := octetTakeRow.holds Try.pinned (OpenSpec.ofChange octetTakeSpec)

/-- ITS FALSE NEIGHBOUR: 'it returns false'. Refute it at one input. -/
def octetTakeWrong : ChangeSpec := { name := "octetTake", fn := fun _ => fun
  | [d1, d2] => { results := [.lit (.bool false)], args := [d1, d2] }
  | _ => none }
def OctetTakeWrongFalsely : Prop := octetTakeRow.holds Try.pinned (OpenSpec.ofChange octetTakeWrong)

/-- 'crossroadslaw01.OctetBack': WHATEVER THE INPUT: true; the input reads as it did. -/
def octetBackSpec : ChangeSpec := { name := "octetBack", fn := fun _ => fun
  | [d1, d2, d3] => { results := [.lit (.bool true)], args := [d1, d2, d3] }
  | _ => none }
def octetBackRow : OpenClaim := { program := "ytdclgppcemjcdaa", sum := "c612ce55970b91d8e931734ebc79d72a8141fd3cddb76b117aa5a19e0365539f", func := "crossroads/crossroadslaw01.OctetBack", spec := "octetBack", apart := false }
def OctetBackSaid : Prop := octetBackRow.holds Try.pinned (OpenSpec.ofChange octetBackSpec)

/-- ITS FALSE NEIGHBOUR: 'it returns false'. Refute it at one input. -/
def octetBackWrong : ChangeSpec := { name := "octetBack", fn := fun _ => fun
  | [d1, d2, d3] => { results := [.lit (.bool false)], args := [d1, d2, d3] }
  | _ => none }
def OctetBackWrongFalsely : Prop := octetBackRow.holds Try.pinned (OpenSpec.ofChange octetBackWrong)

/-- 'crossroadslaw02.SumPlace': WHATEVER THE INPUT: true; the input reads as it did. -/
def sumPlaceSpec : ChangeSpec := { name := "sumPlace", fn := fun _ => fun
  | [d1, d2] => { results := [.lit (.bool true)], args := [d1, d2] }
  | _ => none }
def sumPlaceRow : OpenClaim := { program := "ytdclgppcemjcdaa", sum := "c612ce55970b91d8e931734ebc79d72a8141fd3cddb76b117aa5a19e0365539f", func := "crossroads/crossroadslaw02.SumPlace", spec := "sumPlace", apart := false }
def SumPlaceSaid : Prop := sumPlaceRow.holds Try.pinned (OpenSpec.ofChange sumPlaceSpec)

/-- ITS FALSE NEIGHBOUR: 'it returns false'. Refute it at one input. -/
def sumPlaceWrong : ChangeSpec := { name := "sumPlace", fn := fun _ => fun
  | [d1, d2] => { results := [.lit (.bool false)], args := [d1, d2] }
  | _ => none }
def SumPlaceWrongFalsely : Prop := sumPlaceRow.holds Try.pinned (OpenSpec.ofChange sumPlaceWrong)

/-- 'crossroadslaw02.SumFits': WHATEVER THE INPUT: true; the input reads as it did. -/
def sumFitsSpec : ChangeSpec := { name := "sumFits", fn := fun _ => fun
  | [d1, d2] => { results := [.lit (.bool true)], args := [d1, d2] }
  | _ => none }
def sumFitsRow : OpenClaim := { program := "ytdclgppcemjcdaa", sum := "c612ce55970b91d8e931734ebc79d72a8141fd3cddb76b117aa5a19e0365539f", func := "crossroads/crossroadslaw02.SumFits", spec := "sumFits", apart := false }
def SumFitsSaid : Prop := sumFitsRow.holds Try.pinned (OpenSpec.ofChange sumFitsSpec)

/-- ITS FALSE NEIGHBOUR: 'it returns false'. Refute it at one input. -/
def sumFitsWrong : ChangeSpec := { name := "sumFits", fn := fun _ => fun
  | [d1, d2] => { results := [.lit (.bool false)], args := [d1, d2] }
  | _ => none }
def SumFitsWrongFalsely : Prop := sumFitsRow.holds Try.pinned (OpenSpec.ofChange sumFitsWrong)

/-- 'crossroadslaw02.SumParts': WHATEVER THE INPUT: true; the input reads as it did. -/
def sumPartsSpec : ChangeSpec := { name := "sumParts", fn := fun _ => fun
  | [d1, d2] => { results := [.lit (.bool true)], args := [d1, d2] }
  | _ => none }
def sumPartsRow : OpenClaim := { program := "ytdclgppcemjcdaa", sum := "c612ce55970b91d8e931734ebc79d72a8141fd3cddb76b117aa5a19e0365539f", func := "crossroads/crossroadslaw02.SumParts", spec := "sumParts", apart := false }
def SumPartsSaid : Prop := sumPartsRow.holds Try.pinned (OpenSpec.ofChange sumPartsSpec)

/-- ITS FALSE NEIGHBOUR: 'it returns false'. Refute it at one input. -/
def sumPartsWrong : ChangeSpec := { name := "sumParts", fn := fun _ => fun
  | [d1, d2] => { results := [.lit (.bool false)], args := [d1, d2] }
  | _ => none }
def SumPartsWrongFalsely : Prop := sumPartsRow.holds Try.pinned (OpenSpec.ofChange sumPartsWrong)

/-- 'crossroadslaw02.SumTold': WHATEVER THE INPUT: true; the input reads as it did. -/
def sumToldSpec : ChangeSpec := { name := "sumTold", fn := fun _ => fun
  | [d] => { results := [.lit (.bool true)], args := [d] }
  | _ => none }
def sumToldRow : OpenClaim := { program := "ytdclgppcemjcdaa", sum := "c612ce55970b91d8e931734ebc79d72a8141fd3cddb76b117aa5a19e0365539f", func := "crossroads/crossroadslaw02.SumTold", spec := "sumTold", apart := false }
def SumToldSaid : Prop := sumToldRow.holds Try.pinned (OpenSpec.ofChange sumToldSpec)

/-- ITS FALSE NEIGHBOUR: 'it returns false'. Refute it at one input. -/
def sumToldWrong : ChangeSpec := { name := "sumTold", fn := fun _ => fun
  | [d] => { results := [.lit (.bool false)], args := [d] }
  | _ => none }
def SumToldWrongFalsely : Prop := sumToldRow.holds Try.pinned (OpenSpec.ofChange sumToldWrong)

/-- 'crossroadslaw02.SumFound': WHATEVER THE INPUT: true; the input reads as it did. -/
def sumFoundSpec : ChangeSpec := { name := "sumFound", fn := fun _ => fun
  | [d1, d2, d3] => { results := [.lit (.bool true)], args := [d1, d2, d3] }
  | _ => none }
def sumFoundRow : OpenClaim := { program := "ytdclgppcemjcdaa", sum := "c612ce55970b91d8e931734ebc79d72a8141fd3cddb76b117aa5a19e0365539f", func := "crossroads/crossroadslaw02.SumFound", spec := "sumFound", apart := false }
def SumFoundSaid : Prop := sumFoundRow.holds Try.pinned (OpenSpec.ofChange sumFoundSpec)

/-- ITS FALSE NEIGHBOUR: 'it returns false'. Refute it at one input. -/
def sumFoundWrong : ChangeSpec := { name := "sumFound", fn := fun _ => fun
  | [d1, d2, d3] => { results := [.lit (.bool false)], args := [d1, d2, d3] }
  | _ => none }
def SumFoundWrongFalsely : Prop := sumFoundRow.holds Try.pinned (OpenSpec.ofChange sumFoundWrong)

/-- 'crossroadslaw01.OctetCuts': WHATEVER THE INPUT: true; the input reads as it did. -/
def octetCutsSpec : ChangeSpec := { name := "octetCuts", fn := fun _ => fun
  | [d1, d2, d3] => { results := [.lit (.bool true)], args := [d1, d2, d3] }
  | _ => none }
def octetCutsRow : OpenClaim := { program := "ytdclgppcemjcdaa", sum := "c612ce55970b91d8e931734ebc79d72a8141fd3cddb76b117aa5a19e0365539f", func := "crossroads/crossroadslaw01.OctetCuts", spec := "octetCuts", apart := false }
def OctetCutsSaid : Prop := octetCutsRow.holds Try.pinned (OpenSpec.ofChange octetCutsSpec)

/-- ITS FALSE NEIGHBOUR: 'it returns false'. Refute it at one input. -/
def octetCutsWrong : ChangeSpec := { name := "octetCuts", fn := fun _ => fun
  | [d1, d2, d3] => { results := [.lit (.bool false)], args := [d1, d2, d3] }
  | _ => none }
def OctetCutsWrongFalsely : Prop := octetCutsRow.holds Try.pinned (OpenSpec.ofChange octetCutsWrong)

/- THE SECOND FORM. 'bulk': how many values and letters a reading holds, each counted each time it is reached (what is shared counts as often as it is met; a slice's spare places count too). A statement '..UptoSaid' is the law's where the arguments, and the package variables that the reading takes, are together of bulk at most 1048576: NARROWER than '..Said'. Prove '..Said' where nothing that the law and all that it calls make is longer than what came in: it says more and counts as full. Else prove '..UptoSaid'. A law counts once. -/
mutual
def uptoBulk {H : Type} : DataW H → Nat
  | .lit (.string bytes) => bytes.length + 1
  | .lit _ => 1
  | .nil => 1
  | .ptr d => uptoBulk d + 1
  | .slice elems spare => uptoBulkAll elems + uptoBulkAll spare + 1
  | .agg parts => uptoBulkAll parts + 1
  | .iface _ d => uptoBulk d + 1
  | .map entries => uptoBulkEntries entries + 1
  | .held _ => 1
def uptoBulkAll {H : Type} : List (DataW H) → Nat
  | [] => 0
  | d :: r => uptoBulk d + uptoBulkAll r
def uptoBulkEntries {H : Type} : List (Lit × DataW H) → Nat
  | [] => 0
  | x :: r => uptoBulkEntry x + uptoBulkEntries r
def uptoBulkEntry {H : Type} : Lit × DataW H → Nat
  | (.string bytes, d) => bytes.length + uptoBulk d + 1
  | (_, d) => uptoBulk d + 1
 end
def uptoSmall : (H : Type) → List (DataW H) → Bool := fun _ ds => decide (uptoBulkAll ds ≤ 1048576)
def OpenSpec.upto (s : _root_.Go.ChangeSpec) : _root_.Go.OpenSpec := { _root_.Go.OpenSpec.ofChange s with cond := some uptoSmall }

/-- 'crossroadslaw01.OctetPut', WHERE WHAT IT READS IS OF BULK AT MOST 1048576: true; the input reads as it did. -/
def octetPutUptoRow : OpenClaim := { program := "ytdclgppcemjcdaa", sum := "c612ce55970b91d8e931734ebc79d72a8141fd3cddb76b117aa5a19e0365539f", func := "crossroads/crossroadslaw01.OctetPut", spec := "octetPut", apart := false, narrowed := true }
def OctetPutUptoSaid : Prop := octetPutUptoRow.holds Try.pinned (OpenSpec.upto octetPutSpec)

/-- 'crossroadslaw01.OctetRows', WHERE WHAT IT READS IS OF BULK AT MOST 1048576: true; the input reads as it did. -/
def octetRowsUptoRow : OpenClaim := { program := "ytdclgppcemjcdaa", sum := "c612ce55970b91d8e931734ebc79d72a8141fd3cddb76b117aa5a19e0365539f", func := "crossroads/crossroadslaw01.OctetRows", spec := "octetRows", apart := false, narrowed := true }
def OctetRowsUptoSaid : Prop := octetRowsUptoRow.holds Try.pinned (OpenSpec.upto octetRowsSpec)

/-- 'crossroadslaw01.OctetTake', WHERE WHAT IT READS IS OF BULK AT MOST 1048576: true; the input reads as it did. -/
def octetTakeUptoRow : OpenClaim := { program := "ytdclgppcemjcdaa", sum := "c612ce55970b91d8e931734ebc79d72a8141fd3cddb76b117aa5a19e0365539f", func := "crossroads/crossroadslaw01.OctetTake", spec := "octetTake", apart := false, narrowed := true }
def OctetTakeUptoSaid : Prop := octetTakeUptoRow.holds Try.pinned (OpenSpec.upto octetTakeSpec)

/-- 'crossroadslaw01.OctetBack', WHERE WHAT IT READS IS OF BULK AT MOST 1048576: true; the input reads as it did. -/
def octetBackUptoRow : OpenClaim := { program := "ytdclgppcemjcdaa", sum := "c612ce55970b91d8e931734ebc79d72a8141fd3cddb76b117aa5a19e0365539f", func := "crossroads/crossroadslaw01.OctetBack", spec := "octetBack", apart := false, narrowed := true }
def OctetBackUptoSaid : Prop := octetBackUptoRow.holds Try.pinned (OpenSpec.upto octetBackSpec)

/-- 'crossroadslaw02.SumPlace', WHERE WHAT IT READS IS OF BULK AT MOST 1048576: true; the input reads as it did. -/
def sumPlaceUptoRow : OpenClaim := { program := "ytdclgppcemjcdaa", sum := "c612ce55970b91d8e931734ebc79d72a8141fd3cddb76b117aa5a19e0365539f", func := "crossroads/crossroadslaw02.SumPlace", spec := "sumPlace", apart := false, narrowed := true }
def SumPlaceUptoSaid : Prop := sumPlaceUptoRow.holds Try.pinned (OpenSpec.upto sumPlaceSpec)

/-- 'crossroadslaw02.SumFits', WHERE WHAT IT READS IS OF BULK AT MOST 1048576: true; the input reads as it did. -/
def sumFitsUptoRow : OpenClaim := { program := "ytdclgppcemjcdaa", sum := "c612ce55970b91d8e931734ebc79d72a8141fd3cddb76b117aa5a19e0365539f", func := "crossroads/crossroadslaw02.SumFits", spec := "sumFits", apart := false, narrowed := true }
def SumFitsUptoSaid : Prop := sumFitsUptoRow.holds Try.pinned (OpenSpec.upto sumFitsSpec)

/-- 'crossroadslaw02.SumParts', WHERE WHAT IT READS IS OF BULK AT MOST 1048576: true; the input reads as it did. -/
def sumPartsUptoRow : OpenClaim := { program := "ytdclgppcemjcdaa", sum := "c612ce55970b91d8e931734ebc79d72a8141fd3cddb76b117aa5a19e0365539f", func := "crossroads/crossroadslaw02.SumParts", spec := "sumParts", apart := false, narrowed := true }
def SumPartsUptoSaid : Prop := sumPartsUptoRow.holds Try.pinned (OpenSpec.upto sumPartsSpec)

/-- 'crossroadslaw02.SumTold', WHERE WHAT IT READS IS OF BULK AT MOST 1048576: true; the input reads as it did. -/
def sumToldUptoRow : OpenClaim := { program := "ytdclgppcemjcdaa", sum := "c612ce55970b91d8e931734ebc79d72a8141fd3cddb76b117aa5a19e0365539f", func := "crossroads/crossroadslaw02.SumTold", spec := "sumTold", apart := false, narrowed := true }
def SumToldUptoSaid : Prop := sumToldUptoRow.holds Try.pinned (OpenSpec.upto sumToldSpec)

/-- 'crossroadslaw02.SumFound', WHERE WHAT IT READS IS OF BULK AT MOST 1048576: true; the input reads as it did. -/
def sumFoundUptoRow : OpenClaim := { program := "ytdclgppcemjcdaa", sum := "c612ce55970b91d8e931734ebc79d72a8141fd3cddb76b117aa5a19e0365539f", func := "crossroads/crossroadslaw02.SumFound", spec := "sumFound", apart := false, narrowed := true }
def SumFoundUptoSaid : Prop := sumFoundUptoRow.holds Try.pinned (OpenSpec.upto sumFoundSpec)

/-- 'crossroadslaw01.OctetCuts', WHERE WHAT IT READS IS OF BULK AT MOST 1048576: true; the input reads as it did. -/
def octetCutsUptoRow : OpenClaim := { program := "ytdclgppcemjcdaa", sum := "c612ce55970b91d8e931734ebc79d72a8141fd3cddb76b117aa5a19e0365539f", func := "crossroads/crossroadslaw01.OctetCuts", spec := "octetCuts", apart := false, narrowed := true }
def OctetCutsUptoSaid : Prop := octetCutsUptoRow.holds Try.pinned (OpenSpec.upto octetCutsSpec)

end Rows
end Go.Proofs.Ytdclgppcemjcdaa
