/-
  No cell of these rows narrows 'for every input' (looked for: loops, veiled, ifaces, maps, wideKeys, modest, calm, conditions, laid).
  DERIVED. THE GIVEN ROWS OF THIS SEAT. 4 by the template 'for every input the law returns true; each argument reads behind the call as it read before'; 0 by the template 'total and deterministic' (their statements: YthhklfepclgcbaaTotals.lean).
  GIVEN WITH THE SEED: the statements are not yours to turn. If you find one false, say at which input.
  Laid BY PROGRAM, IN A SANDBOX (cutbox-rows.mjs): the forced cells as the released guide's own fill.sh prints them over the translation 32fc04c6cd9d7b18… (all of the seat's roots in one cut). By AI agents, Wed Nov 11 2026. No macro, syntax, notation, axiom, sorry.
-/
import Derived.Test.YthhklfepclgcbaaChecked
import GoSem.Claim
import GoSem.ClaimJoined
import GoSem.ClaimMapViews
import Derived.JoinedTies
import Derived.KernelRfl
namespace Go.Proofs.Ythhklfepclgcbaa
/- THE CELL 'sum', in the pinned program and in every row, IS THE sha256 OF THE DUMP (.gsa) THAT YthhklfepclgcbaaProg.lean LOADS. Nothing in Lean hashes anything: it is a label: what it is worth is what the hold of that sum in a sandbox is worth. -/
noncomputable def Try.pinned : Pinned := { name := "ythhklfepclgcbaa", sum := "32fc04c6cd9d7b18a37092a983e009b01a2e3df7640c2907265f27c4da606808", checked := Try.checked }
namespace Rows
def none {H : Type} : Left H := { results := [], args := [] }

/-- 'crossroadslaw09.HeadEncode': WHATEVER THE INPUT: true; the input reads as it did. -/
def headEncodeSpec : ChangeSpec := { name := "headEncode", fn := fun _ => fun
  | [d] => { results := [.lit (.bool true)], args := [d] }
  | _ => none }
def headEncodeRow : OpenClaim := { program := "ythhklfepclgcbaa", sum := "32fc04c6cd9d7b18a37092a983e009b01a2e3df7640c2907265f27c4da606808", func := "crossroads/crossroadslaw09.HeadEncode", spec := "headEncode", inPlace := ["internal/bytealg.MakeNoZero"], apart := false }
def HeadEncodeSaid : Prop := headEncodeRow.holds Try.pinned (OpenSpec.ofChange headEncodeSpec)

/-- ITS FALSE NEIGHBOUR: 'it returns false'. Refute it at one input. -/
def headEncodeWrong : ChangeSpec := { name := "headEncode", fn := fun _ => fun
  | [d] => { results := [.lit (.bool false)], args := [d] }
  | _ => none }
def HeadEncodeWrongFalsely : Prop := headEncodeRow.holds Try.pinned (OpenSpec.ofChange headEncodeWrong)

/-- 'crossroadslaw09.HeadDecode': WHATEVER THE INPUT: true; the input reads as it did. -/
def headDecodeSpec : ChangeSpec := { name := "headDecode", fn := fun _ => fun
  | [d] => { results := [.lit (.bool true)], args := [d] }
  | _ => none }
def headDecodeRow : OpenClaim := { program := "ythhklfepclgcbaa", sum := "32fc04c6cd9d7b18a37092a983e009b01a2e3df7640c2907265f27c4da606808", func := "crossroads/crossroadslaw09.HeadDecode", spec := "headDecode", inPlace := ["internal/bytealg.MakeNoZero"], apart := false }
def HeadDecodeSaid : Prop := headDecodeRow.holds Try.pinned (OpenSpec.ofChange headDecodeSpec)

/-- ITS FALSE NEIGHBOUR: 'it returns false'. Refute it at one input. -/
def headDecodeWrong : ChangeSpec := { name := "headDecode", fn := fun _ => fun
  | [d] => { results := [.lit (.bool false)], args := [d] }
  | _ => none }
def HeadDecodeWrongFalsely : Prop := headDecodeRow.holds Try.pinned (OpenSpec.ofChange headDecodeWrong)

/-- 'crossroadslaw09.HeadBack': WHATEVER THE INPUT: true; the input reads as it did. -/
def headBackSpec : ChangeSpec := { name := "headBack", fn := fun _ => fun
  | [d1, d2, d3] => { results := [.lit (.bool true)], args := [d1, d2, d3] }
  | _ => none }
def headBackRow : OpenClaim := { program := "ythhklfepclgcbaa", sum := "32fc04c6cd9d7b18a37092a983e009b01a2e3df7640c2907265f27c4da606808", func := "crossroads/crossroadslaw09.HeadBack", spec := "headBack", inPlace := ["internal/bytealg.MakeNoZero"], apart := false }
def HeadBackSaid : Prop := headBackRow.holds Try.pinned (OpenSpec.ofChange headBackSpec)

/-- ITS FALSE NEIGHBOUR: 'it returns false'. Refute it at one input. -/
def headBackWrong : ChangeSpec := { name := "headBack", fn := fun _ => fun
  | [d1, d2, d3] => { results := [.lit (.bool false)], args := [d1, d2, d3] }
  | _ => none }
def HeadBackWrongFalsely : Prop := headBackRow.holds Try.pinned (OpenSpec.ofChange headBackWrong)

/-- 'crossroadslaw09.HeadAccept': WHATEVER THE INPUT: true; the input reads as it did. -/
def headAcceptSpec : ChangeSpec := { name := "headAccept", fn := fun _ => fun
  | [d1, d2] => { results := [.lit (.bool true)], args := [d1, d2] }
  | _ => none }
def headAcceptRow : OpenClaim := { program := "ythhklfepclgcbaa", sum := "32fc04c6cd9d7b18a37092a983e009b01a2e3df7640c2907265f27c4da606808", func := "crossroads/crossroadslaw09.HeadAccept", spec := "headAccept", inPlace := ["internal/bytealg.MakeNoZero"], apart := false }
def HeadAcceptSaid : Prop := headAcceptRow.holds Try.pinned (OpenSpec.ofChange headAcceptSpec)

/-- ITS FALSE NEIGHBOUR: 'it returns false'. Refute it at one input. -/
def headAcceptWrong : ChangeSpec := { name := "headAccept", fn := fun _ => fun
  | [d1, d2] => { results := [.lit (.bool false)], args := [d1, d2] }
  | _ => none }
def HeadAcceptWrongFalsely : Prop := headAcceptRow.holds Try.pinned (OpenSpec.ofChange headAcceptWrong)

/- THE SECOND FORM. 'bulk': how many values and letters a reading holds, each counted each time it is reached (what is shared counts as often as it is met; a slice's spare places count too). A statement '..UptoSaid' is the law's where the arguments, and the package variables that the reading takes, are together of bulk at most 1048576: NARROWER than '..Said'. Prove '..Said' where nothing that the law and all that it calls make is longer than what came in: it says more and counts as full. Else prove '..UptoSaid'. A law counts once. -/
mutual
def uptoBulk {H : Type} : DataW H → Nat
  | .lit (.string bytes) => bytes.length + 1
  | .lit _ => 1
  | .nil => 1
  | .ptr d => uptoBulk d + 1
  | .slice elems spare => uptoBulkAll elems + uptoBulkAll spare + 1
  | .agg parts => uptoBulkAll parts + 1
  | .iface _ d => uptoBulk d + 1
  | .map entries => uptoBulkEntries entries + 1
  | .held _ => 1
def uptoBulkAll {H : Type} : List (DataW H) → Nat
  | [] => 0
  | d :: r => uptoBulk d + uptoBulkAll r
def uptoBulkEntries {H : Type} : List (Lit × DataW H) → Nat
  | [] => 0
  | x :: r => uptoBulkEntry x + uptoBulkEntries r
def uptoBulkEntry {H : Type} : Lit × DataW H → Nat
  | (.string bytes, d) => bytes.length + uptoBulk d + 1
  | (_, d) => uptoBulk d + 1
 end
def uptoSmall : (H : Type) → List (DataW H) → Bool := fun _ ds => decide (uptoBulkAll ds ≤ 1048576)
def OpenSpec.upto (s : _root_.Go.ChangeSpec) : _root_.Go.OpenSpec := { _root_.Go.OpenSpec.ofChange s with cond := some uptoSmall }

/-- 'crossroadslaw09.HeadEncode', WHERE WHAT IT READS IS OF BULK AT MOST 1048576: true; the input reads as it did. -/
def headEncodeUptoRow : OpenClaim := { program := "ythhklfepclgcbaa", sum := "32fc04c6cd9d7b18a37092a983e009b01a2e3df7640c2907265f27c4da606808", func := "crossroads/crossroadslaw09.HeadEncode", spec := "headEncode", inPlace := ["internal/bytealg.MakeNoZero"], apart := false, narrowed := true }
def HeadEncodeUptoSaid : Prop := headEncodeUptoRow.holds Try.pinned (OpenSpec.upto headEncodeSpec)

/-- 'crossroadslaw09.HeadDecode', WHERE WHAT IT READS IS OF BULK AT MOST 1048576: true; the input reads as it did. -/
def headDecodeUptoRow : OpenClaim := { program := "ythhklfepclgcbaa", sum := "32fc04c6cd9d7b18a37092a983e009b01a2e3df7640c2907265f27c4da606808", func := "crossroads/crossroadslaw09.HeadDecode", spec := "headDecode", inPlace := ["internal/bytealg.MakeNoZero"], apart := false, narrowed := true }
def HeadDecodeUptoSaid : Prop := headDecodeUptoRow.holds Try.pinned (OpenSpec.upto headDecodeSpec)

/-- 'crossroadslaw09.HeadBack', WHERE WHAT IT READS IS OF BULK AT MOST 1048576: true; the input reads as it did. -/
def headBackUptoRow : OpenClaim := { program := "ythhklfepclgcbaa", sum := "32fc04c6cd9d7b18a37092a983e009b01a2e3df7640c2907265f27c4da606808", func := "crossroads/crossroadslaw09.HeadBack", spec := "headBack", inPlace := ["internal/bytealg.MakeNoZero"], apart := false, narrowed := true }
def HeadBackUptoSaid : Prop := headBackUptoRow.holds Try.pinned (OpenSpec.upto headBackSpec)

/-- 'crossroadslaw09.HeadAccept', WHERE WHAT IT READS IS OF BULK AT MOST 1048576: true; the input reads as it did. -/
def headAcceptUptoRow : OpenClaim := { program := "ythhklfepclgcbaa", sum := "32fc04c6cd9d7b18a37092a983e009b01a2e3df7640c2907265f27c4da606808", func := "crossroads/crossroadslaw09.HeadAccept", spec := "headAccept", inPlace := ["internal/bytealg.MakeNoZero"], apart := false, narrowed := true }
def HeadAcceptUptoSaid : Prop := headAcceptUptoRow.holds Try.pinned (OpenSpec.upto headAcceptSpec)

end Rows
end Go.Proofs.Ythhklfepclgcbaa
