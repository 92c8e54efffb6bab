/-
  No cell of these rows narrows 'for every input' (looked for: loops, veiled, ifaces, maps, wideKeys, modest, calm, conditions, laid).
  DERIVED. THE GIVEN ROWS OF THIS SEAT. 3 by the template 'for every input the law returns true; each argument reads behind the call as it read before'; 0 by the template 'total and deterministic' (their statements: YtgfjhkapbpagcaaTotals.lean).
  GIVEN WITH THE SEED: the statements are not yours to turn. If you find one false, say at which input.
  Laid BY PROGRAM, IN A SANDBOX (cutbox-rows.mjs): the forced cells as the released guide's own fill.sh prints them over the translation f7373309fac225ad… (all of the seat's roots in one cut). By AI agents, Wed Nov 11 2026. No macro, syntax, notation, axiom, sorry.
-/
import Derived.Test.YtgfjhkapbpagcaaChecked
import GoSem.Claim
import GoSem.ClaimJoined
import GoSem.ClaimMapViews
import Derived.JoinedTies
import Derived.KernelRfl
namespace Go.Proofs.Ytgfjhkapbpagcaa
/- THE CELL 'sum', in the pinned program and in every row, IS THE sha256 OF THE DUMP (.gsa) THAT YtgfjhkapbpagcaaProg.lean LOADS. Nothing in Lean hashes anything: it is a label: what it is worth is what the hold of that sum in a sandbox is worth. -/
noncomputable def Try.pinned : Pinned := { name := "ytgfjhkapbpagcaa", sum := "f7373309fac225adbb17dfbf387fbae507523c753b64c7218421028c87e77077", checked := Try.checked }
namespace Rows
def none {H : Type} : Left H := { results := [], args := [] }

/-- 'crossroadslaw10.HelloEncode': WHATEVER THE INPUT: true; the input reads as it did. -/
def helloEncodeSpec : ChangeSpec := { name := "helloEncode", fn := fun _ => fun
  | [d] => { results := [.lit (.bool true)], args := [d] }
  | _ => none }
def helloEncodeRow : OpenClaim := { program := "ytgfjhkapbpagcaa", sum := "f7373309fac225adbb17dfbf387fbae507523c753b64c7218421028c87e77077", func := "crossroads/crossroadslaw10.HelloEncode", spec := "helloEncode", apart := false }
def HelloEncodeSaid : Prop := helloEncodeRow.holds Try.pinned (OpenSpec.ofChange helloEncodeSpec)

/-- ITS FALSE NEIGHBOUR: 'it returns false'. Refute it at one input. -/
def helloEncodeWrong : ChangeSpec := { name := "helloEncode", fn := fun _ => fun
  | [d] => { results := [.lit (.bool false)], args := [d] }
  | _ => none }
def HelloEncodeWrongFalsely : Prop := helloEncodeRow.holds Try.pinned (OpenSpec.ofChange helloEncodeWrong)

/-- 'crossroadslaw10.HelloDecode': WHATEVER THE INPUT: true; the input reads as it did. -/
def helloDecodeSpec : ChangeSpec := { name := "helloDecode", fn := fun _ => fun
  | [d] => { results := [.lit (.bool true)], args := [d] }
  | _ => none }
def helloDecodeRow : OpenClaim := { program := "ytgfjhkapbpagcaa", sum := "f7373309fac225adbb17dfbf387fbae507523c753b64c7218421028c87e77077", func := "crossroads/crossroadslaw10.HelloDecode", spec := "helloDecode", apart := false }
def HelloDecodeSaid : Prop := helloDecodeRow.holds Try.pinned (OpenSpec.ofChange helloDecodeSpec)

/-- ITS FALSE NEIGHBOUR: 'it returns false'. Refute it at one input. -/
def helloDecodeWrong : ChangeSpec := { name := "helloDecode", fn := fun _ => fun
  | [d] => { results := [.lit (.bool false)], args := [d] }
  | _ => none }
def HelloDecodeWrongFalsely : Prop := helloDecodeRow.holds Try.pinned (OpenSpec.ofChange helloDecodeWrong)

/-- 'crossroadslaw10.HelloCheck': WHATEVER THE INPUT: true; the input reads as it did. -/
def helloCheckSpec : ChangeSpec := { name := "helloCheck", fn := fun _ => fun
  | [d1, d2] => { results := [.lit (.bool true)], args := [d1, d2] }
  | _ => none }
def helloCheckRow : OpenClaim := { program := "ytgfjhkapbpagcaa", sum := "f7373309fac225adbb17dfbf387fbae507523c753b64c7218421028c87e77077", func := "crossroads/crossroadslaw10.HelloCheck", spec := "helloCheck", apart := false }
def HelloCheckSaid : Prop := helloCheckRow.holds Try.pinned (OpenSpec.ofChange helloCheckSpec)

/-- ITS FALSE NEIGHBOUR: 'it returns false'. Refute it at one input. -/
def helloCheckWrong : ChangeSpec := { name := "helloCheck", fn := fun _ => fun
  | [d1, d2] => { results := [.lit (.bool false)], args := [d1, d2] }
  | _ => none }
def HelloCheckWrongFalsely : Prop := helloCheckRow.holds Try.pinned (OpenSpec.ofChange helloCheckWrong)

/- THE SECOND FORM. 'bulk': how many values and letters a reading holds, each counted each time it is reached (what is shared counts as often as it is met; a slice's spare places count too). A statement '..UptoSaid' is the law's where the arguments, and the package variables that the reading takes, are together of bulk at most 1048576: NARROWER than '..Said'. Prove '..Said' where nothing that the law and all that it calls make is longer than what came in: it says more and counts as full. Else prove '..UptoSaid'. A law counts once. -/
mutual
def uptoBulk {H : Type} : DataW H → Nat
  | .lit (.string bytes) => bytes.length + 1
  | .lit _ => 1
  | .nil => 1
  | .ptr d => uptoBulk d + 1
  | .slice elems spare => uptoBulkAll elems + uptoBulkAll spare + 1
  | .agg parts => uptoBulkAll parts + 1
  | .iface _ d => uptoBulk d + 1
  | .map entries => uptoBulkEntries entries + 1
  | .held _ => 1
def uptoBulkAll {H : Type} : List (DataW H) → Nat
  | [] => 0
  | d :: r => uptoBulk d + uptoBulkAll r
def uptoBulkEntries {H : Type} : List (Lit × DataW H) → Nat
  | [] => 0
  | x :: r => uptoBulkEntry x + uptoBulkEntries r
def uptoBulkEntry {H : Type} : Lit × DataW H → Nat
  | (.string bytes, d) => bytes.length + uptoBulk d + 1
  | (_, d) => uptoBulk d + 1
 end
def uptoSmall : (H : Type) → List (DataW H) → Bool := fun _ ds => decide (uptoBulkAll ds ≤ 1048576)
def OpenSpec.upto (s : _root_.Go.ChangeSpec) : _root_.Go.OpenSpec := { _root_.Go.OpenSpec.ofChange s with cond := some uptoSmall }

/-- 'crossroadslaw10.HelloEncode', WHERE WHAT IT READS IS OF BULK AT MOST 1048576: true; the input reads as it did. -/
def helloEncodeUptoRow : OpenClaim := { program := "ytgfjhkapbpagcaa", sum := "f7373309fac225adbb17dfbf387fbae507523c753b64c7218421028c87e77077", func := "crossroads/crossroadslaw10.HelloEncode", spec := "helloEncode", apart := false, narrowed := true }
def HelloEncodeUptoSaid : Prop := helloEncodeUptoRow.holds Try.pinned (OpenSpec.upto helloEncodeSpec)

/-- 'crossroadslaw10.HelloDecode', WHERE WHAT IT READS IS OF BULK AT MOST 1048576: true; the input reads as it did. -/
def helloDecodeUptoRow : OpenClaim := { program := "ytgfjhkapbpagcaa", sum := "f7373309fac225adbb17dfbf387fbae507523c753b64c7218421028c87e77077", func := "crossroads/crossroadslaw10.HelloDecode", spec := "helloDecode", apart := false, narrowed := true }
def HelloDecodeUptoSaid : Prop := helloDecodeUptoRow.holds Try.pinned (OpenSpec.upto helloDecodeSpec)

/-- 'crossroadslaw10.HelloCheck', WHERE WHAT IT READS IS OF BULK AT MOST 1048576: true; the input reads as it did. -/
def helloCheckUptoRow : OpenClaim := { program := "ytgfjhkapbpagcaa", sum := "f7373309fac225adbb17dfbf387fbae507523c753b64c7218421028c87e77077", func := "crossroads/crossroadslaw10.HelloCheck", spec := "helloCheck", apart := false, narrowed := true }
def HelloCheckUptoSaid : Prop := helloCheckUptoRow.holds Try.pinned (OpenSpec.upto helloCheckSpec)

end Rows
end Go.Proofs.Ytgfjhkapbpagcaa
