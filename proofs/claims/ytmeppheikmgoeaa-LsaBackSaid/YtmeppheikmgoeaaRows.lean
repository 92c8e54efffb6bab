/-
  No cell of these rows narrows 'for every input' (looked for: loops, veiled, ifaces, maps, wideKeys, modest, calm, conditions, laid).
  DERIVED. THE GIVEN ROWS OF THIS SEAT. 3 by the template 'for every input the law returns true; each argument reads behind the call as it read before'; 0 by the template 'total and deterministic' (their statements: YtmeppheikmgoeaaTotals.lean).
  GIVEN WITH THE SEED: the statements are not yours to turn. If you find one false, say at which input.
  Laid BY PROGRAM, IN A SANDBOX (cutbox-rows.mjs): the forced cells as the released guide's own fill.sh prints them over the translation 80d0a869b1abbccb… (all of the seat's roots in one cut). By AI agents, Wed Nov 11 2026. No macro, syntax, notation, axiom, sorry.
-/
import Derived.Test.YtmeppheikmgoeaaChecked
import GoSem.Claim
import GoSem.ClaimJoined
import GoSem.ClaimMapViews
import Derived.JoinedTies
import Derived.KernelRfl
namespace Go.Proofs.Ytmeppheikmgoeaa
/- THE CELL 'sum', in the pinned program and in every row, IS THE sha256 OF THE DUMP (.gsa) THAT YtmeppheikmgoeaaProg.lean LOADS. Nothing in Lean hashes anything: it is a label: what it is worth is what the hold of that sum in a sandbox is worth. -/
noncomputable def Try.pinned : Pinned := { name := "ytmeppheikmgoeaa", sum := "80d0a869b1abbccbf5d92cbe0acc490ff4764b83bcf2e8b181390c7c73739ab4", checked := Try.checked }
namespace Rows
def none {H : Type} : Left H := { results := [], args := [] }

/-- 'crossroadslaw11.LsaHeads': WHATEVER THE INPUT: true; the input reads as it did. -/
def lsaHeadsSpec : ChangeSpec := { name := "lsaHeads", fn := fun _ => fun
  | [d] => { results := [.lit (.bool true)], args := [d] }
  | _ => none }
def lsaHeadsRow : OpenClaim := { program := "ytmeppheikmgoeaa", sum := "80d0a869b1abbccbf5d92cbe0acc490ff4764b83bcf2e8b181390c7c73739ab4", func := "crossroads/crossroadslaw11.LsaHeads", spec := "lsaHeads", apart := false }
def LsaHeadsSaid : Prop := lsaHeadsRow.holds Try.pinned (OpenSpec.ofChange lsaHeadsSpec)

/-- ITS FALSE NEIGHBOUR: 'it returns false'. Refute it at one input. -/
def lsaHeadsWrong : ChangeSpec := { name := "lsaHeads", fn := fun _ => fun
  | [d] => { results := [.lit (.bool false)], args := [d] }
  | _ => none }
def LsaHeadsWrongFalsely : Prop := lsaHeadsRow.holds Try.pinned (OpenSpec.ofChange lsaHeadsWrong)

/-- 'crossroadslaw11.LsaOrder': WHATEVER THE INPUT: true; the input reads as it did. -/
def lsaOrderSpec : ChangeSpec := { name := "lsaOrder", fn := fun _ => fun
  | [d1, d2] => { results := [.lit (.bool true)], args := [d1, d2] }
  | _ => none }
def lsaOrderRow : OpenClaim := { program := "ytmeppheikmgoeaa", sum := "80d0a869b1abbccbf5d92cbe0acc490ff4764b83bcf2e8b181390c7c73739ab4", func := "crossroads/crossroadslaw11.LsaOrder", spec := "lsaOrder", apart := false }
def LsaOrderSaid : Prop := lsaOrderRow.holds Try.pinned (OpenSpec.ofChange lsaOrderSpec)

/-- ITS FALSE NEIGHBOUR: 'it returns false'. Refute it at one input. -/
def lsaOrderWrong : ChangeSpec := { name := "lsaOrder", fn := fun _ => fun
  | [d1, d2] => { results := [.lit (.bool false)], args := [d1, d2] }
  | _ => none }
def LsaOrderWrongFalsely : Prop := lsaOrderRow.holds Try.pinned (OpenSpec.ofChange lsaOrderWrong)

/-- 'crossroadslaw11.LsaBack': WHATEVER THE INPUT: true; the input reads as it did. -/
def lsaBackSpec : ChangeSpec := { name := "lsaBack", fn := fun _ => fun
  | [d1, d2, d3] => { results := [.lit (.bool true)], args := [d1, d2, d3] }
  | _ => none }
def lsaBackRow : OpenClaim := { program := "ytmeppheikmgoeaa", sum := "80d0a869b1abbccbf5d92cbe0acc490ff4764b83bcf2e8b181390c7c73739ab4", func := "crossroads/crossroadslaw11.LsaBack", spec := "lsaBack", apart := false }
def LsaBackSaid : Prop := lsaBackRow.holds Try.pinned (OpenSpec.ofChange lsaBackSpec)

/-- ITS FALSE NEIGHBOUR: 'it returns false'. Refute it at one input. -/
def lsaBackWrong : ChangeSpec := { name := "lsaBack", fn := fun _ => fun
  | [d1, d2, d3] => { results := [.lit (.bool false)], args := [d1, d2, d3] }
  | _ => none }
def LsaBackWrongFalsely : Prop := lsaBackRow.holds Try.pinned (OpenSpec.ofChange lsaBackWrong)

/- THE SECOND FORM. 'bulk': how many values and letters a reading holds, each counted each time it is reached (what is shared counts as often as it is met; a slice's spare places count too). A statement '..UptoSaid' is the law's where the arguments, and the package variables that the reading takes, are together of bulk at most 1048576: NARROWER than '..Said'. Prove '..Said' where nothing that the law and all that it calls make is longer than what came in: it says more and counts as full. Else prove '..UptoSaid'. A law counts once. -/
mutual
def uptoBulk {H : Type} : DataW H → Nat
  | .lit (.string bytes) => bytes.length + 1
  | .lit _ => 1
  | .nil => 1
  | .ptr d => uptoBulk d + 1
  | .slice elems spare => uptoBulkAll elems + uptoBulkAll spare + 1
  | .agg parts => uptoBulkAll parts + 1
  | .iface _ d => uptoBulk d + 1
  | .map entries => uptoBulkEntries entries + 1
  | .held _ => 1
def uptoBulkAll {H : Type} : List (DataW H) → Nat
  | [] => 0
  | d :: r => uptoBulk d + uptoBulkAll r
def uptoBulkEntries {H : Type} : List (Lit × DataW H) → Nat
  | [] => 0
  | x :: r => uptoBulkEntry x + uptoBulkEntries r
def uptoBulkEntry {H : Type} : Lit × DataW H → Nat
  | (.string bytes, d) => bytes.length + uptoBulk d + 1
  | (_, d) => uptoBulk d + 1
 end
def uptoSmall : (H : Type) → List (DataW H) → Bool := fun _ ds => decide (uptoBulkAll ds ≤ 1048576)
def OpenSpec.upto (s : _root_.Go.ChangeSpec) : _root_.Go.OpenSpec := { _root_.Go.OpenSpec.ofChange s with cond := some uptoSmall }

/-- 'crossroadslaw11.LsaHeads', WHERE WHAT IT READS IS OF BULK AT MOST 1048576: true; the input reads as it did. -/
def lsaHeadsUptoRow : OpenClaim := { program := "ytmeppheikmgoeaa", sum := "80d0a869b1abbccbf5d92cbe0acc490ff4764b83bcf2e8b181390c7c73739ab4", func := "crossroads/crossroadslaw11.LsaHeads", spec := "lsaHeads", apart := false, narrowed := true }
def LsaHeadsUptoSaid : Prop := lsaHeadsUptoRow.holds Try.pinned (OpenSpec.upto lsaHeadsSpec)

/-- 'crossroadslaw11.LsaOrder', WHERE WHAT IT READS IS OF BULK AT MOST 1048576: true; the input reads as it did. -/
def lsaOrderUptoRow : OpenClaim := { program := "ytmeppheikmgoeaa", sum := "80d0a869b1abbccbf5d92cbe0acc490ff4764b83bcf2e8b181390c7c73739ab4", func := "crossroads/crossroadslaw11.LsaOrder", spec := "lsaOrder", apart := false, narrowed := true }
def LsaOrderUptoSaid : Prop := lsaOrderUptoRow.holds Try.pinned (OpenSpec.upto lsaOrderSpec)

/-- 'crossroadslaw11.LsaBack', WHERE WHAT IT READS IS OF BULK AT MOST 1048576: true; the input reads as it did. -/
def lsaBackUptoRow : OpenClaim := { program := "ytmeppheikmgoeaa", sum := "80d0a869b1abbccbf5d92cbe0acc490ff4764b83bcf2e8b181390c7c73739ab4", func := "crossroads/crossroadslaw11.LsaBack", spec := "lsaBack", apart := false, narrowed := true }
def LsaBackUptoSaid : Prop := lsaBackUptoRow.holds Try.pinned (OpenSpec.upto lsaBackSpec)

end Rows
end Go.Proofs.Ytmeppheikmgoeaa
