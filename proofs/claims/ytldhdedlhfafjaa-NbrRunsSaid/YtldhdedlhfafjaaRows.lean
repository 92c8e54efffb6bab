/-
  No cell of these rows narrows 'for every input' (looked for: loops, veiled, ifaces, maps, wideKeys, modest, calm, conditions, laid).
  DERIVED. THE GIVEN ROWS OF THIS SEAT. 4 by the template 'for every input the law returns true; each argument reads behind the call as it read before'; 0 by the template 'total and deterministic' (their statements: YtldhdedlhfafjaaTotals.lean).
  GIVEN WITH THE SEED: the statements are not yours to turn. If you find one false, say at which input.
  Laid BY PROGRAM, IN A SANDBOX (cutbox-rows.mjs): the forced cells as the released guide's own fill.sh prints them over the translation 342a8107c312443f… (all of the seat's roots in one cut). By AI agents, Wed Nov 11 2026. No macro, syntax, notation, axiom, sorry.
-/
import Derived.Test.YtldhdedlhfafjaaChecked
import GoSem.Claim
import GoSem.ClaimJoined
import GoSem.ClaimMapViews
import Derived.JoinedTies
import Derived.KernelRfl
namespace Go.Proofs.Ytldhdedlhfafjaa
/- THE CELL 'sum', in the pinned program and in every row, IS THE sha256 OF THE DUMP (.gsa) THAT YtldhdedlhfafjaaProg.lean LOADS. Nothing in Lean hashes anything: it is a label: what it is worth is what the hold of that sum in a sandbox is worth. -/
noncomputable def Try.pinned : Pinned := { name := "ytldhdedlhfafjaa", sum := "342a8107c312443f19e64160be84a08bbef011973fdca6818a35567d7793ed1e", checked := Try.checked }
namespace Rows
def none {H : Type} : Left H := { results := [], args := [] }

/-- 'crossroadslaw16.NbrAll': WHATEVER THE INPUT: true; the input reads as it did. -/
def nbrAllSpec : ChangeSpec := { name := "nbrAll", fn := fun _ => fun
  | [d] => { results := [.lit (.bool true)], args := [d] }
  | _ => none }
def nbrAllRow : OpenClaim := { program := "ytldhdedlhfafjaa", sum := "342a8107c312443f19e64160be84a08bbef011973fdca6818a35567d7793ed1e", func := "crossroads/crossroadslaw16.NbrAll", spec := "nbrAll", unfollowed := true, recurses := true, apart := false }
def NbrAllSaid : Prop := nbrAllRow.holds Try.pinned (OpenSpec.ofChange nbrAllSpec)

/-- ITS FALSE NEIGHBOUR: 'it returns false'. Refute it at one input. -/
def nbrAllWrong : ChangeSpec := { name := "nbrAll", fn := fun _ => fun
  | [d] => { results := [.lit (.bool false)], args := [d] }
  | _ => none }
def NbrAllWrongFalsely : Prop := nbrAllRow.holds Try.pinned (OpenSpec.ofChange nbrAllWrong)

/-- 'crossroadslaw16.NbrFull': WHATEVER THE INPUT: true; the input reads as it did. -/
def nbrFullSpec : ChangeSpec := { name := "nbrFull", fn := fun _ => fun
  | [d1, d2] => { results := [.lit (.bool true)], args := [d1, d2] }
  | _ => none }
def nbrFullRow : OpenClaim := { program := "ytldhdedlhfafjaa", sum := "342a8107c312443f19e64160be84a08bbef011973fdca6818a35567d7793ed1e", func := "crossroads/crossroadslaw16.NbrFull", spec := "nbrFull", unfollowed := true, recurses := true, apart := false }
def NbrFullSaid : Prop := nbrFullRow.holds Try.pinned (OpenSpec.ofChange nbrFullSpec)

/-- ITS FALSE NEIGHBOUR: 'it returns false'. Refute it at one input. -/
def nbrFullWrong : ChangeSpec := { name := "nbrFull", fn := fun _ => fun
  | [d1, d2] => { results := [.lit (.bool false)], args := [d1, d2] }
  | _ => none }
def NbrFullWrongFalsely : Prop := nbrFullRow.holds Try.pinned (OpenSpec.ofChange nbrFullWrong)

/-- 'crossroadslaw16.NbrSteps': WHATEVER THE INPUT: true; the input reads as it did. -/
def nbrStepsSpec : ChangeSpec := { name := "nbrSteps", fn := fun _ => fun
  | [d1, d2, d3] => { results := [.lit (.bool true)], args := [d1, d2, d3] }
  | _ => none }
def nbrStepsRow : OpenClaim := { program := "ytldhdedlhfafjaa", sum := "342a8107c312443f19e64160be84a08bbef011973fdca6818a35567d7793ed1e", func := "crossroads/crossroadslaw16.NbrSteps", spec := "nbrSteps", unfollowed := true, recurses := true, apart := false }
def NbrStepsSaid : Prop := nbrStepsRow.holds Try.pinned (OpenSpec.ofChange nbrStepsSpec)

/-- ITS FALSE NEIGHBOUR: 'it returns false'. Refute it at one input. -/
def nbrStepsWrong : ChangeSpec := { name := "nbrSteps", fn := fun _ => fun
  | [d1, d2, d3] => { results := [.lit (.bool false)], args := [d1, d2, d3] }
  | _ => none }
def NbrStepsWrongFalsely : Prop := nbrStepsRow.holds Try.pinned (OpenSpec.ofChange nbrStepsWrong)

/-- 'crossroadslaw16.NbrRuns': WHATEVER THE INPUT: true; the input reads as it did. -/
def nbrRunsSpec : ChangeSpec := { name := "nbrRuns", fn := fun _ => fun
  | [d1, d2] => { results := [.lit (.bool true)], args := [d1, d2] }
  | _ => none }
def nbrRunsRow : OpenClaim := { program := "ytldhdedlhfafjaa", sum := "342a8107c312443f19e64160be84a08bbef011973fdca6818a35567d7793ed1e", func := "crossroads/crossroadslaw16.NbrRuns", spec := "nbrRuns", unfollowed := true, recurses := true, apart := false }
def NbrRunsSaid : Prop := nbrRunsRow.holds Try.pinned (OpenSpec.ofChange nbrRunsSpec)

/-- ITS FALSE NEIGHBOUR: 'it returns false'. Refute it at one input. -/
def nbrRunsWrong : ChangeSpec := { name := "nbrRuns", fn := fun _ => fun
  | [d1, d2] => { results := [.lit (.bool false)], args := [d1, d2] }
  | _ => none }
def NbrRunsWrongFalsely : Prop := nbrRunsRow.holds Try.pinned (OpenSpec.ofChange nbrRunsWrong)

/- THE SECOND FORM. 'bulk': how many values and letters a reading holds, each counted each time it is reached (what is shared counts as often as it is met; a slice's spare places count too). A statement '..UptoSaid' is the law's where the arguments, and the package variables that the reading takes, are together of bulk at most 1048576: NARROWER than '..Said'. Prove '..Said' where nothing that the law and all that it calls make is longer than what came in: it says more and counts as full. Else prove '..UptoSaid'. A law counts once. -/
mutual
def uptoBulk {H : Type} : DataW H → Nat
  | .lit (.string bytes) => bytes.length + 1
  | .lit _ => 1
  | .nil => 1
  | .ptr d => uptoBulk d + 1
  | .slice elems spare => uptoBulkAll elems + uptoBulkAll spare + 1
  | .agg parts => uptoBulkAll parts + 1
  | .iface _ d => uptoBulk d + 1
  | .map entries => uptoBulkEntries entries + 1
  | .held _ => 1
def uptoBulkAll {H : Type} : List (DataW H) → Nat
  | [] => 0
  | d :: r => uptoBulk d + uptoBulkAll r
def uptoBulkEntries {H : Type} : List (Lit × DataW H) → Nat
  | [] => 0
  | x :: r => uptoBulkEntry x + uptoBulkEntries r
def uptoBulkEntry {H : Type} : Lit × DataW H → Nat
  | (.string bytes, d) => bytes.length + uptoBulk d + 1
  | (_, d) => uptoBulk d + 1
 end
def uptoSmall : (H : Type) → List (DataW H) → Bool := fun _ ds => decide (uptoBulkAll ds ≤ 1048576)
def OpenSpec.upto (s : _root_.Go.ChangeSpec) : _root_.Go.OpenSpec := { _root_.Go.OpenSpec.ofChange s with cond := some uptoSmall }

/-- 'crossroadslaw16.NbrAll', WHERE WHAT IT READS IS OF BULK AT MOST 1048576: true; the input reads as it did. -/
def nbrAllUptoRow : OpenClaim := { program := "ytldhdedlhfafjaa", sum := "342a8107c312443f19e64160be84a08bbef011973fdca6818a35567d7793ed1e", func := "crossroads/crossroadslaw16.NbrAll", spec := "nbrAll", unfollowed := true, recurses := true, apart := false, narrowed := true }
def NbrAllUptoSaid : Prop := nbrAllUptoRow.holds Try.pinned (OpenSpec.upto nbrAllSpec)

/-- 'crossroadslaw16.NbrFull', WHERE WHAT IT READS IS OF BULK AT MOST 1048576: true; the input reads as it did. -/
def nbrFullUptoRow : OpenClaim := { program := "ytldhdedlhfafjaa", sum := "342a8107c312443f19e64160be84a08bbef011973fdca6818a35567d7793ed1e", func := "crossroads/crossroadslaw16.NbrFull", spec := "nbrFull", unfollowed := true, recurses := true, apart := false, narrowed := true }
def NbrFullUptoSaid : Prop := nbrFullUptoRow.holds Try.pinned (OpenSpec.upto nbrFullSpec)

/-- 'crossroadslaw16.NbrSteps', WHERE WHAT IT READS IS OF BULK AT MOST 1048576: true; the input reads as it did. -/
def nbrStepsUptoRow : OpenClaim := { program := "ytldhdedlhfafjaa", sum := "342a8107c312443f19e64160be84a08bbef011973fdca6818a35567d7793ed1e", func := "crossroads/crossroadslaw16.NbrSteps", spec := "nbrSteps", unfollowed := true, recurses := true, apart := false, narrowed := true }
def NbrStepsUptoSaid : Prop := nbrStepsUptoRow.holds Try.pinned (OpenSpec.upto nbrStepsSpec)

/-- 'crossroadslaw16.NbrRuns', WHERE WHAT IT READS IS OF BULK AT MOST 1048576: true; the input reads as it did. -/
def nbrRunsUptoRow : OpenClaim := { program := "ytldhdedlhfafjaa", sum := "342a8107c312443f19e64160be84a08bbef011973fdca6818a35567d7793ed1e", func := "crossroads/crossroadslaw16.NbrRuns", spec := "nbrRuns", unfollowed := true, recurses := true, apart := false, narrowed := true }
def NbrRunsUptoSaid : Prop := nbrRunsUptoRow.holds Try.pinned (OpenSpec.upto nbrRunsSpec)

end Rows
end Go.Proofs.Ytldhdedlhfafjaa
