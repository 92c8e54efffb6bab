/-
  No cell of these rows narrows 'for every input' (looked for: loops, veiled, ifaces, maps, wideKeys, modest, calm, conditions, laid).
  DERIVED. THE GIVEN ROWS OF THIS SEAT. 5 by the template 'for every input the law returns true; each argument reads behind the call as it read before'; 0 by the template 'total and deterministic' (their statements: YtmmkdalbcfjogaaTotals.lean).
  GIVEN WITH THE SEED: the statements are not yours to turn. If you find one false, say at which input.
  Laid BY PROGRAM, IN A SANDBOX (cutbox-rows.mjs): the forced cells as the released guide's own fill.sh prints them over the translation c7a147e8cdc6d59f… (all of the seat's roots in one cut). By AI agents, Wed Nov 11 2026. No macro, syntax, notation, axiom, sorry.
-/
import Derived.Test.YtmmkdalbcfjogaaChecked
import GoSem.Claim
import GoSem.ClaimJoined
import GoSem.ClaimMapViews
import Derived.JoinedTies
import Derived.KernelRfl
namespace Go.Proofs.Ytmmkdalbcfjogaa
/- THE CELL 'sum', in the pinned program and in every row, IS THE sha256 OF THE DUMP (.gsa) THAT YtmmkdalbcfjogaaProg.lean LOADS. Nothing in Lean hashes anything: it is a label: what it is worth is what the hold of that sum in a sandbox is worth. -/
noncomputable def Try.pinned : Pinned := { name := "ytmmkdalbcfjogaa", sum := "c7a147e8cdc6d59ff237fb662e95a2ec88808ee417187d535c051c8e01e12562", checked := Try.checked }
namespace Rows
def none {H : Type} : Left H := { results := [], args := [] }

/-- 'crossroadslaw13.DbdAds': WHATEVER THE INPUT: true; the input reads as it did. -/
def dbdAdsSpec : ChangeSpec := { name := "dbdAds", fn := fun _ => fun
  | [d1, d2] => { results := [.lit (.bool true)], args := [d1, d2] }
  | _ => none }
def dbdAdsRow : OpenClaim := { program := "ytmmkdalbcfjogaa", sum := "c7a147e8cdc6d59ff237fb662e95a2ec88808ee417187d535c051c8e01e12562", func := "crossroads/crossroadslaw13.DbdAds", spec := "dbdAds", apart := false }
def DbdAdsSaid : Prop := dbdAdsRow.holds Try.pinned (OpenSpec.ofChange dbdAdsSpec)

/-- ITS FALSE NEIGHBOUR: 'it returns false'. Refute it at one input. -/
def dbdAdsWrong : ChangeSpec := { name := "dbdAds", fn := fun _ => fun
  | [d1, d2] => { results := [.lit (.bool false)], args := [d1, d2] }
  | _ => none }
def DbdAdsWrongFalsely : Prop := dbdAdsRow.holds Try.pinned (OpenSpec.ofChange dbdAdsWrong)

/-- 'crossroadslaw13.DbdAck': WHATEVER THE INPUT: true; the input reads as it did. -/
def dbdAckSpec : ChangeSpec := { name := "dbdAck", fn := fun _ => fun
  | [d1, d2] => { results := [.lit (.bool true)], args := [d1, d2] }
  | _ => none }
def dbdAckRow : OpenClaim := { program := "ytmmkdalbcfjogaa", sum := "c7a147e8cdc6d59ff237fb662e95a2ec88808ee417187d535c051c8e01e12562", func := "crossroads/crossroadslaw13.DbdAck", spec := "dbdAck", apart := false }
def DbdAckSaid : Prop := dbdAckRow.holds Try.pinned (OpenSpec.ofChange dbdAckSpec)

/-- ITS FALSE NEIGHBOUR: 'it returns false'. Refute it at one input. -/
def dbdAckWrong : ChangeSpec := { name := "dbdAck", fn := fun _ => fun
  | [d1, d2] => { results := [.lit (.bool false)], args := [d1, d2] }
  | _ => none }
def DbdAckWrongFalsely : Prop := dbdAckRow.holds Try.pinned (OpenSpec.ofChange dbdAckWrong)

/-- 'crossroadslaw13.DbdPack': WHATEVER THE INPUT: true; the input reads as it did. -/
def dbdPackSpec : ChangeSpec := { name := "dbdPack", fn := fun _ => fun
  | [d] => { results := [.lit (.bool true)], args := [d] }
  | _ => none }
def dbdPackRow : OpenClaim := { program := "ytmmkdalbcfjogaa", sum := "c7a147e8cdc6d59ff237fb662e95a2ec88808ee417187d535c051c8e01e12562", func := "crossroads/crossroadslaw13.DbdPack", spec := "dbdPack", apart := false }
def DbdPackSaid : Prop := dbdPackRow.holds Try.pinned (OpenSpec.ofChange dbdPackSpec)

/-- ITS FALSE NEIGHBOUR: 'it returns false'. Refute it at one input. -/
def dbdPackWrong : ChangeSpec := { name := "dbdPack", fn := fun _ => fun
  | [d] => { results := [.lit (.bool false)], args := [d] }
  | _ => none }
def DbdPackWrongFalsely : Prop := dbdPackRow.holds Try.pinned (OpenSpec.ofChange dbdPackWrong)

/-- 'crossroadslaw13.DbdAsk': WHATEVER THE INPUT: true; the input reads as it did. -/
def dbdAskSpec : ChangeSpec := { name := "dbdAsk", fn := fun _ => fun
  | [d1, d2] => { results := [.lit (.bool true)], args := [d1, d2] }
  | _ => none }
def dbdAskRow : OpenClaim := { program := "ytmmkdalbcfjogaa", sum := "c7a147e8cdc6d59ff237fb662e95a2ec88808ee417187d535c051c8e01e12562", func := "crossroads/crossroadslaw13.DbdAsk", spec := "dbdAsk", apart := false }
def DbdAskSaid : Prop := dbdAskRow.holds Try.pinned (OpenSpec.ofChange dbdAskSpec)

/-- ITS FALSE NEIGHBOUR: 'it returns false'. Refute it at one input. -/
def dbdAskWrong : ChangeSpec := { name := "dbdAsk", fn := fun _ => fun
  | [d1, d2] => { results := [.lit (.bool false)], args := [d1, d2] }
  | _ => none }
def DbdAskWrongFalsely : Prop := dbdAskRow.holds Try.pinned (OpenSpec.ofChange dbdAskWrong)

/-- 'crossroadslaw13.DbdDesc': WHATEVER THE INPUT: true; the input reads as it did. -/
def dbdDescSpec : ChangeSpec := { name := "dbdDesc", fn := fun _ => fun
  | [d1, d2] => { results := [.lit (.bool true)], args := [d1, d2] }
  | _ => none }
def dbdDescRow : OpenClaim := { program := "ytmmkdalbcfjogaa", sum := "c7a147e8cdc6d59ff237fb662e95a2ec88808ee417187d535c051c8e01e12562", func := "crossroads/crossroadslaw13.DbdDesc", spec := "dbdDesc", apart := false }
def DbdDescSaid : Prop := dbdDescRow.holds Try.pinned (OpenSpec.ofChange dbdDescSpec)

/-- ITS FALSE NEIGHBOUR: 'it returns false'. Refute it at one input. -/
def dbdDescWrong : ChangeSpec := { name := "dbdDesc", fn := fun _ => fun
  | [d1, d2] => { results := [.lit (.bool false)], args := [d1, d2] }
  | _ => none }
def DbdDescWrongFalsely : Prop := dbdDescRow.holds Try.pinned (OpenSpec.ofChange dbdDescWrong)

/- THE SECOND FORM. 'bulk': how many values and letters a reading holds, each counted each time it is reached (what is shared counts as often as it is met; a slice's spare places count too). A statement '..UptoSaid' is the law's where the arguments, and the package variables that the reading takes, are together of bulk at most 1048576: NARROWER than '..Said'. Prove '..Said' where nothing that the law and all that it calls make is longer than what came in: it says more and counts as full. Else prove '..UptoSaid'. A law counts once. -/
mutual
def uptoBulk {H : Type} : DataW H → Nat
  | .lit (.string bytes) => bytes.length + 1
  | .lit _ => 1
  | .nil => 1
  | .ptr d => uptoBulk d + 1
  | .slice elems spare => uptoBulkAll elems + uptoBulkAll spare + 1
  | .agg parts => uptoBulkAll parts + 1
  | .iface _ d => uptoBulk d + 1
  | .map entries => uptoBulkEntries entries + 1
  | .held _ => 1
def uptoBulkAll {H : Type} : List (DataW H) → Nat
  | [] => 0
  | d :: r => uptoBulk d + uptoBulkAll r
def uptoBulkEntries {H : Type} : List (Lit × DataW H) → Nat
  | [] => 0
  | x :: r => uptoBulkEntry x + uptoBulkEntries r
def uptoBulkEntry {H : Type} : Lit × DataW H → Nat
  | (.string bytes, d) => bytes.length + uptoBulk d + 1
  | (_, d) => uptoBulk d + 1
 end
def uptoSmall : (H : Type) → List (DataW H) → Bool := fun _ ds => decide (uptoBulkAll ds ≤ 1048576)
def OpenSpec.upto (s : _root_.Go.ChangeSpec) : _root_.Go.OpenSpec := { _root_.Go.OpenSpec.ofChange s with cond := some uptoSmall }

/-- 'crossroadslaw13.DbdAds', WHERE WHAT IT READS IS OF BULK AT MOST 1048576: true; the input reads as it did. -/
def dbdAdsUptoRow : OpenClaim := { program := "ytmmkdalbcfjogaa", sum := "c7a147e8cdc6d59ff237fb662e95a2ec88808ee417187d535c051c8e01e12562", func := "crossroads/crossroadslaw13.DbdAds", spec := "dbdAds", apart := false, narrowed := true }
def DbdAdsUptoSaid : Prop := dbdAdsUptoRow.holds Try.pinned (OpenSpec.upto dbdAdsSpec)

/-- 'crossroadslaw13.DbdAck', WHERE WHAT IT READS IS OF BULK AT MOST 1048576: true; the input reads as it did. -/
def dbdAckUptoRow : OpenClaim := { program := "ytmmkdalbcfjogaa", sum := "c7a147e8cdc6d59ff237fb662e95a2ec88808ee417187d535c051c8e01e12562", func := "crossroads/crossroadslaw13.DbdAck", spec := "dbdAck", apart := false, narrowed := true }
def DbdAckUptoSaid : Prop := dbdAckUptoRow.holds Try.pinned (OpenSpec.upto dbdAckSpec)

/-- 'crossroadslaw13.DbdPack', WHERE WHAT IT READS IS OF BULK AT MOST 1048576: true; the input reads as it did. -/
def dbdPackUptoRow : OpenClaim := { program := "ytmmkdalbcfjogaa", sum := "c7a147e8cdc6d59ff237fb662e95a2ec88808ee417187d535c051c8e01e12562", func := "crossroads/crossroadslaw13.DbdPack", spec := "dbdPack", apart := false, narrowed := true }
def DbdPackUptoSaid : Prop := dbdPackUptoRow.holds Try.pinned (OpenSpec.upto dbdPackSpec)

/-- 'crossroadslaw13.DbdAsk', WHERE WHAT IT READS IS OF BULK AT MOST 1048576: true; the input reads as it did. -/
def dbdAskUptoRow : OpenClaim := { program := "ytmmkdalbcfjogaa", sum := "c7a147e8cdc6d59ff237fb662e95a2ec88808ee417187d535c051c8e01e12562", func := "crossroads/crossroadslaw13.DbdAsk", spec := "dbdAsk", apart := false, narrowed := true }
def DbdAskUptoSaid : Prop := dbdAskUptoRow.holds Try.pinned (OpenSpec.upto dbdAskSpec)

/-- 'crossroadslaw13.DbdDesc', WHERE WHAT IT READS IS OF BULK AT MOST 1048576: true; the input reads as it did. -/
def dbdDescUptoRow : OpenClaim := { program := "ytmmkdalbcfjogaa", sum := "c7a147e8cdc6d59ff237fb662e95a2ec88808ee417187d535c051c8e01e12562", func := "crossroads/crossroadslaw13.DbdDesc", spec := "dbdDesc", apart := false, narrowed := true }
def DbdDescUptoSaid : Prop := dbdDescUptoRow.holds Try.pinned (OpenSpec.upto dbdDescSpec)

end Rows
end Go.Proofs.Ytmmkdalbcfjogaa
