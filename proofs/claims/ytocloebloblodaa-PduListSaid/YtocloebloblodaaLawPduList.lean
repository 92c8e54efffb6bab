/- PduList holds: for every argument that the row's statement allows, the law answers true and leaves its arguments as they were. Its walk is the frame's (law_run), its plain law pduListW. -/
import Derived.Test.YtocloebloblodaaRows
import Derived.Test.YtocloebloblodaaFp
import Derived.Test.YtocloebloblodaaLLst4
import Derived.Test.YtocloebloblodaaFrd
import Derived.WalkKit
import Derived.ProofKit
import Derived.OpenShut
import Derived.ChangeOld
import Derived.Below
import Derived.SizedLaws
import Derived.Carry
set_option linter.unusedVariables false
set_option linter.unusedSimpArgs false
namespace Go.Proofs.Ytocloebloblodaa.pduList
open Go.ChangeShapes Go.WideShapes Go.ChangeAt Go.RowKit Go.Proofs.Fr
set_option linter.unusedVariables false
theorem own : ownKnob Try.prog.godebug = none := by kernel_rfl
theorem laidOut : laidOutB Try.prog = true := by kernel_rfl
theorem pure_ (x : dens (List.map K.v [(.cons (.int .i64) (.cons .bool (.cons (.int .u64) (.cons (.int .u64) (.cons (.int .u64) (.cons (.sl 111 (.cons (.int .i64) (.cons (.int .u64) (.cons (.int .u32) (.cons (.int .i64) .nil))))) .nil)))))), (.sl 5 (.int .u8))])) (h : WfA Try.prog [(.cons (.int .i64) (.cons .bool (.cons (.int .u64) (.cons (.int .u64) (.cons (.int .u64) (.cons (.sl 111 (.cons (.int .i64) (.cons (.int .u64) (.cons (.int .u32) (.cons (.int .i64) .nil))))) .nil)))))), (.sl 5 (.int .u8))] x) : ∃ y, F.law22_PduList.f x = some y ∧ y.1 = true := by
  rw [F.law22_PduList.fp]
  exact F.pduListW h
set_option maxRecDepth 100000 in
theorem lifted (os : Os) (started : os.Started) (H : Type) (enc : TypeId × Value → H) :
    ReturnsInHanded {} Try.checked os 6 .any (Rows.pduListSpec.pre6 enc Try.prog Try.f6 Rows.pduListRow.domain false) (Rows.pduListSpec.post enc Try.prog Try.f6 false true false false) := by
  refine returnsInHanded_of_change_sized (C := Try.checked) own started (by kernel_rfl) Try.func6
    (ChangeSpec.witness6 (enc := enc) (C := Try.checked) false ⟨#[], #[.agg #[.int .i64 0, .bool false, .int .u64 0, .int .u64 0, .int .u64 0, .slice none 0 0], .slice none 0 0], []⟩ 8 (by kernel_rfl) (by kernel_rfl) (by kernel_rfl) (by kernel_rfl)) ?_
  intro W base args ds gs before hval0 hW hcnd hsz0 _
  have hsz : (DataW.weightsEach Try.prog (Try.f6.params.toList ++ Rows.pduListSpec.plain.varTypes Try.prog) (ds ++ gs)).all (· ≤ reachBytes) = true := hsz0
  have hval : ∀ (j : Nat) t v, Try.f6.params[j]? = some t → args[j]? = some v → Value.okWide Try.prog W .any base t v := hval0
  have hW' := hW
  obtain ⟨p, q, hA0, hV, rfl, hfz, hnd⟩ := hW
  have hA : DataW.TrodAll enc Try.prog W 0 (fun _ => true) true Try.f6.params.toList args.toList ds p := hA0
  obtain ⟨rfl, rfl⟩ := trodVars_none hV
  rw [Try.params6] at hA hval hsz
  obtain ⟨x, hx, ha, hback⟩ := args_law (Ts := [64, 27]) (ts := [(.cons (.int .i64) (.cons .bool (.cons (.int .u64) (.cons (.int .u64) (.cons (.int .u64) (.cons (.sl 111 (.cons (.int .i64) (.cons (.int .u64) (.cons (.int .u32) (.cons (.int .i64) .nil))))) .nil)))))), (.sl 5 (.int .u8))]) laidOut (by kernel_rfl) hA (fun j t v h1 h2 => hval j t v (by simpa using h1) (by simpa using h2)) (fun j t d h1 h2 => weights_arg' (j := j) hsz (by rw [List.getElem?_append_left (List.getElem?_eq_some_iff.1 h1).1]; exact h1) (by rw [List.getElem?_append_left (List.getElem?_eq_some_iff.1 h2).1]; exact h2))
  obtain ⟨v0, vs0, d0, ds0, p0, q0, hargs, rfl, rfl, _, r0⟩ := trodAll_cons hA
  obtain ⟨v1, vs1, d1, ds1, p1, q1, rfl, rfl, rfl, _, r1⟩ := trodAll_cons r0
  obtain ⟨rfl, rfl, rfl⟩ := trodAll_nil r1
  clear hA0 hval0 hsz0 hsz
  refine (law_run F.law22_PduList.sound pure_ hx ha).mono fun e W' ⟨he, bel⟩ => ?_
  subst he
  exact ⟨_, rfl, _, _, _, [], _, [], hW', trodAll_mk1 (shut_bool Try.underlying4 _), hback W' bel, rfl, bel.frame _, fun h => by cases h⟩
theorem over : Rows.pduListRow.holds Try.pinned (OpenSpec.ofChange Rows.pduListSpec) :=
  OpenClaim.holds_of_wide 6 Try.f6 rfl rfl rfl rfl rfl rfl rfl ⟨rfl, rfl, rfl, rfl, rfl⟩ rfl rfl rfl rfl rfl (by kernel_rfl) Try.func6 (by kernel_rfl)
    (of_decide_eq_true (by kernel_rfl)) (by unfold Func.isWrapper; first | (rw [if_pos (by decide +kernel)]; kernel_rfl) | (rw [if_neg (by decide +kernel)]; exact ⟨rfl, rfl⟩))
    (fun os started H enc _ => lifted os started H enc)
theorem proved : Rows.PduListSaid := over
#print axioms proved
end Go.Proofs.Ytocloebloblodaa.pduList
namespace Go.Proofs.Ytocloebloblodaa
/-- The row, under a short name, for the claim. -/
theorem pduList_holds : Rows.PduListSaid := pduList.proved
end Go.Proofs.Ytocloebloblodaa
