-- Written by this session's own program (wip/print), out of the translation.
import Derived.Test.YtgfjhkapbpagcaaRows
import Derived.Test.YtgfjhkapbpagcaaPAllx11
import Derived.Test.YtgfjhkapbpagcaaPureHelloCheck
import Derived.WalkKit
import Derived.ProofKit
import Derived.OpenShut
import Derived.ShutString
import Derived.ChangeOld
import Derived.Below
import Derived.SizedLaws
import Derived.Carry
namespace Go.Proofs.Ytgfjhkapbpagcaa.helloCheck
open Go.ChangeShapes Go.WideShapes Go.ChangeAt Go.RowKit Go.Proofs.YtgfjhkapbpagcaaW.PrintWords Go.Proofs.Ytgfjhkapbpagcaa.PAll
open Go.ChangeMaps (open_string shut_string)
set_option linter.unusedVariables false
theorem own : ownKnob Try.prog.godebug = none := by kernel_rfl
theorem laidOut : laidOutB Try.prog = true := by kernel_rfl
set_option maxRecDepth 100000 in
theorem lifted (os : Os) (started : os.Started) (H : Type) (enc : TypeId × Value → H) :
    ReturnsInHanded {} Try.checked os 5 .any (Rows.helloCheckSpec.pre6 enc Try.prog Try.f5 Rows.helloCheckRow.domain false) (Rows.helloCheckSpec.post enc Try.prog Try.f5 false true false false) := by
  refine returnsInHanded_of_change_sized (C := Try.checked) own started (by kernel_rfl) Try.func5
    (ChangeSpec.witness6 (enc := enc) (C := Try.checked) false ⟨#[], #[.agg #[.int .u32 0, .int .i64 0, .int .i64 0, .int .u32 0, .int .u32 0, .bool false], .agg #[.int .u32 0, .int .i64 0, .int .i64 0, .int .i64 0, .int .u32 0, .int .u32 0, .int .u32 0, .slice none 0 0]], []⟩ 8 (by kernel_rfl) (by kernel_rfl) (by kernel_rfl) (by kernel_rfl)) ?_
  intro W base args ds gs before hval0 hW hcnd hsz0 _
  have hsz : (DataW.weightsEach Try.prog (Try.f5.params.toList ++ Rows.helloCheckSpec.plain.varTypes Try.prog) (ds ++ gs)).all (· ≤ reachBytes) = true := hsz0
  have hval : ∀ (j : Nat) t v, Try.f5.params[j]? = some t → args[j]? = some v → Value.okWide Try.prog W .any base t v := hval0
  have hW' := hW
  obtain ⟨p, q, hA0, hV, rfl, hfz, hnd⟩ := hW
  have hA : DataW.TrodAll enc Try.prog W 0 (fun _ => true) true Try.f5.params.toList args.toList ds p := hA0
  rw [Try.params5] at hA hval hsz
  obtain ⟨v0, vs0, d0, ds0, p0, q0, hargs, rfl, rfl, h0, r0⟩ := trodAll_cons hA
  obtain ⟨v1, vs1, d1, ds1, p1, q1, rfl, rfl, rfl, h1, r1⟩ := trodAll_cons r0
  obtain ⟨rfl, rfl, rfl⟩ := trodAll_nil r1
  obtain rfl : args = #[v0, v1] := by cases args; simp_all
  obtain ⟨rfl, rfl⟩ := trodVars_none hV
  have k0 := h0
  have lt0 : ∀ x ∈ p0, x.block < W.heap.size := by obtain ⟨m, hm⟩ := k0; exact DataW.trod_lt m _ _ _ hm
  have z0 := weights_arg hsz (j := 0) (t := 43) rfl rfl
  obtain ⟨cs0, rfl, _⟩ := okWide_struct Try.underlying43 (hval 0 43 v0 rfl rfl)
  obtain ⟨b0, hK0, wf0_⟩ := Opens.at_ o43 h0 z0
  change k43.K W b0 cs0.toList at hK0
  have hcs0 := k43_open hK0
  obtain ⟨cs0⟩ := cs0
  simp only at hcs0
  subst hcs0
  have k1 := h1
  have lt1 : ∀ x ∈ p1, x.block < W.heap.size := by obtain ⟨m, hm⟩ := k1; exact DataW.trod_lt m _ _ _ hm
  have z1 := weights_arg hsz (j := 1) (t := 25) rfl rfl
  obtain ⟨cs1, rfl, _⟩ := okWide_struct Try.underlying25 (hval 1 25 v1 rfl rfl)
  obtain ⟨b1, hK1, wf1_⟩ := Opens.at_ o25 h1 z1
  change k25.K W b1 cs1.toList at hK1
  obtain ⟨A1_7, c1_7, hcs1, hc1_7, hr1_7⟩ := k25_open hK1
  obtain ⟨cs1⟩ := cs1
  simp only at hcs1
  subst hcs1
  clear hA0 hval0 hsz0 hsz
  refine (crossroadslaw10_HelloCheck.walk Pure.HelloCheck (b0.f0) (b0.f1) (b0.f2) (b0.f3) (b0.f4) (b0.f5) (b1.f0) (b1.f1) (b1.f2) (b1.f3) (b1.f4) (b1.f5) (b1.f6) A1_7 c1_7 (b1.f7) W hr1_7 hc1_7 wf0_.1 wf0_.2.1 wf0_.2.2.1 wf0_.2.2.2.1 wf0_.2.2.2.2.1 wf1_.1 wf1_.2.1 wf1_.2.2.1 wf1_.2.2.2.1 wf1_.2.2.2.2.1 wf1_.2.2.2.2.2.1 wf1_.2.2.2.2.2.2.1 wf1_.2.2.2.2.2.2.2).mono fun e W' ⟨he, bel⟩ => ?_
  subst he
  exact ⟨_, rfl, _, _, _, [], _, [], hW', trodAll_mk1 (shut_bool Try.underlying4 _), (trodAll_cons_mk (Below.trod laidOut (by kernel_rfl) (of_decide_eq_true (by kernel_rfl)) k0 bel lt0) (trodAll_cons_mk (Below.trod laidOut (by kernel_rfl) (of_decide_eq_true (by kernel_rfl)) k1 bel lt1) trodAll_mk0)), rfl, bel.frame _, fun h => by cases h⟩
theorem over : Rows.helloCheckRow.holds Try.pinned (OpenSpec.ofChange Rows.helloCheckSpec) :=
  OpenClaim.holds_of_wide 5 Try.f5 rfl rfl rfl rfl rfl rfl rfl ⟨rfl, rfl, rfl, rfl, rfl⟩ rfl rfl rfl rfl rfl (by kernel_rfl) Try.func5 (by kernel_rfl)
    (of_decide_eq_true (by kernel_rfl)) (by unfold Func.isWrapper; first | (rw [if_pos (by decide +kernel)]; kernel_rfl) | (rw [if_neg (by decide +kernel)]; exact ⟨rfl, rfl⟩))
    (fun os started H enc _ => lifted os started H enc)
theorem proved : Rows.HelloCheckSaid := over
#print axioms proved
end Go.Proofs.Ytgfjhkapbpagcaa.helloCheck
namespace Go.Proofs.Ytgfjhkapbpagcaa
/-- The row, under a short name, for the claim. -/
theorem helloCheck_holds : Rows.HelloCheckSaid := helloCheck.proved
end Go.Proofs.Ytgfjhkapbpagcaa
