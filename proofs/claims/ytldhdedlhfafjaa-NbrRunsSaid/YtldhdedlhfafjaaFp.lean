/- The program's functions as plain functions, and the plain law over them. -/
import Derived.Test.YtldhdedlhfafjaaF
import Derived.Test.YtldhdedlhfafjaaP
set_option linter.unusedVariables false
set_option linter.unusedSimpArgs false
set_option maxRecDepth 100000
set_option linter.unusedVariables false
open Go Go.Proofs.Fr
namespace Go.Proofs.Ytldhdedlhfafjaa.F
theorem nbr_Step.fp (a : Int × Int × Bool × Bool × Unit) : nbr_Step.f a = nbr_Step.p a := rfl
theorem ref16_step.fp (a : Int × Int × Bool × Bool × Unit) : ref16_step.f a = ref16_step.p a := by
  rw [ref16_step.eq]
  simp only [ref16_step.p] <;> rfl
theorem ref16_Step.fp (a : Int × Int × Bool × Bool × Unit) : ref16_Step.f a = ref16_Step.p a := by
  rw [ref16_Step.eq]
  simp only [ref16_Step.p, ref16_step.fp] <;> rfl
theorem nbr_Name.fp (a : Int × Unit) : nbr_Name.f a = nbr_Name.p a := by
  rw [nbr_Name.eq]
  simp only [nbr_Name.p] <;> rfl
theorem law16_alive.fp (a : Unit) : law16_alive.f a = law16_alive.p a := by
  rw [law16_alive.eq]
  simp only [law16_alive.p, nbr_Name.fp, nbr_Step.fp] <;> rfl
theorem law16_NbrAll.fp (a : Int × Unit) : law16_NbrAll.f a = law16_NbrAll.p a := by
  rw [law16_NbrAll.eq]
  simp only [law16_NbrAll.p, law16_alive.fp, nbr_Step.fp, ref16_Step.fp, rounds_eq] <;> rfl
theorem nbr_Floods.fp (a : Int × Unit) : nbr_Floods.f a = nbr_Floods.p a := by
  rw [nbr_Floods.eq]
  simp only [nbr_Floods.p] <;> rfl
theorem law16_NbrFull.fp (a : Int × (List (Int × Bool × Bool × Unit)) × Unit) : law16_NbrFull.f a = law16_NbrFull.p a := by
  rw [law16_NbrFull.eq]
  simp only [law16_NbrFull.p, law16_alive.fp, nbr_Floods.fp, nbr_Step.fp, rounds_eq] <;> rfl
theorem ref16_Name.fp (a : Int × Unit) : ref16_Name.f a = ref16_Name.p a := by
  rw [ref16_Name.eq]
  simp only [ref16_Name.p] <;> rfl
theorem nbr_Sees.fp (a : Int × Unit) : nbr_Sees.f a = nbr_Sees.p a := by
  rw [nbr_Sees.eq]
  simp only [nbr_Sees.p] <;> rfl
theorem law16_NbrSteps.fp (a : Int × Int × (Bool × Bool × Unit) × Unit) : law16_NbrSteps.f a = law16_NbrSteps.p a := by
  rw [law16_NbrSteps.eq]
  simp only [law16_NbrSteps.p, law16_alive.fp, nbr_Floods.fp, nbr_Name.fp, nbr_Sees.fp, nbr_Step.fp, ref16_Name.fp, ref16_Step.fp] <;> rfl
theorem nbr_Run.fp (a : Int × (List (Int × Bool × Bool × Unit)) × Unit) : nbr_Run.f a = nbr_Run.p a := by
  rw [nbr_Run.eq]
  simp only [nbr_Run.p, nbr_Step.fp, rounds_eq] <;> rfl
theorem law16_rows.fp (a : (List (Int × Bool × Bool × Unit)) × Unit) : law16_rows.f a = law16_rows.p a := by
  rw [law16_rows.eq]
  simp only [law16_rows.p, rounds_eq] <;> rfl
theorem ref16_Run.fp (a : Int × (List (Int × Bool × Bool × Unit)) × Unit) : ref16_Run.f a = ref16_Run.p a := by
  rw [ref16_Run.eq]
  simp only [ref16_Run.p, ref16_Step.fp, rounds_eq] <;> rfl
theorem law16_NbrRuns.fp (a : Int × (List (Int × Bool × Bool × Unit)) × Unit) : law16_NbrRuns.f a = law16_NbrRuns.p a := by
  rw [law16_NbrRuns.eq]
  simp only [law16_NbrRuns.p, law16_alive.fp, law16_rows.fp, nbr_Run.fp, ref16_Run.fp] <;> rfl
end Go.Proofs.Ytldhdedlhfafjaa.F
