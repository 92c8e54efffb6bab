/- The program's functions as plain functions, and the plain law over them. -/
import Derived.Test.YthhklfepclgcbaaF
import Derived.Test.YthhklfepclgcbaaP
set_option linter.unusedVariables false
set_option linter.unusedSimpArgs false
set_option maxRecDepth 100000
set_option linter.unusedVariables false
open Go Go.Proofs.Fr
namespace Go.Proofs.Ythhklfepclgcbaa.F
theorem bytes_Join.fp (a : (List (List Int) × List Int × Unit)) : bytes_Join.f a = bytes_Join.p a := by kernel_rfl
theorem head_isType.fp (a : Int × Unit) : head_isType.f a = head_isType.p a := by
  rw [head_isType.eq]
  simp only [head_isType.p] <;> rfl
theorem head_May.fp (a : (Int × Int × Int × Int × (Int × Int × Int × Int × Int × Int × Int × Int × Unit) × (List Int) × Unit) × Unit) : head_May.f a = head_May.p a := by
  rw [head_May.eq]
  simp only [head_May.p, head_isType.fp] <;> rfl
theorem octet_isMany.fp (a : Int × Unit) : octet_isMany.f a = octet_isMany.p a := by
  rw [octet_isMany.eq]
  simp only [octet_isMany.p] <;> rfl
theorem octet_Put.fp (a : (List Int) × Int × Int × Unit) : octet_Put.f a = octet_Put.p a := by
  rw [octet_Put.eq]
  simp only [octet_Put.p, octet_isMany.fp, rounds_eq] <;> rfl
theorem head_ahead.fp (a : (Int × Int × Int × Int × (Int × Int × Int × Int × Int × Int × Int × Int × Unit) × (List Int) × Unit) × Int × Unit) : head_ahead.f a = head_ahead.p a := by
  rw [head_ahead.eq]
  simp only [head_ahead.p, octet_Put.fp, rounds_eq] <;> rfl
theorem sum_Internet.fp (a : (List Int) × Unit) : sum_Internet.f a = sum_Internet.p a := by
  rw [sum_Internet.eq]
  simp only [sum_Internet.p, rounds_eq] <;> rfl
theorem head_check.fp (a : (Int × Int × Int × Int × (Int × Int × Int × Int × Int × Int × Int × Int × Unit) × (List Int) × Unit) × Unit) : head_check.f a = head_check.p a := by
  rw [head_check.eq]
  simp only [head_check.p, head_ahead.fp, sum_Internet.fp] <;> rfl
theorem head_Encode.fp (a : (Int × Int × Int × Int × (Int × Int × Int × Int × Int × Int × Int × Int × Unit) × (List Int) × Unit) × Unit) : head_Encode.f a = head_Encode.p a := by
  rw [head_Encode.eq]
  simp only [head_Encode.p, bytes_Join.fp, head_May.fp, head_ahead.fp, head_check.fp] <;> rfl
theorem bytes_Clone.fp (a : (List Int) × Unit) : bytes_Clone.f a = bytes_Clone.p a := by
  rw [bytes_Clone.eq]
  obtain ⟨l, u⟩ := a
  cases l with
  | nil => simp [both, bytes_Clone.p]
  | cons x l => simp [bytes_Clone.p]
theorem octet_Cut.fp (a : (List Int) × Int × Unit) : octet_Cut.f a = octet_Cut.p a := by
  rw [octet_Cut.eq]
  simp only [octet_Cut.p, bytes_Clone.fp] <;> rfl
theorem octet_number.fp (a : (List Int) × Unit) : octet_number.f a = octet_number.p a := by
  rw [octet_number.eq]
  simp only [octet_number.p, rounds_eq] <;> rfl
theorem octet_Take.fp (a : (List Int) × Int × Unit) : octet_Take.f a = octet_Take.p a := by
  rw [octet_Take.eq]
  simp only [octet_Take.p, octet_Cut.fp, octet_isMany.fp, octet_number.fp] <;> rfl
theorem head_field.fp (a : (List Int) × Int × Int × Unit) : head_field.f a = head_field.p a := by
  rw [head_field.eq]
  simp only [head_field.p, octet_Take.fp] <;> rfl
theorem head_Decode.fp (a : (List Int) × Unit) : head_Decode.f a = head_Decode.p a := by
  rw [head_Decode.eq]
  simp only [head_Decode.p, bytes_Clone.fp, head_check.fp, head_field.fp, head_isType.fp] <;> rfl
theorem law09_alive.fp (a : Unit) : law09_alive.f a = law09_alive.p a := by
  rw [law09_alive.eq]
  simp only [law09_alive.p, head_Decode.fp, head_Encode.fp] <;> rfl
theorem ref09_Same.fp (a : (Int × Int × Int × Int × (Int × Int × Int × Int × Int × Int × Int × Int × Unit) × (List Int) × Unit) × (Int × Int × Int × Int × (Int × Int × Int × Int × Int × Int × Int × Int × Unit) × (List Int) × Unit) × Unit) : ref09_Same.f a = ref09_Same.p a := by
  rw [ref09_Same.eq]
  simp only [ref09_Same.p] <;> rfl
theorem law09_HeadBack.fp (a : (Int × Int × Int × Int × (Int × Int × Int × Int × Int × Int × Int × Int × Unit) × (List Int) × Unit) × Int × Int × Unit) : law09_HeadBack.f a = law09_HeadBack.p a := by
  rw [law09_HeadBack.eq]
  simp only [law09_HeadBack.p, head_Decode.fp, head_Encode.fp, head_May.fp, law09_alive.fp, ref09_Same.fp] <;> rfl
end Go.Proofs.Ythhklfepclgcbaa.F
