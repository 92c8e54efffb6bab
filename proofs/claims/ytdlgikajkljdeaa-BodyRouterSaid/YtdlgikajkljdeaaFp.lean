/- The program's functions as plain functions, and the plain law over them. -/
import Derived.Test.YtdlgikajkljdeaaF
import Derived.Test.YtdlgikajkljdeaaP
set_option maxRecDepth 100000
set_option linter.unusedVariables false
open Go Go.Proofs.Fr
namespace Go.Proofs.Ytdlgikajkljdeaa.F
theorem math_bits_Len32.fp (a : Int × Unit) : math_bits_Len32.f a = math_bits_Len32.p a := by
  rw [math_bits_Len32.eq]
  simp only [math_bits_Len32.p] <;> rfl
theorem math_bits_LeadingZeros32.fp (a : Int × Unit) : math_bits_LeadingZeros32.f a = math_bits_LeadingZeros32.p a := by
  rw [math_bits_LeadingZeros32.eq]
  simp only [math_bits_LeadingZeros32.p, math_bits_Len32.fp] <;> rfl
theorem addr_Mask.fp (a : Int × Unit) : addr_Mask.f a = addr_Mask.p a := by
  rw [addr_Mask.eq]
  simp only [addr_Mask.p] <;> rfl
theorem addr_Long.fp (a : Int × Unit) : addr_Long.f a = addr_Long.p a := by
  rw [addr_Long.eq]
  simp only [addr_Long.p, addr_Mask.fp, math_bits_LeadingZeros32.fp] <;> rfl
theorem body_isMask.fp (a : Int × Unit) : body_isMask.f a = body_isMask.p a := by
  rw [body_isMask.eq]
  simp only [body_isMask.p, addr_Long.fp] <;> rfl
theorem body_isIn.fp (a : Int × Int × Int × Unit) : body_isIn.f a = body_isIn.p a := by
  rw [body_isIn.eq]
  simp only [body_isIn.p] <;> rfl
theorem body_isCost.fp (a : Int × Unit) : body_isCost.f a = body_isCost.p a := by
  rw [body_isCost.eq]
  simp only [body_isCost.p, body_isIn.fp] <;> rfl
theorem octet_isMany.fp (a : Int × Unit) : octet_isMany.f a = octet_isMany.p a := by
  rw [octet_isMany.eq]
  simp only [octet_isMany.p] <;> rfl
theorem octet_Put.fp (a : (List Int) × Int × Int × Unit) : octet_Put.f a = octet_Put.p a := by
  rw [octet_Put.eq]
  simp only [octet_Put.p, octet_isMany.fp, rounds_eq] <;> rfl
theorem octet_Row.fp (a : (List Int) × Int × Unit) : octet_Row.f a = octet_Row.p a := by
  rw [octet_Row.eq]
  simp only [octet_Row.p, octet_Put.fp, octet_isMany.fp, rounds_eq] <;> rfl
theorem body_Summary.fp (a : (Int × Int × Unit) × Unit) : body_Summary.f a = body_Summary.p a := by
  rw [body_Summary.eq]
  simp only [body_Summary.p, body_isCost.fp, body_isMask.fp, octet_Row.fp] <;> rfl
theorem bytes_Clone.fp (a : (List Int) × Unit) : bytes_Clone.f a = bytes_Clone.p a := by
  rw [bytes_Clone.eq]
  obtain ⟨l, u⟩ := a
  cases l with
  | nil => simp [both, bytes_Clone.p]
  | cons x l => simp [bytes_Clone.p]
theorem octet_Cut.fp (a : (List Int) × Int × Unit) : octet_Cut.f a = octet_Cut.p a := by
  rw [octet_Cut.eq]
  simp only [octet_Cut.p, bytes_Clone.fp] <;> rfl
theorem octet_number.fp (a : (List Int) × Unit) : octet_number.f a = octet_number.p a := by
  rw [octet_number.eq]
  simp only [octet_number.p, rounds_eq] <;> rfl
theorem octet_Take.fp (a : (List Int) × Int × Unit) : octet_Take.f a = octet_Take.p a := by
  rw [octet_Take.eq]
  simp only [octet_Take.p, octet_Cut.fp, octet_isMany.fp, octet_number.fp] <;> rfl
theorem octet_Rows.fp (a : (List Int) × Int × Unit) : octet_Rows.f a = octet_Rows.p a := by
  rw [octet_Rows.eq]
  simp only [octet_Rows.p, octet_isMany.fp, octet_number.fp, rounds_eq] <;> rfl
theorem body_mayRouter.fp (a : (Int × (List (Int × Int × Int × Int × Unit)) × Unit) × Unit) : body_mayRouter.f a = body_mayRouter.p a := by
  rw [body_mayRouter.eq]
  simp only [body_mayRouter.p, body_isIn.fp, rounds_eq] <;> rfl
theorem body_ReadRouter.fp (a : (List Int) × Unit) : body_ReadRouter.f a = body_ReadRouter.p a := by
  rw [body_ReadRouter.eq]
  simp only [body_ReadRouter.p, body_mayRouter.fp, octet_Rows.fp, octet_Take.fp, rounds_eq] <;> rfl
theorem body_ReadNetwork.fp (a : (List Int) × Unit) : body_ReadNetwork.f a = body_ReadNetwork.p a := by
  rw [body_ReadNetwork.eq]
  simp only [body_ReadNetwork.p, body_isMask.fp, octet_Rows.fp] <;> rfl
theorem body_rows.fp (a : (List Int) × Int × Unit) : body_rows.f a = body_rows.p a := by
  rw [body_rows.eq]
  simp only [body_rows.p, body_isMask.fp, octet_Rows.fp] <;> rfl
theorem body_ReadSummary.fp (a : (List Int) × Unit) : body_ReadSummary.f a = body_ReadSummary.p a := by
  rw [body_ReadSummary.eq]
  simp only [body_ReadSummary.p, body_rows.fp] <;> rfl
theorem body_ReadExternal.fp (a : (List Int) × Unit) : body_ReadExternal.f a = body_ReadExternal.p a := by
  rw [body_ReadExternal.eq]
  simp only [body_ReadExternal.p, body_rows.fp] <;> rfl
theorem body_Right.fp (a : ((Int × Int × Int × Int × Int × Int × Int × Int × Unit) × (List Int) × Unit) × Unit) : body_Right.f a = body_Right.p a := by
  rw [body_Right.eq]
  simp only [body_Right.p, body_ReadExternal.fp, body_ReadNetwork.fp, body_ReadRouter.fp, body_ReadSummary.fp] <;> rfl
theorem law12_alive.fp (a : Unit) : law12_alive.f a = law12_alive.p a := by
  rw [law12_alive.eq]
  simp only [law12_alive.p, body_Right.fp, body_Summary.fp] <;> rfl
theorem ref03_Mask.fp (a : Int × Unit) : ref03_Mask.f a = ref03_Mask.p a := by
  rw [ref03_Mask.eq]
  simp only [ref03_Mask.p, rounds_eq] <;> rfl
theorem ref03_Long.fp (a : Int × Unit) : ref03_Long.f a = ref03_Long.p a := by
  rw [ref03_Long.eq]
  simp only [ref03_Long.p, ref03_Mask.fp, rounds_eq] <;> rfl
theorem ref12_isMask.fp (a : Int × Unit) : ref12_isMask.f a = ref12_isMask.p a := by
  rw [ref12_isMask.eq]
  simp only [ref12_isMask.p, ref03_Long.fp] <;> rfl
theorem ref12_cost.fp (a : Int × Unit) : ref12_cost.f a = ref12_cost.p a := by
  rw [ref12_cost.eq]
  simp only [ref12_cost.p] <;> rfl
theorem ref01_Four.fp (a : Int × Unit) : ref01_Four.f a = ref01_Four.p a := by
  rw [ref01_Four.eq]
  simp only [ref01_Four.p] <;> rfl
theorem ref12_Summary.fp (a : (Int × Int × Unit) × Unit) : ref12_Summary.f a = ref12_Summary.p a := by
  rw [ref12_Summary.eq]
  simp only [ref12_Summary.p, ref01_Four.fp, ref12_cost.fp, ref12_isMask.fp] <;> rfl
theorem ref01_Take.fp (a : (List Int) × Int × Unit) : ref01_Take.f a = ref01_Take.p a := by
  rw [ref01_Take.eq]
  simp only [ref01_Take.p, rounds_eq] <;> rfl
theorem ref01_Rows.fp (a : (List Int) × Int × Unit) : ref01_Rows.f a = ref01_Rows.p a := by
  rw [ref01_Rows.eq]
  simp only [ref01_Rows.p, ref01_Take.fp, rounds_eq] <;> rfl
theorem ref12_ReadSummary.fp (a : (List Int) × Unit) : ref12_ReadSummary.f a = ref12_ReadSummary.p a := by
  rw [ref12_ReadSummary.eq]
  simp only [ref12_ReadSummary.p, ref01_Rows.fp, ref12_isMask.fp] <;> rfl
theorem law12_BodySummary.fp (a : (Int × Int × Unit) × (List Int) × Unit) : law12_BodySummary.f a = law12_BodySummary.p a := by
  rw [law12_BodySummary.eq]
  simp only [law12_BodySummary.p, body_ReadSummary.fp, body_Summary.fp, law12_alive.fp, ref12_ReadSummary.fp, ref12_Summary.fp] <;> rfl
theorem ref12_MayRouter.fp (a : (Int × (List (Int × Int × Int × Int × Unit)) × Unit) × Unit) : ref12_MayRouter.f a = ref12_MayRouter.p a := by
  rw [ref12_MayRouter.eq]
  simp only [ref12_MayRouter.p, rounds_eq] <;> rfl
theorem ref12_ReadRouter.fp (a : (List Int) × Unit) : ref12_ReadRouter.f a = ref12_ReadRouter.p a := by
  rw [ref12_ReadRouter.eq]
  simp only [ref12_ReadRouter.p, ref01_Rows.fp, ref12_MayRouter.fp, rounds_eq] <;> rfl
theorem ref12_ReadNetwork.fp (a : (List Int) × Unit) : ref12_ReadNetwork.f a = ref12_ReadNetwork.p a := by
  rw [ref12_ReadNetwork.eq]
  simp only [ref12_ReadNetwork.p, ref01_Rows.fp, ref12_isMask.fp] <;> rfl
theorem ref12_ReadExternal.fp (a : (List Int) × Unit) : ref12_ReadExternal.f a = ref12_ReadExternal.p a := by
  rw [ref12_ReadExternal.eq]
  simp only [ref12_ReadExternal.p, ref01_Rows.fp, ref12_isMask.fp] <;> rfl
theorem ref12_Right.fp (a : ((Int × Int × Int × Int × Int × Int × Int × Int × Unit) × (List Int) × Unit) × Unit) : ref12_Right.f a = ref12_Right.p a := by
  rw [ref12_Right.eq]
  simp only [ref12_Right.p, ref12_ReadExternal.fp, ref12_ReadNetwork.fp, ref12_ReadRouter.fp, ref12_ReadSummary.fp] <;> rfl
theorem law12_BodyRight.fp (a : ((Int × Int × Int × Int × Int × Int × Int × Int × Unit) × (List Int) × Unit) × Unit) : law12_BodyRight.f a = law12_BodyRight.p a := by
  rw [law12_BodyRight.eq]
  simp only [law12_BodyRight.p, body_Right.fp, law12_alive.fp, ref12_Right.fp] <;> rfl
theorem body_Router.fp (a : (Int × (List (Int × Int × Int × Int × Unit)) × Unit) × Unit) : body_Router.f a = body_Router.p a := by
  rw [body_Router.eq]
  simp only [body_Router.p, body_mayRouter.fp, octet_Row.fp, rounds_eq] <;> rfl
theorem law12_router.fp (a : (Int × (List (Int × Int × Int × Int × Unit)) × Unit) × Unit) : law12_router.f a = law12_router.p a := by
  rw [law12_router.eq]
  simp only [law12_router.p] <;> rfl
theorem ref12_Router.fp (a : (Int × (List (Int × Int × Int × Int × Unit)) × Unit) × Unit) : ref12_Router.f a = ref12_Router.p a := by
  rw [ref12_Router.eq]
  simp only [ref12_Router.p, ref01_Four.fp, ref12_MayRouter.fp, rounds_eq] <;> rfl
theorem ref12_SameRouter.fp (a : (Int × (List (Int × Int × Int × Int × Unit)) × Unit) × (Int × (List (Int × Int × Int × Int × Unit)) × Unit) × Unit) : ref12_SameRouter.f a = ref12_SameRouter.p a := by
  rw [ref12_SameRouter.eq]
  simp only [ref12_SameRouter.p, rounds_eq] <;> rfl
theorem law12_BodyRouter.fp (a : (Int × (List (Int × Int × Int × Int × Unit)) × Unit) × (List Int) × Unit) : law12_BodyRouter.f a = law12_BodyRouter.p a := by
  rw [law12_BodyRouter.eq]
  simp only [law12_BodyRouter.p, body_ReadRouter.fp, body_Router.fp, law12_alive.fp, law12_router.fp, ref12_ReadRouter.fp, ref12_Router.fp, ref12_SameRouter.fp] <;> rfl
theorem body_External.fp (a : (Int × Bool × Int × Int × Int × Unit) × Unit) : body_External.f a = body_External.p a := by
  rw [body_External.eq]
  simp only [body_External.p, body_isCost.fp, body_isMask.fp, octet_Row.fp] <;> rfl
theorem ref12_External.fp (a : (Int × Bool × Int × Int × Int × Unit) × Unit) : ref12_External.f a = ref12_External.p a := by
  rw [ref12_External.eq]
  simp only [ref12_External.p, ref01_Four.fp, ref12_cost.fp, ref12_isMask.fp] <;> rfl
theorem law12_BodyExternal.fp (a : (Int × Bool × Int × Int × Int × Unit) × (List Int) × Unit) : law12_BodyExternal.f a = law12_BodyExternal.p a := by
  rw [law12_BodyExternal.eq]
  simp only [law12_BodyExternal.p, body_External.fp, body_ReadExternal.fp, law12_alive.fp, ref12_External.fp, ref12_ReadExternal.fp] <;> rfl
end Go.Proofs.Ytdlgikajkljdeaa.F
