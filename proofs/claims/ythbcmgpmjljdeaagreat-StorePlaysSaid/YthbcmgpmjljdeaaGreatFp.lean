/- The program's functions as plain functions, and the plain law over them. -/
import Derived.Test.YthbcmgpmjljdeaaGreatF
import Derived.Test.YthbcmgpmjljdeaaGreatP
set_option linter.unusedVariables false
set_option linter.unusedSimpArgs false
set_option maxRecDepth 100000
set_option linter.unusedVariables false
open Go Go.Proofs.Fr
namespace Go.Proofs.YthbcmgpmjljdeaaGreat.F
theorem sum_Fits.fp (a : List Int × Unit) : sum_Fits.f a = sum_Fits.p a := rfl
theorem sum_Pair.fp (a : List Int × Unit) : sum_Pair.f a = sum_Pair.p a := rfl
theorem slices_Insert_api_Ad_api_Ad.fp (a : List (((Int) × ((Int) × ((Int) × ((Int) × ((Int) × ((Int) × ((Int) × ((Int) × (Unit))))))))) × ((List (Int)) × (Unit))) × Int × List (((Int) × ((Int) × ((Int) × ((Int) × ((Int) × ((Int) × ((Int) × ((Int) × (Unit))))))))) × ((List (Int)) × (Unit))) × Unit) : slices_Insert_api_Ad_api_Ad.f a = slices_Insert_api_Ad_api_Ad.p a := rfl
theorem store_isMax.fp (a : Int × Unit) : store_isMax.f a = store_isMax.p a := by
  rw [store_isMax.eq]
  simp only [store_isMax.p] <;> rfl
theorem store_New.fp (a : Int × Unit) : store_New.f a = store_New.p a := by
  rw [store_New.eq]
  simp only [store_New.p, store_isMax.fp] <;> rfl
theorem ref14_New.fp (a : Int × Unit) : ref14_New.f a = ref14_New.p a := by
  rw [ref14_New.eq]
  simp only [ref14_New.p] <;> rfl
theorem law14_plain.fp (a : (Int × (List ((Int × Int × Int × Int × Int × Int × Int × Int × Unit) × (List Int) × Unit)) × Bool × Unit) × Unit) : law14_plain.f a = law14_plain.p a := by
  rw [law14_plain.eq]
  simp only [law14_plain.p] <;> rfl
theorem ref11_Same.fp (a : ((Int × Int × Int × Int × Int × Int × Int × Int × Unit) × (List Int) × Unit) × ((Int × Int × Int × Int × Int × Int × Int × Int × Unit) × (List Int) × Unit) × Unit) : ref11_Same.f a = ref11_Same.p a := by
  rw [ref11_Same.eq]
  simp only [ref11_Same.p] <;> rfl
theorem ref11_All.fp (a : (List ((Int × Int × Int × Int × Int × Int × Int × Int × Unit) × (List Int) × Unit)) × (List ((Int × Int × Int × Int × Int × Int × Int × Int × Unit) × (List Int) × Unit)) × Unit) : ref11_All.f a = ref11_All.p a := by
  rw [ref11_All.eq]
  simp only [ref11_All.p, ref11_Same.fp, rounds_eq] <;> rfl
theorem ref14_Same.fp (a : (Int × (List ((Int × Int × Int × Int × Int × Int × Int × Int × Unit) × (List Int) × Unit)) × Bool × Unit) × (Int × (List ((Int × Int × Int × Int × Int × Int × Int × Int × Unit) × (List Int) × Unit)) × Bool × Unit) × Unit) : ref14_Same.f a = ref14_Same.p a := by
  rw [ref14_Same.eq]
  simp only [ref14_Same.p, ref11_All.fp] <;> rfl
theorem law14_same.fp (a : (Int × (List ((Int × Int × Int × Int × Int × Int × Int × Int × Unit) × (List Int) × Unit)) × Bool × Unit) × (Int × (List ((Int × Int × Int × Int × Int × Int × Int × Int × Unit) × (List Int) × Unit)) × Bool × Unit) × Unit) : law14_same.f a = law14_same.p a := by
  rw [law14_same.eq]
  simp only [law14_same.p, law14_plain.fp, ref14_Same.fp] <;> rfl
theorem lsa_isIn.fp (a : Int × Int × Int × Unit) : lsa_isIn.f a = lsa_isIn.p a := by
  rw [lsa_isIn.eq]
  simp only [lsa_isIn.p] <;> rfl
theorem lsa_May.fp (a : (Int × Int × Int × Int × Int × Int × Int × Int × Unit) × Unit) : lsa_May.f a = lsa_May.p a := by
  rw [lsa_May.eq]
  simp only [lsa_May.p, lsa_isIn.fp] <;> rfl
theorem lsa_mayAd.fp (a : ((Int × Int × Int × Int × Int × Int × Int × Int × Unit) × (List Int) × Unit) × Unit) : lsa_mayAd.f a = lsa_mayAd.p a := by
  rw [lsa_mayAd.eq]
  simp only [lsa_mayAd.p, lsa_May.fp] <;> rfl
theorem octet_isMany.fp (a : Int × Unit) : octet_isMany.f a = octet_isMany.p a := by
  rw [octet_isMany.eq]
  simp only [octet_isMany.p] <;> rfl
theorem octet_Put.fp (a : (List Int) × Int × Int × Unit) : octet_Put.f a = octet_Put.p a := by
  rw [octet_Put.eq]
  simp only [octet_Put.p, octet_isMany.fp, rounds_eq] <;> rfl
theorem octet_Row.fp (a : (List Int) × Int × Unit) : octet_Row.f a = octet_Row.p a := by
  rw [octet_Row.eq]
  simp only [octet_Row.p, octet_Put.fp, octet_isMany.fp, rounds_eq] <;> rfl
theorem lsa_raw.fp (a : (Int × Int × Int × Int × Int × Int × Int × Int × Unit) × Unit) : lsa_raw.f a = lsa_raw.p a := by
  rw [lsa_raw.eq]
  simp only [lsa_raw.p, octet_Row.fp] <;> rfl
theorem lsa_bytesOf.fp (a : ((Int × Int × Int × Int × Int × Int × Int × Int × Unit) × (List Int) × Unit) × Unit) : lsa_bytesOf.f a = lsa_bytesOf.p a := by
  rw [lsa_bytesOf.eq]
  simp only [lsa_bytesOf.p, lsa_raw.fp] <;> rfl
theorem lsa_Whole.fp (a : ((Int × Int × Int × Int × Int × Int × Int × Int × Unit) × (List Int) × Unit) × Unit) : lsa_Whole.f a = lsa_Whole.p a := by
  rw [lsa_Whole.eq]
  simp only [lsa_Whole.p, lsa_bytesOf.fp, lsa_mayAd.fp, sum_Fits.fp] <;> rfl
theorem bytes_Clone.fp (a : (List Int) × Unit) : bytes_Clone.f a = bytes_Clone.p a := by
  rw [bytes_Clone.eq]
  obtain ⟨l, u⟩ := a
  cases l with
  | nil => simp [both, bytes_Clone.p]
  | cons x l => simp [bytes_Clone.p]
theorem octet_Cut.fp (a : (List Int) × Int × Unit) : octet_Cut.f a = octet_Cut.p a := by
  rw [octet_Cut.eq]
  simp only [octet_Cut.p, bytes_Clone.fp] <;> rfl
theorem octet_number.fp (a : (List Int) × Unit) : octet_number.f a = octet_number.p a := by
  rw [octet_number.eq]
  simp only [octet_number.p, rounds_eq] <;> rfl
theorem octet_Take.fp (a : (List Int) × Int × Unit) : octet_Take.f a = octet_Take.p a := by
  rw [octet_Take.eq]
  simp only [octet_Take.p, octet_Cut.fp, octet_isMany.fp, octet_number.fp] <;> rfl
theorem octet_Rows.fp (a : (List Int) × Int × Unit) : octet_Rows.f a = octet_Rows.p a := by
  rw [octet_Rows.eq]
  simp only [octet_Rows.p, octet_isMany.fp, octet_number.fp, rounds_eq] <;> rfl
theorem body_isIn.fp (a : Int × Int × Int × Unit) : body_isIn.f a = body_isIn.p a := by
  rw [body_isIn.eq]
  simp only [body_isIn.p] <;> rfl
theorem body_mayRouter.fp (a : (Int × (List (Int × Int × Int × Int × Unit)) × Unit) × Unit) : body_mayRouter.f a = body_mayRouter.p a := by
  rw [body_mayRouter.eq]
  simp only [body_mayRouter.p, body_isIn.fp, rounds_eq] <;> rfl
theorem body_ReadRouter.fp (a : (List Int) × Unit) : body_ReadRouter.f a = body_ReadRouter.p a := by
  rw [body_ReadRouter.eq]
  simp only [body_ReadRouter.p, body_mayRouter.fp, octet_Rows.fp, octet_Take.fp, rounds_eq] <;> rfl
theorem math_bits_Len32.fp (a : Int × Unit) : math_bits_Len32.f a = math_bits_Len32.p a := by
  rw [math_bits_Len32.eq]
  simp only [math_bits_Len32.p] <;> rfl
theorem math_bits_LeadingZeros32.fp (a : Int × Unit) : math_bits_LeadingZeros32.f a = math_bits_LeadingZeros32.p a := by
  rw [math_bits_LeadingZeros32.eq]
  simp only [math_bits_LeadingZeros32.p, math_bits_Len32.fp] <;> rfl
theorem addr_Mask.fp (a : Int × Unit) : addr_Mask.f a = addr_Mask.p a := by
  rw [addr_Mask.eq]
  simp only [addr_Mask.p] <;> rfl
theorem addr_Long.fp (a : Int × Unit) : addr_Long.f a = addr_Long.p a := by
  rw [addr_Long.eq]
  simp only [addr_Long.p, addr_Mask.fp, math_bits_LeadingZeros32.fp] <;> rfl
theorem body_isMask.fp (a : Int × Unit) : body_isMask.f a = body_isMask.p a := by
  rw [body_isMask.eq]
  simp only [body_isMask.p, addr_Long.fp] <;> rfl
theorem body_ReadNetwork.fp (a : (List Int) × Unit) : body_ReadNetwork.f a = body_ReadNetwork.p a := by
  rw [body_ReadNetwork.eq]
  simp only [body_ReadNetwork.p, body_isMask.fp, octet_Rows.fp] <;> rfl
theorem body_rows.fp (a : (List Int) × Int × Unit) : body_rows.f a = body_rows.p a := by
  rw [body_rows.eq]
  simp only [body_rows.p, body_isMask.fp, octet_Rows.fp] <;> rfl
theorem body_ReadSummary.fp (a : (List Int) × Unit) : body_ReadSummary.f a = body_ReadSummary.p a := by
  rw [body_ReadSummary.eq]
  simp only [body_ReadSummary.p, body_rows.fp] <;> rfl
theorem body_ReadExternal.fp (a : (List Int) × Unit) : body_ReadExternal.f a = body_ReadExternal.p a := by
  rw [body_ReadExternal.eq]
  simp only [body_ReadExternal.p, body_rows.fp] <;> rfl
theorem body_Right.fp (a : ((Int × Int × Int × Int × Int × Int × Int × Int × Unit) × (List Int) × Unit) × Unit) : body_Right.f a = body_Right.p a := by
  rw [body_Right.eq]
  simp only [body_Right.p, body_ReadExternal.fp, body_ReadNetwork.fp, body_ReadRouter.fp, body_ReadSummary.fp] <;> rfl
theorem lsa_Key.fp (a : (Int × Int × Int × Int × Int × Int × Int × Int × Unit) × Unit) : lsa_Key.f a = lsa_Key.p a := by
  rw [lsa_Key.eq]
  simp only [lsa_Key.p] <;> rfl
theorem cmp_isNaN_int.fp (a : Int × Unit) : cmp_isNaN_int.f a = cmp_isNaN_int.p a := by
  rw [cmp_isNaN_int.eq]
  simp only [cmp_isNaN_int.p] <;> rfl
theorem cmp_Compare_int.fp (a : Int × Int × Unit) : cmp_Compare_int.f a = cmp_Compare_int.p a := by
  rw [cmp_Compare_int.eq]
  simp only [cmp_Compare_int.p, cmp_isNaN_int.fp] <;> rfl
theorem cmp_isNaN_uint32.fp (a : Int × Unit) : cmp_isNaN_uint32.f a = cmp_isNaN_uint32.p a := by
  rw [cmp_isNaN_uint32.eq]
  simp only [cmp_isNaN_uint32.p] <;> rfl
theorem cmp_Compare_uint32.fp (a : Int × Int × Unit) : cmp_Compare_uint32.f a = cmp_Compare_uint32.p a := by
  rw [cmp_Compare_uint32.eq]
  simp only [cmp_Compare_uint32.p, cmp_isNaN_uint32.fp] <;> rfl
theorem lsa_first.fp (a : (List Int) × Unit) : lsa_first.f a = lsa_first.p a := by
  rw [lsa_first.eq]
  simp only [lsa_first.p, rounds_eq] <;> rfl
theorem lsa_Less.fp (a : (Int × Int × Int × Unit) × (Int × Int × Int × Unit) × Unit) : lsa_Less.f a = lsa_Less.p a := by
  rw [lsa_Less.eq]
  simp only [lsa_Less.p, cmp_Compare_int.fp, cmp_Compare_uint32.fp, lsa_first.fp] <;> rfl
theorem store_Store_at_1.fp (a : ((Int × Int × Int × Int × Int × Int × Int × Int × Unit) × (List Int) × Unit) × (Int × Int × Int × Unit) × Unit) : store_Store_at_1.f a = store_Store_at_1.p a := by
  rw [store_Store_at_1.eq]
  simp only [store_Store_at_1.p, lsa_Key.fp, lsa_Less.fp] <;> rfl
theorem slices_BinarySearchFunc_api_Ad_api_Ad_api_Key.fp (a : (List ((Int × Int × Int × Int × Int × Int × Int × Int × Unit) × (List Int) × Unit)) × (Int × Int × Int × Unit) × Unit × Unit) : slices_BinarySearchFunc_api_Ad_api_Ad_api_Key.f a = slices_BinarySearchFunc_api_Ad_api_Ad_api_Key.p a := by
  rw [slices_BinarySearchFunc_api_Ad_api_Ad_api_Key.eq]
  simp only [slices_BinarySearchFunc_api_Ad_api_Ad_api_Key.p, store_Store_at_1.fp, rounds_eq] <;> rfl
theorem store_Store_at.fp (a : (Int × (List ((Int × Int × Int × Int × Int × Int × Int × Int × Unit) × (List Int) × Unit)) × Bool × Unit) × (Int × Int × Int × Unit) × Unit) : store_Store_at.f a = store_Store_at.p a := by
  rw [store_Store_at.eq]
  simp only [store_Store_at.p, slices_BinarySearchFunc_api_Ad_api_Ad_api_Key.fp] <;> rfl
theorem store_Store_over.fp (a : (Int × (List ((Int × Int × Int × Int × Int × Int × Int × Int × Unit) × (List Int) × Unit)) × Bool × Unit) × Unit) : store_Store_over.f a = store_Store_over.p a := by
  rw [store_Store_over.eq]
  simp only [store_Store_over.p] <;> rfl
theorem slices_Clone_api_Ad_api_Ad.fp (a : (List ((Int × Int × Int × Int × Int × Int × Int × Int × Unit) × (List Int) × Unit)) × Unit) : slices_Clone_api_Ad_api_Ad.f a = slices_Clone_api_Ad_api_Ad.p a := by
  rw [slices_Clone_api_Ad_api_Ad.eq]
  simp only [slices_Clone_api_Ad_api_Ad.p] <;> rfl
theorem store_Store_with.fp (a : (Int × (List ((Int × Int × Int × Int × Int × Int × Int × Int × Unit) × (List Int) × Unit)) × Bool × Unit) × (List ((Int × Int × Int × Int × Int × Int × Int × Int × Unit) × (List Int) × Unit)) × Unit) : store_Store_with.f a = store_Store_with.p a := by
  rw [store_Store_with.eq]
  simp only [store_Store_with.p] <;> rfl
theorem cmp_isNaN_int32.fp (a : Int × Unit) : cmp_isNaN_int32.f a = cmp_isNaN_int32.p a := by
  rw [cmp_isNaN_int32.eq]
  simp only [cmp_isNaN_int32.p] <;> rfl
theorem cmp_Compare_int32.fp (a : Int × Int × Unit) : cmp_Compare_int32.f a = cmp_Compare_int32.p a := by
  rw [cmp_Compare_int32.eq]
  simp only [cmp_Compare_int32.p, cmp_isNaN_int32.fp] <;> rfl
theorem lsa_old.fp (a : (Int × Int × Int × Int × Int × Int × Int × Int × Unit) × Unit) : lsa_old.f a = lsa_old.p a := by
  rw [lsa_old.eq]
  simp only [lsa_old.p] <;> rfl
theorem lsa_younger.fp (a : (Int × Int × Int × Int × Int × Int × Int × Int × Unit) × (Int × Int × Int × Int × Int × Int × Int × Int × Unit) × Unit) : lsa_younger.f a = lsa_younger.p a := by
  rw [lsa_younger.eq]
  simp only [lsa_younger.p, cmp_Compare_int.fp, lsa_isIn.fp] <;> rfl
theorem lsa_Compare.fp (a : (Int × Int × Int × Int × Int × Int × Int × Int × Unit) × (Int × Int × Int × Int × Int × Int × Int × Int × Unit) × Unit) : lsa_Compare.f a = lsa_Compare.p a := by
  rw [lsa_Compare.eq]
  simp only [lsa_Compare.p, cmp_Compare_int.fp, cmp_Compare_int32.fp, lsa_first.fp, lsa_old.fp, lsa_younger.fp] <;> rfl
theorem store_Store_set.fp (a : (Int × (List ((Int × Int × Int × Int × Int × Int × Int × Int × Unit) × (List Int) × Unit)) × Bool × Unit) × Int × ((Int × Int × Int × Int × Int × Int × Int × Int × Unit) × (List Int) × Unit) × Unit) : store_Store_set.f a = store_Store_set.p a := by
  rw [store_Store_set.eq]
  simp only [store_Store_set.p, slices_Clone_api_Ad_api_Ad.fp, store_Store_with.fp] <;> rfl
theorem store_Put.fp (a : (Int × (List ((Int × Int × Int × Int × Int × Int × Int × Int × Unit) × (List Int) × Unit)) × Bool × Unit) × ((Int × Int × Int × Int × Int × Int × Int × Int × Unit) × (List Int) × Unit) × Unit) : store_Put.f a = store_Put.p a := by
  rw [store_Put.eq]
  simp only [store_Put.p, body_Right.fp, lsa_Compare.fp, lsa_Key.fp, lsa_Whole.fp, slices_Clone_api_Ad_api_Ad.fp, slices_Insert_api_Ad_api_Ad.fp, store_Store_at.fp, store_Store_over.fp, store_Store_set.fp, store_Store_with.fp] <;> rfl
theorem ref11_two.fp (a : Int × Unit) : ref11_two.f a = ref11_two.p a := by
  rw [ref11_two.eq]
  simp only [ref11_two.p] <;> rfl
theorem ref01_Four.fp (a : Int × Unit) : ref01_Four.f a = ref01_Four.p a := by
  rw [ref01_Four.eq]
  simp only [ref01_Four.p] <;> rfl
theorem ref11_raw.fp (a : (Int × Int × Int × Int × Int × Int × Int × Int × Unit) × Unit) : ref11_raw.f a = ref11_raw.p a := by
  rw [ref11_raw.eq]
  simp only [ref11_raw.p, ref01_Four.fp, ref11_two.fp] <;> rfl
theorem ref11_May.fp (a : (Int × Int × Int × Int × Int × Int × Int × Int × Unit) × Unit) : ref11_May.f a = ref11_May.p a := by
  rw [ref11_May.eq]
  simp only [ref11_May.p] <;> rfl
theorem ref11_MayAd.fp (a : ((Int × Int × Int × Int × Int × Int × Int × Int × Unit) × (List Int) × Unit) × Unit) : ref11_MayAd.f a = ref11_MayAd.p a := by
  rw [ref11_MayAd.eq]
  simp only [ref11_MayAd.p, ref11_May.fp] <;> rfl
theorem ref02_Pair.fp (a : (List Int) × Unit) : ref02_Pair.f a = ref02_Pair.p a := by
  rw [ref02_Pair.eq]
  simp only [ref02_Pair.p, rounds_eq] <;> rfl
theorem ref02_Fits.fp (a : (List Int) × Unit) : ref02_Fits.f a = ref02_Fits.p a := by
  rw [ref02_Fits.eq]
  simp only [ref02_Fits.p, ref02_Pair.fp] <;> rfl
theorem ref11_Whole.fp (a : ((Int × Int × Int × Int × Int × Int × Int × Int × Unit) × (List Int) × Unit) × Unit) : ref11_Whole.f a = ref11_Whole.p a := by
  rw [ref11_Whole.eq]
  simp only [ref11_Whole.p, ref02_Fits.fp, ref11_MayAd.fp, ref11_raw.fp] <;> rfl
theorem ref01_Take.fp (a : (List Int) × Int × Unit) : ref01_Take.f a = ref01_Take.p a := by
  rw [ref01_Take.eq]
  simp only [ref01_Take.p, rounds_eq] <;> rfl
theorem ref01_Rows.fp (a : (List Int) × Int × Unit) : ref01_Rows.f a = ref01_Rows.p a := by
  rw [ref01_Rows.eq]
  simp only [ref01_Rows.p, ref01_Take.fp, rounds_eq] <;> rfl
theorem ref12_MayRouter.fp (a : (Int × (List (Int × Int × Int × Int × Unit)) × Unit) × Unit) : ref12_MayRouter.f a = ref12_MayRouter.p a := by
  rw [ref12_MayRouter.eq]
  simp only [ref12_MayRouter.p, rounds_eq] <;> rfl
theorem ref12_ReadRouter.fp (a : (List Int) × Unit) : ref12_ReadRouter.f a = ref12_ReadRouter.p a := by
  rw [ref12_ReadRouter.eq]
  simp only [ref12_ReadRouter.p, ref01_Rows.fp, ref12_MayRouter.fp, rounds_eq] <;> rfl
theorem ref03_Mask.fp (a : Int × Unit) : ref03_Mask.f a = ref03_Mask.p a := by
  rw [ref03_Mask.eq]
  simp only [ref03_Mask.p, rounds_eq] <;> rfl
theorem ref03_Long.fp (a : Int × Unit) : ref03_Long.f a = ref03_Long.p a := by
  rw [ref03_Long.eq]
  simp only [ref03_Long.p, ref03_Mask.fp, rounds_eq] <;> rfl
theorem ref12_isMask.fp (a : Int × Unit) : ref12_isMask.f a = ref12_isMask.p a := by
  rw [ref12_isMask.eq]
  simp only [ref12_isMask.p, ref03_Long.fp] <;> rfl
theorem ref12_ReadNetwork.fp (a : (List Int) × Unit) : ref12_ReadNetwork.f a = ref12_ReadNetwork.p a := by
  rw [ref12_ReadNetwork.eq]
  simp only [ref12_ReadNetwork.p, ref01_Rows.fp, ref12_isMask.fp] <;> rfl
theorem ref12_ReadSummary.fp (a : (List Int) × Unit) : ref12_ReadSummary.f a = ref12_ReadSummary.p a := by
  rw [ref12_ReadSummary.eq]
  simp only [ref12_ReadSummary.p, ref01_Rows.fp, ref12_isMask.fp] <;> rfl
theorem ref12_ReadExternal.fp (a : (List Int) × Unit) : ref12_ReadExternal.f a = ref12_ReadExternal.p a := by
  rw [ref12_ReadExternal.eq]
  simp only [ref12_ReadExternal.p, ref01_Rows.fp, ref12_isMask.fp] <;> rfl
theorem ref12_Right.fp (a : ((Int × Int × Int × Int × Int × Int × Int × Int × Unit) × (List Int) × Unit) × Unit) : ref12_Right.f a = ref12_Right.p a := by
  rw [ref12_Right.eq]
  simp only [ref12_Right.p, ref12_ReadExternal.fp, ref12_ReadNetwork.fp, ref12_ReadRouter.fp, ref12_ReadSummary.fp] <;> rfl
theorem ref11_Key.fp (a : (Int × Int × Int × Int × Int × Int × Int × Int × Unit) × Unit) : ref11_Key.f a = ref11_Key.p a := by
  rw [ref11_Key.eq]
  simp only [ref11_Key.p] <;> rfl
theorem ref14_Find.fp (a : (Int × (List ((Int × Int × Int × Int × Int × Int × Int × Int × Unit) × (List Int) × Unit)) × Bool × Unit) × (Int × Int × Int × Unit) × Unit) : ref14_Find.f a = ref14_Find.p a := by
  rw [ref14_Find.eq]
  simp only [ref14_Find.p, ref11_Key.fp, rounds_eq] <;> rfl
theorem ref14_Drop.fp (a : (Int × (List ((Int × Int × Int × Int × Int × Int × Int × Int × Unit) × (List Int) × Unit)) × Bool × Unit) × (Int × Int × Int × Unit) × Unit) : ref14_Drop.f a = ref14_Drop.p a := by
  rw [ref14_Drop.eq]
  simp only [ref14_Drop.p, ref11_Key.fp, rounds_eq] <;> rfl
theorem ref11_Less.fp (a : (Int × Int × Int × Unit) × (Int × Int × Int × Unit) × Unit) : ref11_Less.f a = ref11_Less.p a := by
  rw [ref11_Less.eq]
  simp only [ref11_Less.p] <;> rfl
theorem ref14_into.fp (a : (Int × (List ((Int × Int × Int × Int × Int × Int × Int × Int × Unit) × (List Int) × Unit)) × Bool × Unit) × ((Int × Int × Int × Int × Int × Int × Int × Int × Unit) × (List Int) × Unit) × Unit) : ref14_into.f a = ref14_into.p a := by
  rw [ref14_into.eq]
  simp only [ref14_into.p, ref11_Key.fp, ref11_Less.fp, ref14_Drop.fp, rounds_eq] <;> rfl
theorem ref11_more.fp (a : Bool × Unit) : ref11_more.f a = ref11_more.p a := by
  rw [ref11_more.eq]
  simp only [ref11_more.p] <;> rfl
theorem ref11_Compare.fp (a : (Int × Int × Int × Int × Int × Int × Int × Int × Unit) × (Int × Int × Int × Int × Int × Int × Int × Int × Unit) × Unit) : ref11_Compare.f a = ref11_Compare.p a := by
  rw [ref11_Compare.eq]
  simp only [ref11_Compare.p, ref11_more.fp] <;> rfl
theorem ref14_Put.fp (a : (Int × (List ((Int × Int × Int × Int × Int × Int × Int × Int × Unit) × (List Int) × Unit)) × Bool × Unit) × ((Int × Int × Int × Int × Int × Int × Int × Int × Unit) × (List Int) × Unit) × Unit) : ref14_Put.f a = ref14_Put.p a := by
  rw [ref14_Put.eq]
  simp only [ref14_Put.p, ref11_Compare.fp, ref11_Key.fp, ref11_Whole.fp, ref12_Right.fp, ref14_Find.fp, ref14_into.fp] <;> rfl
theorem slices_Delete_api_Ad_api_Ad.fp (a : (List ((Int × Int × Int × Int × Int × Int × Int × Int × Unit) × (List Int) × Unit)) × Int × Int × Unit) : slices_Delete_api_Ad_api_Ad.f a = slices_Delete_api_Ad_api_Ad.p a := by
  rw [slices_Delete_api_Ad_api_Ad.eq]
  simp only [slices_Delete_api_Ad_api_Ad.p] <;> rfl
theorem store_Drop.fp (a : (Int × (List ((Int × Int × Int × Int × Int × Int × Int × Int × Unit) × (List Int) × Unit)) × Bool × Unit) × (Int × Int × Int × Unit) × Unit) : store_Drop.f a = store_Drop.p a := by
  rw [store_Drop.eq]
  simp only [store_Drop.p, slices_Clone_api_Ad_api_Ad.fp, slices_Delete_api_Ad_api_Ad.fp, store_Store_at.fp, store_Store_with.fp] <;> rfl
theorem lsa_Older.fp (a : ((Int × Int × Int × Int × Int × Int × Int × Int × Unit) × (List Int) × Unit) × Int × Unit) : lsa_Older.f a = lsa_Older.p a := by
  rw [lsa_Older.eq]
  simp only [lsa_Older.p] <;> rfl
theorem store_Tick.fp (a : (Int × (List ((Int × Int × Int × Int × Int × Int × Int × Int × Unit) × (List Int) × Unit)) × Bool × Unit) × Int × Unit) : store_Tick.f a = store_Tick.p a := by
  rw [store_Tick.eq]
  simp only [store_Tick.p, lsa_Key.fp, lsa_Older.fp, store_Store_with.fp, rounds_eq] <;> rfl
theorem ref11_Older.fp (a : ((Int × Int × Int × Int × Int × Int × Int × Int × Unit) × (List Int) × Unit) × Int × Unit) : ref11_Older.f a = ref11_Older.p a := by
  rw [ref11_Older.eq]
  simp only [ref11_Older.p] <;> rfl
theorem ref14_Tick.fp (a : (Int × (List ((Int × Int × Int × Int × Int × Int × Int × Int × Unit) × (List Int) × Unit)) × Bool × Unit) × Int × Unit) : ref14_Tick.f a = ref14_Tick.p a := by
  rw [ref14_Tick.eq]
  simp only [ref14_Tick.p, ref11_Key.fp, ref11_Older.fp, rounds_eq] <;> rfl
theorem ref13_Keys.fp (a : (List (Int × Int × Int × Unit)) × (List (Int × Int × Int × Unit)) × Unit) : ref13_Keys.f a = ref13_Keys.p a := by
  rw [ref13_Keys.eq]
  simp only [ref13_Keys.p, rounds_eq] <;> rfl
theorem store_Flush.fp (a : (Int × (List ((Int × Int × Int × Int × Int × Int × Int × Int × Unit) × (List Int) × Unit)) × Bool × Unit) × (Int × Int × Int × Unit) × Unit) : store_Flush.f a = store_Flush.p a := by
  rw [store_Flush.eq]
  simp only [store_Flush.p, lsa_Older.fp, store_Store_at.fp, store_Store_set.fp] <;> rfl
theorem ref14_Flush.fp (a : (Int × (List ((Int × Int × Int × Int × Int × Int × Int × Int × Unit) × (List Int) × Unit)) × Bool × Unit) × (Int × Int × Int × Unit) × Unit) : ref14_Flush.f a = ref14_Flush.p a := by
  rw [ref14_Flush.eq]
  simp only [ref14_Flush.p, ref14_Find.fp, ref14_into.fp] <;> rfl
theorem law14_act.fp (a : (Int × (List ((Int × Int × Int × Int × Int × Int × Int × Int × Unit) × (List Int) × Unit)) × Bool × Unit) × (Int × (List ((Int × Int × Int × Int × Int × Int × Int × Int × Unit) × (List Int) × Unit)) × Bool × Unit) × (Int × Int × ((Int × Int × Int × Int × Int × Int × Int × Int × Unit) × (List Int) × Unit) × (Int × Int × Int × Unit) × Unit) × Unit) : law14_act.f a = law14_act.p a := by
  rw [law14_act.eq]
  simp only [law14_act.p, law14_same.fp, ref13_Keys.fp, ref14_Drop.fp, ref14_Flush.fp, ref14_Put.fp, ref14_Tick.fp, store_Drop.fp, store_Flush.fp, store_Put.fp, store_Tick.fp] <;> rfl
theorem store_May.fp (a : (Int × (List ((Int × Int × Int × Int × Int × Int × Int × Int × Unit) × (List Int) × Unit)) × Bool × Unit) × Unit) : store_May.f a = store_May.p a := by
  rw [store_May.eq]
  simp only [store_May.p, body_Right.fp, lsa_Key.fp, lsa_Less.fp, lsa_Whole.fp, store_isMax.fp, rounds_eq] <;> rfl
theorem ref14_May.fp (a : (Int × (List ((Int × Int × Int × Int × Int × Int × Int × Int × Unit) × (List Int) × Unit)) × Bool × Unit) × Unit) : ref14_May.f a = ref14_May.p a := by
  rw [ref14_May.eq]
  simp only [ref14_May.p, ref11_Key.fp, ref11_Less.fp, ref11_Whole.fp, ref12_Right.fp, rounds_eq] <;> rfl
theorem store_Find.fp (a : (Int × (List ((Int × Int × Int × Int × Int × Int × Int × Int × Unit) × (List Int) × Unit)) × Bool × Unit) × (Int × Int × Int × Unit) × Unit) : store_Find.f a = store_Find.p a := by
  rw [store_Find.eq]
  simp only [store_Find.p, store_Store_at.fp] <;> rfl
theorem store_Digest.fp (a : (Int × (List ((Int × Int × Int × Int × Int × Int × Int × Int × Unit) × (List Int) × Unit)) × Bool × Unit) × Unit) : store_Digest.f a = store_Digest.p a := by
  rw [store_Digest.eq]
  simp only [store_Digest.p, rounds_eq] <;> rfl
theorem ref14_Digest.fp (a : (Int × (List ((Int × Int × Int × Int × Int × Int × Int × Int × Unit) × (List Int) × Unit)) × Bool × Unit) × Unit) : ref14_Digest.f a = ref14_Digest.p a := by
  rw [ref14_Digest.eq]
  simp only [ref14_Digest.p, rounds_eq] <;> rfl
theorem store_Heads.fp (a : (Int × (List ((Int × Int × Int × Int × Int × Int × Int × Int × Unit) × (List Int) × Unit)) × Bool × Unit) × Unit) : store_Heads.f a = store_Heads.p a := by
  rw [store_Heads.eq]
  simp only [store_Heads.p, rounds_eq] <;> rfl
theorem ref14_Heads.fp (a : (Int × (List ((Int × Int × Int × Int × Int × Int × Int × Int × Unit) × (List Int) × Unit)) × Bool × Unit) × Unit) : ref14_Heads.f a = ref14_Heads.p a := by
  rw [ref14_Heads.eq]
  simp only [ref14_Heads.p, rounds_eq] <;> rfl
theorem ref13_Heads.fp (a : (List (Int × Int × Int × Int × Int × Int × Int × Int × Unit)) × (List (Int × Int × Int × Int × Int × Int × Int × Int × Unit)) × Unit) : ref13_Heads.f a = ref13_Heads.p a := by
  rw [ref13_Heads.eq]
  simp only [ref13_Heads.p, rounds_eq] <;> rfl
theorem store_Due.fp (a : (Int × (List ((Int × Int × Int × Int × Int × Int × Int × Int × Unit) × (List Int) × Unit)) × Bool × Unit) × Int × Unit) : store_Due.f a = store_Due.p a := by
  rw [store_Due.eq]
  simp only [store_Due.p, lsa_Key.fp, store_Heads.fp, rounds_eq] <;> rfl
theorem ref14_Due.fp (a : (Int × (List ((Int × Int × Int × Int × Int × Int × Int × Int × Unit) × (List Int) × Unit)) × Bool × Unit) × Int × Unit) : ref14_Due.f a = ref14_Due.p a := by
  rw [ref14_Due.eq]
  simp only [ref14_Due.p, ref11_Key.fp, rounds_eq] <;> rfl
theorem sum_residue.fp (a : Int × Unit) : sum_residue.f a = sum_residue.p a := by
  rw [sum_residue.eq]
  simp only [sum_residue.p] <;> rfl
theorem sum_Place.fp (a : (List Int) × Int × Unit) : sum_Place.f a = sum_Place.p a := by
  rw [sum_Place.eq]
  simp only [sum_Place.p, bytes_Clone.fp, sum_Pair.fp, sum_residue.fp] <;> rfl
theorem lsa_Seal.fp (a : ((Int × Int × Int × Int × Int × Int × Int × Int × Unit) × (List Int) × Unit) × Unit) : lsa_Seal.f a = lsa_Seal.p a := by
  rw [lsa_Seal.eq]
  simp only [lsa_Seal.p, bytes_Clone.fp, lsa_May.fp, lsa_bytesOf.fp, octet_Take.fp, sum_Place.fp] <;> rfl
theorem law14_alive.fp (a : Unit) : law14_alive.f a = law14_alive.p a := by
  rw [law14_alive.eq]
  simp only [law14_alive.p, lsa_Seal.fp, store_New.fp, store_Put.fp] <;> rfl
theorem law14_StorePlays.fp (a : Int × (List (Int × Int × ((Int × Int × Int × Int × Int × Int × Int × Int × Unit) × (List Int) × Unit) × (Int × Int × Int × Unit) × Unit)) × (Int × Int × Int × Unit) × Unit) : law14_StorePlays.f a = law14_StorePlays.p a := by
  rw [law14_StorePlays.eq]
  simp only [law14_StorePlays.p, law14_act.fp, law14_alive.fp, law14_same.fp, ref11_Same.fp, ref13_Heads.fp, ref13_Keys.fp, ref14_Digest.fp, ref14_Due.fp, ref14_Find.fp, ref14_Heads.fp, ref14_May.fp, ref14_New.fp, store_Digest.fp, store_Due.fp, store_Find.fp, store_Heads.fp, store_May.fp, store_New.fp, rounds_eq] <;> rfl
end Go.Proofs.YthbcmgpmjljdeaaGreat.F
