/- The program's functions as plain functions, and the plain law over them. -/
import Derived.Test.YtmeppheikmgoeaaF
import Derived.Test.YtmeppheikmgoeaaP
set_option maxRecDepth 100000
set_option linter.unusedVariables false
open Go Go.Proofs.Fr
namespace Go.Proofs.Ytmeppheikmgoeaa.F
theorem sum_Fits.fp (a : List Int × Unit) : sum_Fits.f a = sum_Fits.p a := rfl
theorem sum_Pair.fp (a : List Int × Unit) : sum_Pair.f a = sum_Pair.p a := rfl
theorem lsa_isIn.fp (a : Int × Int × Int × Unit) : lsa_isIn.f a = lsa_isIn.p a := by
  rw [lsa_isIn.eq]
  simp only [lsa_isIn.p]
theorem lsa_May.fp (a : (Int × Int × Int × Int × Int × Int × Int × Int × Unit) × Unit) : lsa_May.f a = lsa_May.p a := by
  rw [lsa_May.eq]
  simp only [lsa_May.p, lsa_isIn.fp]
theorem octet_isMany.fp (a : Int × Unit) : octet_isMany.f a = octet_isMany.p a := by
  rw [octet_isMany.eq]
  simp only [octet_isMany.p]
theorem octet_Put.fp (a : (List Int) × Int × Int × Unit) : octet_Put.f a = octet_Put.p a := by
  rw [octet_Put.eq]
  simp only [octet_Put.p, octet_isMany.fp, rounds_eq]
theorem octet_Row.fp (a : (List Int) × Int × Unit) : octet_Row.f a = octet_Row.p a := by
  rw [octet_Row.eq]
  simp only [octet_Row.p, octet_Put.fp, octet_isMany.fp, rounds_eq]
theorem lsa_raw.fp (a : (Int × Int × Int × Int × Int × Int × Int × Int × Unit) × Unit) : lsa_raw.f a = lsa_raw.p a := by
  rw [lsa_raw.eq]
  simp only [lsa_raw.p, octet_Row.fp]
theorem lsa_Head.fp (a : (Int × Int × Int × Int × Int × Int × Int × Int × Unit) × Unit) : lsa_Head.f a = lsa_Head.p a := by
  rw [lsa_Head.eq]
  simp only [lsa_Head.p, lsa_May.fp, lsa_raw.fp]
theorem ref11_May.fp (a : (Int × Int × Int × Int × Int × Int × Int × Int × Unit) × Unit) : ref11_May.f a = ref11_May.p a := by
  rw [ref11_May.eq]
  simp only [ref11_May.p]
theorem ref11_two.fp (a : Int × Unit) : ref11_two.f a = ref11_two.p a := by
  rw [ref11_two.eq]
  simp only [ref11_two.p]
theorem ref01_Four.fp (a : Int × Unit) : ref01_Four.f a = ref01_Four.p a := by
  rw [ref01_Four.eq]
  simp only [ref01_Four.p]
theorem ref11_raw.fp (a : (Int × Int × Int × Int × Int × Int × Int × Int × Unit) × Unit) : ref11_raw.f a = ref11_raw.p a := by
  rw [ref11_raw.eq]
  simp only [ref11_raw.p, ref01_Four.fp, ref11_two.fp]
theorem ref11_Head.fp (a : (Int × Int × Int × Int × Int × Int × Int × Int × Unit) × Unit) : ref11_Head.f a = ref11_Head.p a := by
  rw [ref11_Head.eq]
  simp only [ref11_Head.p, ref11_May.fp, ref11_raw.fp]
theorem lsa_Next.fp (a : Int × Unit) : lsa_Next.f a = lsa_Next.p a := by
  rw [lsa_Next.eq]
  simp only [lsa_Next.p]
theorem ref11_Next.fp (a : Int × Unit) : ref11_Next.f a = ref11_Next.p a := by
  rw [ref11_Next.eq]
  simp only [ref11_Next.p]
theorem bytes_Clone.fp (a : (List Int) × Unit) : bytes_Clone.f a = bytes_Clone.p a := by
  rw [bytes_Clone.eq]
  obtain ⟨l, u⟩ := a
  cases l with
  | nil => simp [both, bytes_Clone.p]
  | cons x l => simp [bytes_Clone.p]
theorem sum_residue.fp (a : Int × Unit) : sum_residue.f a = sum_residue.p a := by
  rw [sum_residue.eq]
  simp only [sum_residue.p]
theorem sum_Place.fp (a : (List Int) × Int × Unit) : sum_Place.f a = sum_Place.p a := by
  rw [sum_Place.eq]
  simp only [sum_Place.p, bytes_Clone.fp, sum_Pair.fp, sum_residue.fp]
theorem lsa_bytesOf.fp (a : ((Int × Int × Int × Int × Int × Int × Int × Int × Unit) × (List Int) × Unit) × Unit) : lsa_bytesOf.f a = lsa_bytesOf.p a := by
  rw [lsa_bytesOf.eq]
  simp only [lsa_bytesOf.p, lsa_raw.fp]
theorem octet_Cut.fp (a : (List Int) × Int × Unit) : octet_Cut.f a = octet_Cut.p a := by
  rw [octet_Cut.eq]
  simp only [octet_Cut.p, bytes_Clone.fp]
theorem octet_number.fp (a : (List Int) × Unit) : octet_number.f a = octet_number.p a := by
  rw [octet_number.eq]
  simp only [octet_number.p, rounds_eq]
theorem octet_Take.fp (a : (List Int) × Int × Unit) : octet_Take.f a = octet_Take.p a := by
  rw [octet_Take.eq]
  simp only [octet_Take.p, octet_Cut.fp, octet_isMany.fp, octet_number.fp]
theorem lsa_Seal.fp (a : ((Int × Int × Int × Int × Int × Int × Int × Int × Unit) × (List Int) × Unit) × Unit) : lsa_Seal.f a = lsa_Seal.p a := by
  rw [lsa_Seal.eq]
  simp only [lsa_Seal.p, bytes_Clone.fp, lsa_May.fp, lsa_bytesOf.fp, octet_Take.fp, sum_Place.fp]
theorem lsa_mayAd.fp (a : ((Int × Int × Int × Int × Int × Int × Int × Int × Unit) × (List Int) × Unit) × Unit) : lsa_mayAd.f a = lsa_mayAd.p a := by
  rw [lsa_mayAd.eq]
  simp only [lsa_mayAd.p, lsa_May.fp]
theorem lsa_Whole.fp (a : ((Int × Int × Int × Int × Int × Int × Int × Int × Unit) × (List Int) × Unit) × Unit) : lsa_Whole.f a = lsa_Whole.p a := by
  rw [lsa_Whole.eq]
  simp only [lsa_Whole.p, lsa_bytesOf.fp, lsa_mayAd.fp, sum_Fits.fp]
theorem law11_alive.fp (a : Unit) : law11_alive.f a = law11_alive.p a := by
  rw [law11_alive.eq]
  simp only [law11_alive.p, lsa_Next.fp, lsa_Seal.fp, lsa_Whole.fp]
theorem lsa_Key.fp (a : (Int × Int × Int × Int × Int × Int × Int × Int × Unit) × Unit) : lsa_Key.f a = lsa_Key.p a := by
  rw [lsa_Key.eq]
  simp only [lsa_Key.p]
theorem ref11_Key.fp (a : (Int × Int × Int × Int × Int × Int × Int × Int × Unit) × Unit) : ref11_Key.f a = ref11_Key.p a := by
  rw [ref11_Key.eq]
  simp only [ref11_Key.p]
theorem law11_LsaHeads.fp (a : (Int × Int × Int × Int × Int × Int × Int × Int × Unit) × Unit) : law11_LsaHeads.f a = law11_LsaHeads.p a := by
  rw [law11_LsaHeads.eq]
  simp only [law11_LsaHeads.p, law11_alive.fp, lsa_Head.fp, lsa_Key.fp, lsa_May.fp, lsa_Next.fp, ref11_Head.fp, ref11_Key.fp, ref11_May.fp, ref11_Next.fp]
theorem lsa_first.fp (a : (List Int) × Unit) : lsa_first.f a = lsa_first.p a := by
  rw [lsa_first.eq]
  simp only [lsa_first.p, rounds_eq]
theorem cmp_isNaN_int32.fp (a : Int × Unit) : cmp_isNaN_int32.f a = cmp_isNaN_int32.p a := by
  rw [cmp_isNaN_int32.eq]
  simp only [cmp_isNaN_int32.p]
theorem cmp_Compare_int32.fp (a : Int × Int × Unit) : cmp_Compare_int32.f a = cmp_Compare_int32.p a := by
  rw [cmp_Compare_int32.eq]
  simp only [cmp_Compare_int32.p, cmp_isNaN_int32.fp]
theorem cmp_isNaN_int.fp (a : Int × Unit) : cmp_isNaN_int.f a = cmp_isNaN_int.p a := by
  rw [cmp_isNaN_int.eq]
  simp only [cmp_isNaN_int.p]
theorem cmp_Compare_int.fp (a : Int × Int × Unit) : cmp_Compare_int.f a = cmp_Compare_int.p a := by
  rw [cmp_Compare_int.eq]
  simp only [cmp_Compare_int.p, cmp_isNaN_int.fp]
theorem lsa_old.fp (a : (Int × Int × Int × Int × Int × Int × Int × Int × Unit) × Unit) : lsa_old.f a = lsa_old.p a := by
  rw [lsa_old.eq]
  simp only [lsa_old.p]
theorem lsa_younger.fp (a : (Int × Int × Int × Int × Int × Int × Int × Int × Unit) × (Int × Int × Int × Int × Int × Int × Int × Int × Unit) × Unit) : lsa_younger.f a = lsa_younger.p a := by
  rw [lsa_younger.eq]
  simp only [lsa_younger.p, cmp_Compare_int.fp, lsa_isIn.fp]
theorem lsa_Compare.fp (a : (Int × Int × Int × Int × Int × Int × Int × Int × Unit) × (Int × Int × Int × Int × Int × Int × Int × Int × Unit) × Unit) : lsa_Compare.f a = lsa_Compare.p a := by
  rw [lsa_Compare.eq]
  simp only [lsa_Compare.p, cmp_Compare_int.fp, cmp_Compare_int32.fp, lsa_first.fp, lsa_old.fp, lsa_younger.fp]
theorem ref11_more.fp (a : Bool × Unit) : ref11_more.f a = ref11_more.p a := by
  rw [ref11_more.eq]
  simp only [ref11_more.p]
theorem ref11_Compare.fp (a : (Int × Int × Int × Int × Int × Int × Int × Int × Unit) × (Int × Int × Int × Int × Int × Int × Int × Int × Unit) × Unit) : ref11_Compare.f a = ref11_Compare.p a := by
  rw [ref11_Compare.eq]
  simp only [ref11_Compare.p, ref11_more.fp]
theorem cmp_isNaN_uint32.fp (a : Int × Unit) : cmp_isNaN_uint32.f a = cmp_isNaN_uint32.p a := by
  rw [cmp_isNaN_uint32.eq]
  simp only [cmp_isNaN_uint32.p]
theorem cmp_Compare_uint32.fp (a : Int × Int × Unit) : cmp_Compare_uint32.f a = cmp_Compare_uint32.p a := by
  rw [cmp_Compare_uint32.eq]
  simp only [cmp_Compare_uint32.p, cmp_isNaN_uint32.fp]
theorem lsa_Less.fp (a : (Int × Int × Int × Unit) × (Int × Int × Int × Unit) × Unit) : lsa_Less.f a = lsa_Less.p a := by
  rw [lsa_Less.eq]
  simp only [lsa_Less.p, cmp_Compare_int.fp, cmp_Compare_uint32.fp, lsa_first.fp]
theorem ref11_Less.fp (a : (Int × Int × Int × Unit) × (Int × Int × Int × Unit) × Unit) : ref11_Less.f a = ref11_Less.p a := by
  rw [ref11_Less.eq]
  simp only [ref11_Less.p]
theorem law11_LsaOrder.fp (a : (Int × Int × Int × Int × Int × Int × Int × Int × Unit) × (Int × Int × Int × Int × Int × Int × Int × Int × Unit) × Unit) : law11_LsaOrder.f a = law11_LsaOrder.p a := by
  rw [law11_LsaOrder.eq]
  simp only [law11_LsaOrder.p, law11_alive.fp, lsa_Compare.fp, lsa_Key.fp, lsa_Less.fp, ref11_Compare.fp, ref11_Less.fp]
theorem lsa_Encode.fp (a : ((Int × Int × Int × Int × Int × Int × Int × Int × Unit) × (List Int) × Unit) × Unit) : lsa_Encode.f a = lsa_Encode.p a := by
  rw [lsa_Encode.eq]
  simp only [lsa_Encode.p, lsa_bytesOf.fp, lsa_mayAd.fp]
theorem octet_Rows.fp (a : (List Int) × Int × Unit) : octet_Rows.f a = octet_Rows.p a := by
  rw [octet_Rows.eq]
  simp only [octet_Rows.p, octet_isMany.fp, octet_number.fp, rounds_eq]
theorem lsa_ReadHead.fp (a : (List Int) × Unit) : lsa_ReadHead.f a = lsa_ReadHead.p a := by
  rw [lsa_ReadHead.eq]
  simp only [lsa_ReadHead.p, lsa_May.fp, octet_Cut.fp, octet_Rows.fp]
theorem lsa_Decode.fp (a : (List Int) × Unit) : lsa_Decode.f a = lsa_Decode.p a := by
  rw [lsa_Decode.eq]
  simp only [lsa_Decode.p, lsa_ReadHead.fp, lsa_Whole.fp, octet_Cut.fp]
theorem ref11_Same.fp (a : ((Int × Int × Int × Int × Int × Int × Int × Int × Unit) × (List Int) × Unit) × ((Int × Int × Int × Int × Int × Int × Int × Int × Unit) × (List Int) × Unit) × Unit) : ref11_Same.f a = ref11_Same.p a := by
  rw [ref11_Same.eq]
  simp only [ref11_Same.p]
theorem lsa_Older.fp (a : ((Int × Int × Int × Int × Int × Int × Int × Int × Unit) × (List Int) × Unit) × Int × Unit) : lsa_Older.f a = lsa_Older.p a := by
  rw [lsa_Older.eq]
  simp only [lsa_Older.p]
theorem law11_LsaBack.fp (a : ((Int × Int × Int × Int × Int × Int × Int × Int × Unit) × (List Int) × Unit) × Int × Int × Unit) : law11_LsaBack.f a = law11_LsaBack.p a := by
  rw [law11_LsaBack.eq]
  simp only [law11_LsaBack.p, law11_alive.fp, lsa_Decode.fp, lsa_Encode.fp, lsa_Older.fp, lsa_Seal.fp, lsa_Whole.fp, ref11_Same.fp]
end Go.Proofs.Ytmeppheikmgoeaa.F
