/- The program's functions as plain functions, and the plain law over them. -/
import Derived.Test.YtmeppheikmgoeaaF
import Derived.Test.YtmeppheikmgoeaaP
set_option maxRecDepth 100000
set_option linter.unusedVariables false
open Go Go.Proofs.Fr
namespace Go.Proofs.Ytmeppheikmgoeaa.F
theorem sum_Fits.fp (a : List Int × Unit) : sum_Fits.f a = sum_Fits.p a := rfl
theorem sum_Pair.fp (a : List Int × Unit) : sum_Pair.f a = sum_Pair.p a := rfl
theorem lsa_Next.fp (a : Int × Unit) : lsa_Next.f a = lsa_Next.p a := by
  rw [lsa_Next.eq]
  simp only [lsa_Next.p] <;> rfl
theorem lsa_isIn.fp (a : Int × Int × Int × Unit) : lsa_isIn.f a = lsa_isIn.p a := by
  rw [lsa_isIn.eq]
  simp only [lsa_isIn.p] <;> rfl
theorem lsa_May.fp (a : (Int × Int × Int × Int × Int × Int × Int × Int × Unit) × Unit) : lsa_May.f a = lsa_May.p a := by
  rw [lsa_May.eq]
  simp only [lsa_May.p, lsa_isIn.fp] <;> rfl
theorem octet_isMany.fp (a : Int × Unit) : octet_isMany.f a = octet_isMany.p a := by
  rw [octet_isMany.eq]
  simp only [octet_isMany.p] <;> rfl
theorem octet_Put.fp (a : (List Int) × Int × Int × Unit) : octet_Put.f a = octet_Put.p a := by
  rw [octet_Put.eq]
  simp only [octet_Put.p, octet_isMany.fp, rounds_eq] <;> rfl
theorem octet_Row.fp (a : (List Int) × Int × Unit) : octet_Row.f a = octet_Row.p a := by
  rw [octet_Row.eq]
  simp only [octet_Row.p, octet_Put.fp, octet_isMany.fp, rounds_eq] <;> rfl
theorem lsa_raw.fp (a : (Int × Int × Int × Int × Int × Int × Int × Int × Unit) × Unit) : lsa_raw.f a = lsa_raw.p a := by
  rw [lsa_raw.eq]
  simp only [lsa_raw.p, octet_Row.fp] <;> rfl
theorem lsa_bytesOf.fp (a : ((Int × Int × Int × Int × Int × Int × Int × Int × Unit) × (List Int) × Unit) × Unit) : lsa_bytesOf.f a = lsa_bytesOf.p a := by
  rw [lsa_bytesOf.eq]
  simp only [lsa_bytesOf.p, lsa_raw.fp] <;> rfl
theorem bytes_Clone.fp (a : (List Int) × Unit) : bytes_Clone.f a = bytes_Clone.p a := by
  rw [bytes_Clone.eq]
  obtain ⟨l, u⟩ := a
  cases l with
  | nil => simp [both, bytes_Clone.p]
  | cons x l => simp [bytes_Clone.p]
theorem sum_residue.fp (a : Int × Unit) : sum_residue.f a = sum_residue.p a := by
  rw [sum_residue.eq]
  simp only [sum_residue.p] <;> rfl
theorem sum_Place.fp (a : (List Int) × Int × Unit) : sum_Place.f a = sum_Place.p a := by
  rw [sum_Place.eq]
  simp only [sum_Place.p, bytes_Clone.fp, sum_Pair.fp, sum_residue.fp] <;> rfl
theorem octet_Cut.fp (a : (List Int) × Int × Unit) : octet_Cut.f a = octet_Cut.p a := by
  rw [octet_Cut.eq]
  simp only [octet_Cut.p, bytes_Clone.fp] <;> rfl
theorem octet_number.fp (a : (List Int) × Unit) : octet_number.f a = octet_number.p a := by
  rw [octet_number.eq]
  simp only [octet_number.p, rounds_eq] <;> rfl
theorem octet_Take.fp (a : (List Int) × Int × Unit) : octet_Take.f a = octet_Take.p a := by
  rw [octet_Take.eq]
  simp only [octet_Take.p, octet_Cut.fp, octet_isMany.fp, octet_number.fp] <;> rfl
theorem lsa_Seal.fp (a : ((Int × Int × Int × Int × Int × Int × Int × Int × Unit) × (List Int) × Unit) × Unit) : lsa_Seal.f a = lsa_Seal.p a := by
  rw [lsa_Seal.eq]
  simp only [lsa_Seal.p, bytes_Clone.fp, lsa_May.fp, lsa_bytesOf.fp, octet_Take.fp, sum_Place.fp] <;> rfl
theorem lsa_mayAd.fp (a : ((Int × Int × Int × Int × Int × Int × Int × Int × Unit) × (List Int) × Unit) × Unit) : lsa_mayAd.f a = lsa_mayAd.p a := by
  rw [lsa_mayAd.eq]
  simp only [lsa_mayAd.p, lsa_May.fp] <;> rfl
theorem lsa_Whole.fp (a : ((Int × Int × Int × Int × Int × Int × Int × Int × Unit) × (List Int) × Unit) × Unit) : lsa_Whole.f a = lsa_Whole.p a := by
  rw [lsa_Whole.eq]
  simp only [lsa_Whole.p, lsa_bytesOf.fp, lsa_mayAd.fp, sum_Fits.fp] <;> rfl
theorem law11_alive.fp (a : Unit) : law11_alive.f a = law11_alive.p a := by
  rw [law11_alive.eq]
  simp only [law11_alive.p, lsa_Next.fp, lsa_Seal.fp, lsa_Whole.fp] <;> rfl
theorem lsa_Encode.fp (a : ((Int × Int × Int × Int × Int × Int × Int × Int × Unit) × (List Int) × Unit) × Unit) : lsa_Encode.f a = lsa_Encode.p a := by
  rw [lsa_Encode.eq]
  simp only [lsa_Encode.p, lsa_bytesOf.fp, lsa_mayAd.fp] <;> rfl
theorem octet_Rows.fp (a : (List Int) × Int × Unit) : octet_Rows.f a = octet_Rows.p a := by
  rw [octet_Rows.eq]
  simp only [octet_Rows.p, octet_isMany.fp, octet_number.fp, rounds_eq] <;> rfl
theorem lsa_ReadHead.fp (a : (List Int) × Unit) : lsa_ReadHead.f a = lsa_ReadHead.p a := by
  rw [lsa_ReadHead.eq]
  simp only [lsa_ReadHead.p, lsa_May.fp, octet_Cut.fp, octet_Rows.fp] <;> rfl
theorem lsa_Decode.fp (a : (List Int) × Unit) : lsa_Decode.f a = lsa_Decode.p a := by
  rw [lsa_Decode.eq]
  simp only [lsa_Decode.p, lsa_ReadHead.fp, lsa_Whole.fp, octet_Cut.fp] <;> rfl
theorem ref11_Same.fp (a : ((Int × Int × Int × Int × Int × Int × Int × Int × Unit) × (List Int) × Unit) × ((Int × Int × Int × Int × Int × Int × Int × Int × Unit) × (List Int) × Unit) × Unit) : ref11_Same.f a = ref11_Same.p a := by
  rw [ref11_Same.eq]
  simp only [ref11_Same.p] <;> rfl
theorem lsa_Older.fp (a : ((Int × Int × Int × Int × Int × Int × Int × Int × Unit) × (List Int) × Unit) × Int × Unit) : lsa_Older.f a = lsa_Older.p a := by
  rw [lsa_Older.eq]
  simp only [lsa_Older.p] <;> rfl
theorem law11_LsaBack.fp (a : ((Int × Int × Int × Int × Int × Int × Int × Int × Unit) × (List Int) × Unit) × Int × Int × Unit) : law11_LsaBack.f a = law11_LsaBack.p a := by
  rw [law11_LsaBack.eq]
  simp only [law11_LsaBack.p, law11_alive.fp, lsa_Decode.fp, lsa_Encode.fp, lsa_Older.fp, lsa_Seal.fp, lsa_Whole.fp, ref11_Same.fp] <;> rfl
end Go.Proofs.Ytmeppheikmgoeaa.F
