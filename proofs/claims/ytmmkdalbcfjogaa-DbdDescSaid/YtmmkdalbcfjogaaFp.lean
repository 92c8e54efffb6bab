/- The program's functions as plain functions, and the plain law over them. -/
import Derived.Test.YtmmkdalbcfjogaaF
import Derived.Test.YtmmkdalbcfjogaaP
set_option maxRecDepth 100000
set_option linter.unusedVariables false
open Go Go.Proofs.Fr
namespace Go.Proofs.Ytmmkdalbcfjogaa.F
theorem sum_Fits.fp (a : List Int × Unit) : sum_Fits.f a = sum_Fits.p a := rfl
theorem law13_short.fp (a : (List ((Int × Int × Int × Int × Int × Int × Int × Int × Unit) × (List Int) × Unit)) × Unit) : law13_short.f a = law13_short.p a := by
  rw [law13_short.eq]
  simp only [law13_short.p, rounds_eq] <;> rfl
theorem octet_isMany.fp (a : Int × Unit) : octet_isMany.f a = octet_isMany.p a := by
  rw [octet_isMany.eq]
  simp only [octet_isMany.p] <;> rfl
theorem octet_Put.fp (a : (List Int) × Int × Int × Unit) : octet_Put.f a = octet_Put.p a := by
  rw [octet_Put.eq]
  simp only [octet_Put.p, octet_isMany.fp, rounds_eq] <;> rfl
theorem lsa_isIn.fp (a : Int × Int × Int × Unit) : lsa_isIn.f a = lsa_isIn.p a := by
  rw [lsa_isIn.eq]
  simp only [lsa_isIn.p] <;> rfl
theorem lsa_May.fp (a : (Int × Int × Int × Int × Int × Int × Int × Int × Unit) × Unit) : lsa_May.f a = lsa_May.p a := by
  rw [lsa_May.eq]
  simp only [lsa_May.p, lsa_isIn.fp] <;> rfl
theorem lsa_mayAd.fp (a : ((Int × Int × Int × Int × Int × Int × Int × Int × Unit) × (List Int) × Unit) × Unit) : lsa_mayAd.f a = lsa_mayAd.p a := by
  rw [lsa_mayAd.eq]
  simp only [lsa_mayAd.p, lsa_May.fp] <;> rfl
theorem octet_Row.fp (a : (List Int) × Int × Unit) : octet_Row.f a = octet_Row.p a := by
  rw [octet_Row.eq]
  simp only [octet_Row.p, octet_Put.fp, octet_isMany.fp, rounds_eq] <;> rfl
theorem lsa_raw.fp (a : (Int × Int × Int × Int × Int × Int × Int × Int × Unit) × Unit) : lsa_raw.f a = lsa_raw.p a := by
  rw [lsa_raw.eq]
  simp only [lsa_raw.p, octet_Row.fp] <;> rfl
theorem lsa_bytesOf.fp (a : ((Int × Int × Int × Int × Int × Int × Int × Int × Unit) × (List Int) × Unit) × Unit) : lsa_bytesOf.f a = lsa_bytesOf.p a := by
  rw [lsa_bytesOf.eq]
  simp only [lsa_bytesOf.p, lsa_raw.fp] <;> rfl
theorem lsa_Encode.fp (a : ((Int × Int × Int × Int × Int × Int × Int × Int × Unit) × (List Int) × Unit) × Unit) : lsa_Encode.f a = lsa_Encode.p a := by
  rw [lsa_Encode.eq]
  simp only [lsa_Encode.p, lsa_bytesOf.fp, lsa_mayAd.fp] <;> rfl
theorem lsa_Whole.fp (a : ((Int × Int × Int × Int × Int × Int × Int × Int × Unit) × (List Int) × Unit) × Unit) : lsa_Whole.f a = lsa_Whole.p a := by
  rw [lsa_Whole.eq]
  simp only [lsa_Whole.p, lsa_bytesOf.fp, lsa_mayAd.fp, sum_Fits.fp] <;> rfl
theorem dbd_PutAds.fp (a : (List ((Int × Int × Int × Int × Int × Int × Int × Int × Unit) × (List Int) × Unit)) × Unit) : dbd_PutAds.f a = dbd_PutAds.p a := by
  rw [dbd_PutAds.eq]
  simp only [dbd_PutAds.p, lsa_Encode.fp, lsa_Whole.fp, octet_Put.fp, rounds_eq] <;> rfl
theorem bytes_Clone.fp (a : (List Int) × Unit) : bytes_Clone.f a = bytes_Clone.p a := by
  rw [bytes_Clone.eq]
  obtain ⟨l, u⟩ := a
  cases l with
  | nil => simp [both, bytes_Clone.p]
  | cons x l => simp [bytes_Clone.p]
theorem octet_Cut.fp (a : (List Int) × Int × Unit) : octet_Cut.f a = octet_Cut.p a := by
  rw [octet_Cut.eq]
  simp only [octet_Cut.p, bytes_Clone.fp] <;> rfl
theorem octet_number.fp (a : (List Int) × Unit) : octet_number.f a = octet_number.p a := by
  rw [octet_number.eq]
  simp only [octet_number.p, rounds_eq] <;> rfl
theorem octet_Take.fp (a : (List Int) × Int × Unit) : octet_Take.f a = octet_Take.p a := by
  rw [octet_Take.eq]
  simp only [octet_Take.p, octet_Cut.fp, octet_isMany.fp, octet_number.fp] <;> rfl
theorem octet_Rows.fp (a : (List Int) × Int × Unit) : octet_Rows.f a = octet_Rows.p a := by
  rw [octet_Rows.eq]
  simp only [octet_Rows.p, octet_isMany.fp, octet_number.fp, rounds_eq] <;> rfl
theorem lsa_ReadHead.fp (a : (List Int) × Unit) : lsa_ReadHead.f a = lsa_ReadHead.p a := by
  rw [lsa_ReadHead.eq]
  simp only [lsa_ReadHead.p, lsa_May.fp, octet_Cut.fp, octet_Rows.fp] <;> rfl
theorem lsa_Decode.fp (a : (List Int) × Unit) : lsa_Decode.f a = lsa_Decode.p a := by
  rw [lsa_Decode.eq]
  simp only [lsa_Decode.p, lsa_ReadHead.fp, lsa_Whole.fp, octet_Cut.fp] <;> rfl
theorem dbd_TakeAds.fp (a : (List Int) × Unit) : dbd_TakeAds.f a = dbd_TakeAds.p a := by
  rw [dbd_TakeAds.eq]
  simp only [dbd_TakeAds.p, lsa_Decode.fp, lsa_ReadHead.fp, octet_Take.fp, rounds_eq] <;> rfl
theorem dbd_isIn.fp (a : Int × Int × Int × Unit) : dbd_isIn.f a = dbd_isIn.p a := by
  rw [dbd_isIn.eq]
  simp only [dbd_isIn.p] <;> rfl
theorem lsa_Head.fp (a : (Int × Int × Int × Int × Int × Int × Int × Int × Unit) × Unit) : lsa_Head.f a = lsa_Head.p a := by
  rw [lsa_Head.eq]
  simp only [lsa_Head.p, lsa_May.fp, lsa_raw.fp] <;> rfl
theorem dbd_heads.fp (a : (List Int) × (List (Int × Int × Int × Int × Int × Int × Int × Int × Unit)) × Unit) : dbd_heads.f a = dbd_heads.p a := by
  rw [dbd_heads.eq]
  simp only [dbd_heads.p, lsa_Head.fp, rounds_eq] <;> rfl
theorem dbd_PutAck.fp (a : (List (Int × Int × Int × Int × Int × Int × Int × Int × Unit)) × Unit) : dbd_PutAck.f a = dbd_PutAck.p a := by
  rw [dbd_PutAck.eq]
  simp only [dbd_PutAck.p, dbd_heads.fp, dbd_isIn.fp] <;> rfl
theorem law13_alive.fp (a : Unit) : law13_alive.f a = law13_alive.p a := by
  rw [law13_alive.eq]
  simp only [law13_alive.p, dbd_PutAck.fp, dbd_PutAds.fp, dbd_TakeAds.fp] <;> rfl
theorem ref11_May.fp (a : (Int × Int × Int × Int × Int × Int × Int × Int × Unit) × Unit) : ref11_May.f a = ref11_May.p a := by
  rw [ref11_May.eq]
  simp only [ref11_May.p] <;> rfl
theorem ref11_MayAd.fp (a : ((Int × Int × Int × Int × Int × Int × Int × Int × Unit) × (List Int) × Unit) × Unit) : ref11_MayAd.f a = ref11_MayAd.p a := by
  rw [ref11_MayAd.eq]
  simp only [ref11_MayAd.p, ref11_May.fp] <;> rfl
theorem ref11_two.fp (a : Int × Unit) : ref11_two.f a = ref11_two.p a := by
  rw [ref11_two.eq]
  simp only [ref11_two.p] <;> rfl
theorem ref01_Four.fp (a : Int × Unit) : ref01_Four.f a = ref01_Four.p a := by
  rw [ref01_Four.eq]
  simp only [ref01_Four.p] <;> rfl
theorem ref11_raw.fp (a : (Int × Int × Int × Int × Int × Int × Int × Int × Unit) × Unit) : ref11_raw.f a = ref11_raw.p a := by
  rw [ref11_raw.eq]
  simp only [ref11_raw.p, ref01_Four.fp, ref11_two.fp] <;> rfl
theorem ref11_Encode.fp (a : ((Int × Int × Int × Int × Int × Int × Int × Int × Unit) × (List Int) × Unit) × Unit) : ref11_Encode.f a = ref11_Encode.p a := by
  rw [ref11_Encode.eq]
  simp only [ref11_Encode.p, ref11_MayAd.fp, ref11_raw.fp] <;> rfl
theorem ref02_Pair.fp (a : (List Int) × Unit) : ref02_Pair.f a = ref02_Pair.p a := by
  rw [ref02_Pair.eq]
  simp only [ref02_Pair.p, rounds_eq] <;> rfl
theorem ref02_Fits.fp (a : (List Int) × Unit) : ref02_Fits.f a = ref02_Fits.p a := by
  rw [ref02_Fits.eq]
  simp only [ref02_Fits.p, ref02_Pair.fp] <;> rfl
theorem ref11_Whole.fp (a : ((Int × Int × Int × Int × Int × Int × Int × Int × Unit) × (List Int) × Unit) × Unit) : ref11_Whole.f a = ref11_Whole.p a := by
  rw [ref11_Whole.eq]
  simp only [ref11_Whole.p, ref02_Fits.fp, ref11_MayAd.fp, ref11_raw.fp] <;> rfl
theorem ref13_PutAds.fp (a : (List ((Int × Int × Int × Int × Int × Int × Int × Int × Unit) × (List Int) × Unit)) × Unit) : ref13_PutAds.f a = ref13_PutAds.p a := by
  rw [ref13_PutAds.eq]
  simp only [ref13_PutAds.p, ref01_Four.fp, ref11_Encode.fp, ref11_Whole.fp, rounds_eq] <;> rfl
theorem ref01_Take.fp (a : (List Int) × Int × Unit) : ref01_Take.f a = ref01_Take.p a := by
  rw [ref01_Take.eq]
  simp only [ref01_Take.p, rounds_eq] <;> rfl
theorem ref01_Rows.fp (a : (List Int) × Int × Unit) : ref01_Rows.f a = ref01_Rows.p a := by
  rw [ref01_Rows.eq]
  simp only [ref01_Rows.p, ref01_Take.fp, rounds_eq] <;> rfl
theorem ref11_ReadHead.fp (a : (List Int) × Unit) : ref11_ReadHead.f a = ref11_ReadHead.p a := by
  rw [ref11_ReadHead.eq]
  simp only [ref11_ReadHead.p, ref01_Rows.fp, ref11_May.fp] <;> rfl
theorem ref13_TakeAds.fp (a : (List Int) × Unit) : ref13_TakeAds.f a = ref13_TakeAds.p a := by
  rw [ref13_TakeAds.eq]
  simp only [ref13_TakeAds.p, ref01_Take.fp, ref11_ReadHead.fp, ref11_Whole.fp, rounds_eq] <;> rfl
theorem ref11_Same.fp (a : ((Int × Int × Int × Int × Int × Int × Int × Int × Unit) × (List Int) × Unit) × ((Int × Int × Int × Int × Int × Int × Int × Int × Unit) × (List Int) × Unit) × Unit) : ref11_Same.f a = ref11_Same.p a := by
  rw [ref11_Same.eq]
  simp only [ref11_Same.p] <;> rfl
theorem ref11_All.fp (a : (List ((Int × Int × Int × Int × Int × Int × Int × Int × Unit) × (List Int) × Unit)) × (List ((Int × Int × Int × Int × Int × Int × Int × Int × Unit) × (List Int) × Unit)) × Unit) : ref11_All.f a = ref11_All.p a := by
  rw [ref11_All.eq]
  simp only [ref11_All.p, ref11_Same.fp, rounds_eq] <;> rfl
theorem law13_DbdAds.fp (a : (List ((Int × Int × Int × Int × Int × Int × Int × Int × Unit) × (List Int) × Unit)) × (List Int) × Unit) : law13_DbdAds.f a = law13_DbdAds.p a := by
  rw [law13_DbdAds.eq]
  simp only [law13_DbdAds.p, dbd_PutAds.fp, dbd_TakeAds.fp, law13_alive.fp, law13_short.fp, ref11_All.fp, ref13_PutAds.fp, ref13_TakeAds.fp] <;> rfl
theorem ref11_Head.fp (a : (Int × Int × Int × Int × Int × Int × Int × Int × Unit) × Unit) : ref11_Head.f a = ref11_Head.p a := by
  rw [ref11_Head.eq]
  simp only [ref11_Head.p, ref11_May.fp, ref11_raw.fp] <;> rfl
theorem ref13_heads.fp (a : (List (Int × Int × Int × Int × Int × Int × Int × Int × Unit)) × Unit) : ref13_heads.f a = ref13_heads.p a := by
  rw [ref13_heads.eq]
  simp only [ref13_heads.p, ref11_Head.fp, rounds_eq] <;> rfl
theorem ref13_PutAck.fp (a : (List (Int × Int × Int × Int × Int × Int × Int × Int × Unit)) × Unit) : ref13_PutAck.f a = ref13_PutAck.p a := by
  rw [ref13_PutAck.eq]
  simp only [ref13_PutAck.p, ref13_heads.fp] <;> rfl
theorem dbd_takeHeads.fp (a : (List Int) × Int × Int × Unit) : dbd_takeHeads.f a = dbd_takeHeads.p a := by
  rw [dbd_takeHeads.eq]
  simp only [dbd_takeHeads.p, dbd_isIn.fp, lsa_ReadHead.fp, rounds_eq] <;> rfl
theorem dbd_TakeAck.fp (a : (List Int) × Unit) : dbd_TakeAck.f a = dbd_TakeAck.p a := by
  rw [dbd_TakeAck.eq]
  simp only [dbd_TakeAck.p, dbd_takeHeads.fp] <;> rfl
theorem ref13_readHeads.fp (a : (List Int) × Int × Unit) : ref13_readHeads.f a = ref13_readHeads.p a := by
  rw [ref13_readHeads.eq]
  simp only [ref13_readHeads.p, ref11_ReadHead.fp, rounds_eq] <;> rfl
theorem ref13_TakeAck.fp (a : (List Int) × Unit) : ref13_TakeAck.f a = ref13_TakeAck.p a := by
  rw [ref13_TakeAck.eq]
  simp only [ref13_TakeAck.p, ref13_readHeads.fp] <;> rfl
theorem ref13_Heads.fp (a : (List (Int × Int × Int × Int × Int × Int × Int × Int × Unit)) × (List (Int × Int × Int × Int × Int × Int × Int × Int × Unit)) × Unit) : ref13_Heads.f a = ref13_Heads.p a := by
  rw [ref13_Heads.eq]
  simp only [ref13_Heads.p, rounds_eq] <;> rfl
theorem law13_DbdAck.fp (a : (List (Int × Int × Int × Int × Int × Int × Int × Int × Unit)) × (List Int) × Unit) : law13_DbdAck.f a = law13_DbdAck.p a := by
  rw [law13_DbdAck.eq]
  simp only [law13_DbdAck.p, dbd_PutAck.fp, dbd_TakeAck.fp, law13_alive.fp, ref13_Heads.fp, ref13_PutAck.fp, ref13_TakeAck.fp] <;> rfl
theorem dbd_Pack.fp (a : (List ((Int × Int × Int × Int × Int × Int × Int × Int × Unit) × (List Int) × Unit)) × Unit) : dbd_Pack.f a = dbd_Pack.p a := by
  rw [dbd_Pack.eq]
  simp only [dbd_Pack.p, lsa_Whole.fp, rounds_eq] <;> rfl
theorem ref13_Pack.fp (a : (List ((Int × Int × Int × Int × Int × Int × Int × Int × Unit) × (List Int) × Unit)) × Unit) : ref13_Pack.f a = ref13_Pack.p a := by
  rw [ref13_Pack.eq]
  simp only [ref13_Pack.p, ref11_Whole.fp, rounds_eq] <;> rfl
theorem law13_DbdPack.fp (a : (List ((Int × Int × Int × Int × Int × Int × Int × Int × Unit) × (List Int) × Unit)) × Unit) : law13_DbdPack.f a = law13_DbdPack.p a := by
  rw [law13_DbdPack.eq]
  simp only [law13_DbdPack.p, dbd_Pack.fp, dbd_PutAds.fp, law13_alive.fp, law13_short.fp, ref11_All.fp, ref13_Pack.fp, rounds_eq] <;> rfl
theorem dbd_PutAsk.fp (a : (List (Int × Int × Int × Unit)) × Unit) : dbd_PutAsk.f a = dbd_PutAsk.p a := by
  rw [dbd_PutAsk.eq]
  simp only [dbd_PutAsk.p, dbd_isIn.fp, octet_Row.fp, rounds_eq] <;> rfl
theorem ref13_PutAsk.fp (a : (List (Int × Int × Int × Unit)) × Unit) : ref13_PutAsk.f a = ref13_PutAsk.p a := by
  rw [ref13_PutAsk.eq]
  simp only [ref13_PutAsk.p, ref01_Four.fp, rounds_eq] <;> rfl
theorem dbd_TakeAsk.fp (a : (List Int) × Unit) : dbd_TakeAsk.f a = dbd_TakeAsk.p a := by
  rw [dbd_TakeAsk.eq]
  simp only [dbd_TakeAsk.p, octet_Rows.fp, rounds_eq] <;> rfl
theorem ref13_TakeAsk.fp (a : (List Int) × Unit) : ref13_TakeAsk.f a = ref13_TakeAsk.p a := by
  rw [ref13_TakeAsk.eq]
  simp only [ref13_TakeAsk.p, ref01_Rows.fp, rounds_eq] <;> rfl
theorem ref13_Keys.fp (a : (List (Int × Int × Int × Unit)) × (List (Int × Int × Int × Unit)) × Unit) : ref13_Keys.f a = ref13_Keys.p a := by
  rw [ref13_Keys.eq]
  simp only [ref13_Keys.p, rounds_eq] <;> rfl
theorem law13_DbdAsk.fp (a : (List (Int × Int × Int × Unit)) × (List Int) × Unit) : law13_DbdAsk.f a = law13_DbdAsk.p a := by
  rw [law13_DbdAsk.eq]
  simp only [law13_DbdAsk.p, dbd_PutAsk.fp, dbd_TakeAsk.fp, law13_alive.fp, ref13_Keys.fp, ref13_PutAsk.fp, ref13_TakeAsk.fp] <;> rfl
theorem dbd_mark.fp (a : Bool × Int × Unit) : dbd_mark.f a = dbd_mark.p a := by
  rw [dbd_mark.eq]
  simp only [dbd_mark.p] <;> rfl
theorem dbd_PutDesc.fp (a : (Int × Int × Bool × Bool × Bool × Int × (List (Int × Int × Int × Int × Int × Int × Int × Int × Unit)) × Unit) × Unit) : dbd_PutDesc.f a = dbd_PutDesc.p a := by
  rw [dbd_PutDesc.eq]
  simp only [dbd_PutDesc.p, dbd_heads.fp, dbd_isIn.fp, dbd_mark.fp, octet_Row.fp] <;> rfl
theorem law13_plain.fp (a : (Int × Int × Bool × Bool × Bool × Int × (List (Int × Int × Int × Int × Int × Int × Int × Int × Unit)) × Unit) × Unit) : law13_plain.f a = law13_plain.p a := by
  rw [law13_plain.eq]
  simp only [law13_plain.p] <;> rfl
theorem ref13_PutDesc.fp (a : (Int × Int × Bool × Bool × Bool × Int × (List (Int × Int × Int × Int × Int × Int × Int × Int × Unit)) × Unit) × Unit) : ref13_PutDesc.f a = ref13_PutDesc.p a := by
  rw [ref13_PutDesc.eq]
  simp only [ref13_PutDesc.p, ref01_Four.fp, ref13_heads.fp] <;> rfl
theorem dbd_TakeDesc.fp (a : (List Int) × Unit) : dbd_TakeDesc.f a = dbd_TakeDesc.p a := by
  rw [dbd_TakeDesc.eq]
  simp only [dbd_TakeDesc.p, dbd_takeHeads.fp, octet_Cut.fp, octet_Rows.fp] <;> rfl
theorem ref13_TakeDesc.fp (a : (List Int) × Unit) : ref13_TakeDesc.f a = ref13_TakeDesc.p a := by
  rw [ref13_TakeDesc.eq]
  simp only [ref13_TakeDesc.p, ref01_Take.fp, ref13_readHeads.fp] <;> rfl
theorem ref13_Same.fp (a : (Int × Int × Bool × Bool × Bool × Int × (List (Int × Int × Int × Int × Int × Int × Int × Int × Unit)) × Unit) × (Int × Int × Bool × Bool × Bool × Int × (List (Int × Int × Int × Int × Int × Int × Int × Int × Unit)) × Unit) × Unit) : ref13_Same.f a = ref13_Same.p a := by
  rw [ref13_Same.eq]
  simp only [ref13_Same.p, ref13_Heads.fp] <;> rfl
theorem law13_DbdDesc.fp (a : (Int × Int × Bool × Bool × Bool × Int × (List (Int × Int × Int × Int × Int × Int × Int × Int × Unit)) × Unit) × (List Int) × Unit) : law13_DbdDesc.f a = law13_DbdDesc.p a := by
  rw [law13_DbdDesc.eq]
  simp only [law13_DbdDesc.p, dbd_PutDesc.fp, dbd_TakeDesc.fp, law13_alive.fp, law13_plain.fp, ref13_PutDesc.fp, ref13_Same.fp, ref13_TakeDesc.fp] <;> rfl
end Go.Proofs.Ytmmkdalbcfjogaa.F
