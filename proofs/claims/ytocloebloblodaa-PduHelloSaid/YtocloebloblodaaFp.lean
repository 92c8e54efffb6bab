/- The program's functions as plain functions, and the plain law over them. -/
import Derived.Test.YtocloebloblodaaF
import Derived.Test.YtocloebloblodaaP
set_option linter.unusedVariables false
set_option linter.unusedSimpArgs false
set_option maxRecDepth 100000
set_option linter.unusedVariables false
open Go Go.Proofs.Fr
namespace Go.Proofs.Ytocloebloblodaa.F
theorem sum_Fits.fp (a : List Int × Unit) : sum_Fits.f a = sum_Fits.p a := rfl
theorem sum_Pair.fp (a : List Int × Unit) : sum_Pair.f a = sum_Pair.p a := rfl
theorem law22_small.fp (a : (List (Int × (List Int) × Unit)) × Unit) : law22_small.f a = law22_small.p a := by
  rw [law22_small.eq]
  simp only [law22_small.p, rounds_eq] <;> rfl
theorem tlv_Put.fp (a : (List (Int × (List Int) × Unit)) × Unit) : tlv_Put.f a = tlv_Put.p a := by
  rw [tlv_Put.eq]
  simp only [tlv_Put.p, rounds_eq] <;> rfl
theorem pdu_headOf.fp (a : Int × Unit) : pdu_headOf.f a = pdu_headOf.p a := by
  rw [pdu_headOf.eq]
  simp only [pdu_headOf.p] <;> rfl
theorem pdu_isIn.fp (a : Int × Int × Unit) : pdu_isIn.f a = pdu_isIn.p a := by
  rw [pdu_isIn.eq]
  simp only [pdu_isIn.p] <;> rfl
theorem pdu_begin.fp (a : Int × Unit) : pdu_begin.f a = pdu_begin.p a := by
  rw [pdu_begin.eq]
  simp only [pdu_begin.p, pdu_headOf.fp] <;> rfl
theorem pdu_page_put.fp (a : (List Int) × Int × Int × Unit) : pdu_page_put.f a = pdu_page_put.p a := by
  rw [pdu_page_put.eq]
  simp only [pdu_page_put.p, rounds_eq] <;> rfl
theorem pdu_PutHello.fp (a : (Int × Int × Int × Int × (List (Int × (List Int) × Unit)) × Unit) × Unit) : pdu_PutHello.f a = pdu_PutHello.p a := by
  rw [pdu_PutHello.eq]
  simp only [pdu_PutHello.p, pdu_begin.fp, pdu_headOf.fp, pdu_isIn.fp, pdu_page_put.fp, tlv_Put.fp] <;> rfl
theorem bytes_Equal.fp (a : (List Int) × (List Int) × Unit) : bytes_Equal.f a = bytes_Equal.p a := by
  rw [bytes_Equal.eq]
  simp only [bytes_Equal.p] <;> rfl
theorem pdu_Kind.fp (a : (List Int) × Unit) : pdu_Kind.f a = pdu_Kind.p a := by
  rw [pdu_Kind.eq]
  simp only [pdu_Kind.p, bytes_Equal.fp, pdu_begin.fp, pdu_headOf.fp] <;> rfl
theorem pdu_isLevel.fp (a : Int × Unit) : pdu_isLevel.f a = pdu_isLevel.p a := by
  rw [pdu_isLevel.eq]
  simp only [pdu_isLevel.p] <;> rfl
theorem pdu_PutLsp.fp (a : (Int × Int × Int × Int × Int × Int × (List (Int × (List Int) × Unit)) × Unit) × Unit) : pdu_PutLsp.f a = pdu_PutLsp.p a := by
  rw [pdu_PutLsp.eq]
  simp only [pdu_PutLsp.p, pdu_begin.fp, pdu_headOf.fp, pdu_isIn.fp, pdu_isLevel.fp, pdu_page_put.fp, tlv_Put.fp] <;> rfl
theorem bytes_Clone.fp (a : (List Int) × Unit) : bytes_Clone.f a = bytes_Clone.p a := by
  rw [bytes_Clone.eq]
  obtain ⟨l, u⟩ := a
  cases l with
  | nil => simp [both, bytes_Clone.p]
  | cons x l => simp [bytes_Clone.p]
theorem sum_residue.fp (a : Int × Unit) : sum_residue.f a = sum_residue.p a := by
  rw [sum_residue.eq]
  simp only [sum_residue.p] <;> rfl
theorem sum_Place.fp (a : (List Int) × Int × Unit) : sum_Place.f a = sum_Place.p a := by
  rw [sum_Place.eq]
  simp only [sum_Place.p, bytes_Clone.fp, sum_Pair.fp, sum_residue.fp] <;> rfl
theorem octet_isMany.fp (a : Int × Unit) : octet_isMany.f a = octet_isMany.p a := by
  rw [octet_isMany.eq]
  simp only [octet_isMany.p] <;> rfl
theorem octet_Cut.fp (a : (List Int) × Int × Unit) : octet_Cut.f a = octet_Cut.p a := by
  rw [octet_Cut.eq]
  simp only [octet_Cut.p, bytes_Clone.fp] <;> rfl
theorem octet_number.fp (a : (List Int) × Unit) : octet_number.f a = octet_number.p a := by
  rw [octet_number.eq]
  simp only [octet_number.p, rounds_eq] <;> rfl
theorem octet_Take.fp (a : (List Int) × Int × Unit) : octet_Take.f a = octet_Take.p a := by
  rw [octet_Take.eq]
  simp only [octet_Take.p, octet_Cut.fp, octet_isMany.fp, octet_number.fp] <;> rfl
theorem pdu_Seal.fp (a : (Int × Int × Int × Int × Int × Int × (List (Int × (List Int) × Unit)) × Unit) × Unit) : pdu_Seal.f a = pdu_Seal.p a := by
  rw [pdu_Seal.eq]
  simp only [pdu_Seal.p, octet_Take.fp, pdu_PutLsp.fp, sum_Place.fp] <;> rfl
theorem slices_Index_int_int.fp (a : (List Int) × Int × Unit) : slices_Index_int_int.f a = slices_Index_int_int.p a := by
  rw [slices_Index_int_int.eq]
  simp only [slices_Index_int_int.p, rounds_eq] <;> rfl
theorem slices_Contains_int_int.fp (a : (List Int) × Int × Unit) : slices_Contains_int_int.f a = slices_Contains_int_int.p a := by
  rw [slices_Contains_int_int.eq]
  simp only [slices_Contains_int_int.p, slices_Index_int_int.fp] <;> rfl
theorem pdu_isWritten.fp (a : Int × (List Int) × Unit) : pdu_isWritten.f a = pdu_isWritten.p a := by
  rw [pdu_isWritten.eq]
  simp only [pdu_isWritten.p] <;> rfl
theorem tlv_Take.fp (a : (List Int) × Unit) : tlv_Take.f a = tlv_Take.p a := by
  rw [tlv_Take.eq]
  simp only [tlv_Take.p, octet_Cut.fp, rounds_eq] <;> rfl
theorem pdu_open.fp (a : (List Int) × (List Int) × Unit) : pdu_open.f a = pdu_open.p a := by
  rw [pdu_open.eq]
  simp only [pdu_open.p, pdu_Kind.fp, pdu_headOf.fp, pdu_isWritten.fp, slices_Contains_int_int.fp, tlv_Take.fp] <;> rfl
theorem pdu_reader_take.fp (a : Unit × Int × Unit) : pdu_reader_take.f a = pdu_reader_take.p a := by
  rw [pdu_reader_take.eq]
  simp only [pdu_reader_take.p] <;> rfl
theorem pdu_reader_take_2.fp (a : ((List Int) × Unit) × Int × Unit) : pdu_reader_take_2.f a = pdu_reader_take_2.p a := by
  rw [pdu_reader_take_2.eq]
  simp only [pdu_reader_take_2.p, rounds_eq] <;> rfl
theorem pdu_TakeLsp.fp (a : (List Int) × Unit) : pdu_TakeLsp.f a = pdu_TakeLsp.p a := by
  rw [pdu_TakeLsp.eq]
  simp only [pdu_TakeLsp.p, pdu_open.fp, pdu_reader_take.fp, pdu_reader_take_2.fp, sum_Fits.fp] <;> rfl
theorem law22_alive.fp (a : Unit) : law22_alive.f a = law22_alive.p a := by
  rw [law22_alive.eq]
  simp only [law22_alive.p, pdu_Kind.fp, pdu_PutHello.fp, pdu_PutLsp.fp, pdu_Seal.fp, pdu_TakeLsp.fp] <;> rfl
theorem law22_things.fp (a : (List (Int × (List Int) × Unit)) × Unit) : law22_things.f a = law22_things.p a := by
  rw [law22_things.eq]
  simp only [law22_things.p, rounds_eq] <;> rfl
theorem law22_lsp.fp (a : (Int × Int × Int × Int × Int × Int × (List (Int × (List Int) × Unit)) × Unit) × Unit) : law22_lsp.f a = law22_lsp.p a := by
  rw [law22_lsp.eq]
  simp only [law22_lsp.p, law22_things.fp] <;> rfl
theorem ref21_Put.fp (a : (List (Int × (List Int) × Unit)) × Unit) : ref21_Put.f a = ref21_Put.p a := by
  rw [ref21_Put.eq]
  simp only [ref21_Put.p, rounds_eq] <;> rfl
theorem ref22_short.fp (a : Int × Unit) : ref22_short.f a = ref22_short.p a := by
  rw [ref22_short.eq]
  simp only [ref22_short.p] <;> rfl
theorem ref22_begin.fp (a : Int × Int × Unit) : ref22_begin.f a = ref22_begin.p a := by
  rw [ref22_begin.eq]
  simp only [ref22_begin.p] <;> rfl
theorem ref22_two.fp (a : Int × Unit) : ref22_two.f a = ref22_two.p a := by
  rw [ref22_two.eq]
  simp only [ref22_two.p] <;> rfl
theorem ref01_Four.fp (a : Int × Unit) : ref01_Four.f a = ref01_Four.p a := by
  rw [ref01_Four.eq]
  simp only [ref01_Four.p] <;> rfl
theorem ref22_eight.fp (a : Int × Unit) : ref22_eight.f a = ref22_eight.p a := by
  rw [ref22_eight.eq]
  simp only [ref22_eight.p, ref01_Four.fp] <;> rfl
theorem ref22_PutLsp.fp (a : (Int × Int × Int × Int × Int × Int × (List (Int × (List Int) × Unit)) × Unit) × Unit) : ref22_PutLsp.f a = ref22_PutLsp.p a := by
  rw [ref22_PutLsp.eq]
  simp only [ref22_PutLsp.p, ref01_Four.fp, ref21_Put.fp, ref22_begin.fp, ref22_eight.fp, ref22_short.fp, ref22_two.fp] <;> rfl
theorem ref02_Pair.fp (a : (List Int) × Unit) : ref02_Pair.f a = ref02_Pair.p a := by
  rw [ref02_Pair.eq]
  simp only [ref02_Pair.p, rounds_eq] <;> rfl
theorem ref02_Place.fp (a : (List Int) × Int × Unit) : ref02_Place.f a = ref02_Place.p a := by
  rw [ref02_Place.eq]
  simp only [ref02_Place.p, ref02_Pair.fp, rounds_eq] <;> rfl
theorem ref22_number.fp (a : (List Int) × Unit) : ref22_number.f a = ref22_number.p a := by
  rw [ref22_number.eq]
  simp only [ref22_number.p, rounds_eq] <;> rfl
theorem ref22_Seal.fp (a : (Int × Int × Int × Int × Int × Int × (List (Int × (List Int) × Unit)) × Unit) × Unit) : ref22_Seal.f a = ref22_Seal.p a := by
  rw [ref22_Seal.eq]
  simp only [ref22_Seal.p, ref02_Place.fp, ref22_PutLsp.fp, ref22_number.fp] <;> rfl
theorem ref22_headOf.fp (a : Int × Unit) : ref22_headOf.f a = ref22_headOf.p a := by
  rw [ref22_headOf.eq]
  simp only [ref22_headOf.p] <;> rfl
theorem ref22_Kind.fp (a : (List Int) × Unit) : ref22_Kind.f a = ref22_Kind.p a := by
  rw [ref22_Kind.eq]
  simp only [ref22_Kind.p, ref22_begin.fp, ref22_headOf.fp] <;> rfl
theorem ref22_written.fp (a : Int × (List Int) × Unit) : ref22_written.f a = ref22_written.p a := by
  rw [ref22_written.eq]
  simp only [ref22_written.p] <;> rfl
theorem ref21_Take.fp (a : (List Int) × Unit) : ref21_Take.f a = ref21_Take.p a := by
  rw [ref21_Take.eq]
  simp only [ref21_Take.p, rounds_eq] <;> rfl
theorem ref22_open.fp (a : (List Int) × Int × Int × Int × Unit) : ref22_open.f a = ref22_open.p a := by
  rw [ref22_open.eq]
  simp only [ref22_open.p, ref21_Take.fp, ref22_Kind.fp, ref22_headOf.fp, ref22_number.fp, ref22_written.fp] <;> rfl
theorem ref02_Fits.fp (a : (List Int) × Unit) : ref02_Fits.f a = ref02_Fits.p a := by
  rw [ref02_Fits.eq]
  simp only [ref02_Fits.p, ref02_Pair.fp] <;> rfl
theorem ref22_TakeLsp.fp (a : (List Int) × Unit) : ref22_TakeLsp.f a = ref22_TakeLsp.p a := by
  rw [ref22_TakeLsp.eq]
  simp only [ref22_TakeLsp.p, ref02_Fits.fp, ref22_number.fp, ref22_open.fp] <;> rfl
theorem ref21_Things.fp (a : (List (Int × (List Int) × Unit)) × (List (Int × (List Int) × Unit)) × Unit) : ref21_Things.f a = ref21_Things.p a := by
  rw [ref21_Things.eq]
  simp only [ref21_Things.p, rounds_eq] <;> rfl
theorem ref22_SameLsp.fp (a : (Int × Int × Int × Int × Int × Int × (List (Int × (List Int) × Unit)) × Unit) × (Int × Int × Int × Int × Int × Int × (List (Int × (List Int) × Unit)) × Unit) × Unit) : ref22_SameLsp.f a = ref22_SameLsp.p a := by
  rw [ref22_SameLsp.eq]
  simp only [ref22_SameLsp.p, ref21_Things.fp] <;> rfl
theorem law22_PduLsp.fp (a : (Int × Int × Int × Int × Int × Int × (List (Int × (List Int) × Unit)) × Unit) × (List Int) × Unit) : law22_PduLsp.f a = law22_PduLsp.p a := by
  rw [law22_PduLsp.eq]
  simp only [law22_PduLsp.p, law22_alive.fp, law22_lsp.fp, law22_small.fp, pdu_PutLsp.fp, pdu_Seal.fp, pdu_TakeLsp.fp, ref22_PutLsp.fp, ref22_SameLsp.fp, ref22_Seal.fp, ref22_TakeLsp.fp] <;> rfl
theorem law22_PduSpoilt.fp (a : (Int × Int × Int × Int × Int × Int × (List (Int × (List Int) × Unit)) × Unit) × Int × Int × Unit) : law22_PduSpoilt.f a = law22_PduSpoilt.p a := by
  rw [law22_PduSpoilt.eq]
  simp only [law22_PduSpoilt.p, law22_alive.fp, law22_small.fp, pdu_PutLsp.fp, pdu_Seal.fp, pdu_TakeLsp.fp] <;> rfl
theorem law22_hello.fp (a : (Int × Int × Int × Int × (List (Int × (List Int) × Unit)) × Unit) × Unit) : law22_hello.f a = law22_hello.p a := by
  rw [law22_hello.eq]
  simp only [law22_hello.p, law22_things.fp] <;> rfl
theorem ref22_PutHello.fp (a : (Int × Int × Int × Int × (List (Int × (List Int) × Unit)) × Unit) × Unit) : ref22_PutHello.f a = ref22_PutHello.p a := by
  rw [ref22_PutHello.eq]
  simp only [ref22_PutHello.p, ref21_Put.fp, ref22_begin.fp, ref22_eight.fp, ref22_short.fp, ref22_two.fp] <;> rfl
theorem pdu_TakeHello.fp (a : (List Int) × Unit) : pdu_TakeHello.f a = pdu_TakeHello.p a := by
  rw [pdu_TakeHello.eq]
  simp only [pdu_TakeHello.p, pdu_open.fp, pdu_reader_take.fp, pdu_reader_take_2.fp] <;> rfl
theorem ref22_TakeHello.fp (a : (List Int) × Unit) : ref22_TakeHello.f a = ref22_TakeHello.p a := by
  rw [ref22_TakeHello.eq]
  simp only [ref22_TakeHello.p, ref22_number.fp, ref22_open.fp] <;> rfl
theorem ref22_SameHello.fp (a : (Int × Int × Int × Int × (List (Int × (List Int) × Unit)) × Unit) × (Int × Int × Int × Int × (List (Int × (List Int) × Unit)) × Unit) × Unit) : ref22_SameHello.f a = ref22_SameHello.p a := by
  rw [ref22_SameHello.eq]
  simp only [ref22_SameHello.p, ref21_Things.fp] <;> rfl
theorem law22_PduHello.fp (a : (Int × Int × Int × Int × (List (Int × (List Int) × Unit)) × Unit) × (List Int) × Unit) : law22_PduHello.f a = law22_PduHello.p a := by
  rw [law22_PduHello.eq]
  simp only [law22_PduHello.p, law22_alive.fp, law22_hello.fp, law22_small.fp, pdu_Kind.fp, pdu_PutHello.fp, pdu_TakeHello.fp, ref22_Kind.fp, ref22_PutHello.fp, ref22_SameHello.fp, ref22_TakeHello.fp] <;> rfl
end Go.Proofs.Ytocloebloblodaa.F
