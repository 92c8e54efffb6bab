/- The program's functions as plain functions, and the plain law over them. -/
import Derived.Test.YtocloebloblodaaF
import Derived.Test.YtocloebloblodaaP
set_option linter.unusedVariables false
set_option linter.unusedSimpArgs false
set_option maxRecDepth 100000
set_option linter.unusedVariables false
open Go Go.Proofs.Fr
namespace Go.Proofs.Ytocloebloblodaa.F
theorem sum_Fits.fp (a : List Int × Unit) : sum_Fits.f a = sum_Fits.p a := rfl
theorem sum_Pair.fp (a : List Int × Unit) : sum_Pair.f a = sum_Pair.p a := rfl
theorem pdu_entries.fp (a : ((List (Int × Int × Int × Int × Unit)) × Unit)) : pdu_entries.f a = pdu_entries.p a := by kernel_rfl
theorem tlv_Put.fp (a : (List (Int × (List Int) × Unit)) × Unit) : tlv_Put.f a = tlv_Put.p a := by
  rw [tlv_Put.eq]
  simp only [tlv_Put.p, rounds_eq] <;> rfl
theorem pdu_headOf.fp (a : Int × Unit) : pdu_headOf.f a = pdu_headOf.p a := by
  rw [pdu_headOf.eq]
  simp only [pdu_headOf.p] <;> rfl
theorem pdu_isIn.fp (a : Int × Int × Unit) : pdu_isIn.f a = pdu_isIn.p a := by
  rw [pdu_isIn.eq]
  simp only [pdu_isIn.p] <;> rfl
theorem pdu_begin.fp (a : Int × Unit) : pdu_begin.f a = pdu_begin.p a := by
  rw [pdu_begin.eq]
  simp only [pdu_begin.p, pdu_headOf.fp] <;> rfl
theorem pdu_page_put.fp (a : (List Int) × Int × Int × Unit) : pdu_page_put.f a = pdu_page_put.p a := by
  rw [pdu_page_put.eq]
  simp only [pdu_page_put.p, rounds_eq] <;> rfl
theorem pdu_PutHello.fp (a : (Int × Int × Int × Int × (List (Int × (List Int) × Unit)) × Unit) × Unit) : pdu_PutHello.f a = pdu_PutHello.p a := by
  rw [pdu_PutHello.eq]
  simp only [pdu_PutHello.p, pdu_begin.fp, pdu_headOf.fp, pdu_isIn.fp, pdu_page_put.fp, tlv_Put.fp] <;> rfl
theorem bytes_Equal.fp (a : (List Int) × (List Int) × Unit) : bytes_Equal.f a = bytes_Equal.p a := by
  rw [bytes_Equal.eq]
  simp only [bytes_Equal.p] <;> rfl
theorem pdu_Kind.fp (a : (List Int) × Unit) : pdu_Kind.f a = pdu_Kind.p a := by
  rw [pdu_Kind.eq]
  simp only [pdu_Kind.p, bytes_Equal.fp, pdu_begin.fp, pdu_headOf.fp] <;> rfl
theorem pdu_isLevel.fp (a : Int × Unit) : pdu_isLevel.f a = pdu_isLevel.p a := by
  rw [pdu_isLevel.eq]
  simp only [pdu_isLevel.p] <;> rfl
theorem pdu_PutLsp.fp (a : (Int × Int × Int × Int × Int × Int × (List (Int × (List Int) × Unit)) × Unit) × Unit) : pdu_PutLsp.f a = pdu_PutLsp.p a := by
  rw [pdu_PutLsp.eq]
  simp only [pdu_PutLsp.p, pdu_begin.fp, pdu_headOf.fp, pdu_isIn.fp, pdu_isLevel.fp, pdu_page_put.fp, tlv_Put.fp] <;> rfl
theorem bytes_Clone.fp (a : (List Int) × Unit) : bytes_Clone.f a = bytes_Clone.p a := by
  rw [bytes_Clone.eq]
  obtain ⟨l, u⟩ := a
  cases l with
  | nil => simp [both, bytes_Clone.p]
  | cons x l => simp [bytes_Clone.p]
theorem sum_residue.fp (a : Int × Unit) : sum_residue.f a = sum_residue.p a := by
  rw [sum_residue.eq]
  simp only [sum_residue.p] <;> rfl
theorem sum_Place.fp (a : (List Int) × Int × Unit) : sum_Place.f a = sum_Place.p a := by
  rw [sum_Place.eq]
  simp only [sum_Place.p, bytes_Clone.fp, sum_Pair.fp, sum_residue.fp] <;> rfl
theorem octet_isMany.fp (a : Int × Unit) : octet_isMany.f a = octet_isMany.p a := by
  rw [octet_isMany.eq]
  simp only [octet_isMany.p] <;> rfl
theorem octet_Cut.fp (a : (List Int) × Int × Unit) : octet_Cut.f a = octet_Cut.p a := by
  rw [octet_Cut.eq]
  simp only [octet_Cut.p, bytes_Clone.fp] <;> rfl
theorem octet_number.fp (a : (List Int) × Unit) : octet_number.f a = octet_number.p a := by
  rw [octet_number.eq]
  simp only [octet_number.p, rounds_eq] <;> rfl
theorem octet_Take.fp (a : (List Int) × Int × Unit) : octet_Take.f a = octet_Take.p a := by
  rw [octet_Take.eq]
  simp only [octet_Take.p, octet_Cut.fp, octet_isMany.fp, octet_number.fp] <;> rfl
theorem pdu_Seal.fp (a : (Int × Int × Int × Int × Int × Int × (List (Int × (List Int) × Unit)) × Unit) × Unit) : pdu_Seal.f a = pdu_Seal.p a := by
  rw [pdu_Seal.eq]
  simp only [pdu_Seal.p, octet_Take.fp, pdu_PutLsp.fp, sum_Place.fp] <;> rfl
theorem slices_Index_int_int.fp (a : (List Int) × Int × Unit) : slices_Index_int_int.f a = slices_Index_int_int.p a := by
  rw [slices_Index_int_int.eq]
  simp only [slices_Index_int_int.p, rounds_eq] <;> rfl
theorem slices_Contains_int_int.fp (a : (List Int) × Int × Unit) : slices_Contains_int_int.f a = slices_Contains_int_int.p a := by
  rw [slices_Contains_int_int.eq]
  simp only [slices_Contains_int_int.p, slices_Index_int_int.fp] <;> rfl
theorem pdu_isWritten.fp (a : Int × (List Int) × Unit) : pdu_isWritten.f a = pdu_isWritten.p a := by
  rw [pdu_isWritten.eq]
  simp only [pdu_isWritten.p] <;> rfl
theorem tlv_Take.fp (a : (List Int) × Unit) : tlv_Take.f a = tlv_Take.p a := by
  rw [tlv_Take.eq]
  simp only [tlv_Take.p, octet_Cut.fp, rounds_eq] <;> rfl
theorem pdu_open.fp (a : (List Int) × (List Int) × Unit) : pdu_open.f a = pdu_open.p a := by
  rw [pdu_open.eq]
  simp only [pdu_open.p, pdu_Kind.fp, pdu_headOf.fp, pdu_isWritten.fp, slices_Contains_int_int.fp, tlv_Take.fp] <;> rfl
theorem pdu_reader_take.fp (a : Unit × Int × Unit) : pdu_reader_take.f a = pdu_reader_take.p a := by
  rw [pdu_reader_take.eq]
  simp only [pdu_reader_take.p] <;> rfl
theorem pdu_reader_take_2.fp (a : (List Int) × Int × Unit) : pdu_reader_take_2.f a = pdu_reader_take_2.p a := by
  rw [pdu_reader_take_2.eq]
  simp only [pdu_reader_take_2.p, rounds_eq] <;> rfl
theorem pdu_TakeLsp.fp (a : (List Int) × Unit) : pdu_TakeLsp.f a = pdu_TakeLsp.p a := by
  rw [pdu_TakeLsp.eq]
  simp only [pdu_TakeLsp.p, pdu_open.fp, pdu_reader_take_2.fp, sum_Fits.fp] <;> rfl
theorem law22_alive.fp (a : Unit) : law22_alive.f a = law22_alive.p a := by
  rw [law22_alive.eq]
  simp only [law22_alive.p, pdu_Kind.fp, pdu_PutHello.fp, pdu_PutLsp.fp, pdu_Seal.fp, pdu_TakeLsp.fp] <;> rfl
theorem pdu_List_kind.fp (a : (Int × Bool × Int × Int × Int × (List (Int × Int × Int × Int × Unit)) × Unit) × Unit) : pdu_List_kind.f a = pdu_List_kind.p a := by
  rw [pdu_List_kind.eq]
  simp only [pdu_List_kind.p] <;> rfl
theorem pdu_PutList.fp (a : (Int × Bool × Int × Int × Int × (List (Int × Int × Int × Int × Unit)) × Unit) × Unit) : pdu_PutList.f a = pdu_PutList.p a := by
  rw [pdu_PutList.eq]
  simp only [pdu_PutList.p, pdu_List_kind.fp, pdu_begin.fp, pdu_entries.fp, pdu_headOf.fp, pdu_isLevel.fp, pdu_page_put.fp] <;> rfl
theorem law22_list.fp (a : (Int × Bool × Int × Int × Int × (List (Int × Int × Int × Int × Unit)) × Unit) × Unit) : law22_list.f a = law22_list.p a := by
  rw [law22_list.eq]
  simp only [law22_list.p, rounds_eq] <;> rfl
theorem ref22_short.fp (a : Int × Unit) : ref22_short.f a = ref22_short.p a := by
  rw [ref22_short.eq]
  simp only [ref22_short.p] <;> rfl
theorem ref22_two.fp (a : Int × Unit) : ref22_two.f a = ref22_two.p a := by
  rw [ref22_two.eq]
  simp only [ref22_two.p] <;> rfl
theorem ref01_Four.fp (a : Int × Unit) : ref01_Four.f a = ref01_Four.p a := by
  rw [ref01_Four.eq]
  simp only [ref01_Four.p] <;> rfl
theorem ref22_eight.fp (a : Int × Unit) : ref22_eight.f a = ref22_eight.p a := by
  rw [ref22_eight.eq]
  simp only [ref22_eight.p, ref01_Four.fp] <;> rfl
theorem ref22_begin.fp (a : Int × Int × Unit) : ref22_begin.f a = ref22_begin.p a := by
  rw [ref22_begin.eq]
  simp only [ref22_begin.p] <;> rfl
theorem ref22_PutList.fp (a : (Int × Bool × Int × Int × Int × (List (Int × Int × Int × Int × Unit)) × Unit) × Unit) : ref22_PutList.f a = ref22_PutList.p a := by
  rw [ref22_PutList.eq]
  simp only [ref22_PutList.p, ref01_Four.fp, ref22_begin.fp, ref22_eight.fp, ref22_short.fp, ref22_two.fp, rounds_eq] <;> rfl
theorem pdu_entriesOf_1.fp (a : (Int × (List Int) × Unit) × Unit) : pdu_entriesOf_1.f a = pdu_entriesOf_1.p a := by
  rw [pdu_entriesOf_1.eq]
  simp only [pdu_entriesOf_1.p] <;> rfl
theorem slices_IndexFunc_tlv_Thing_tlv_Thing.fp (a : (List (Int × (List Int) × Unit)) × Unit × Unit) : slices_IndexFunc_tlv_Thing_tlv_Thing.f a = slices_IndexFunc_tlv_Thing_tlv_Thing.p a := by
  rw [slices_IndexFunc_tlv_Thing_tlv_Thing.eq]
  simp only [slices_IndexFunc_tlv_Thing_tlv_Thing.p, pdu_entriesOf_1.fp, rounds_eq] <;> rfl
theorem slices_ContainsFunc_tlv_Thing_tlv_Thing.fp (a : (List (Int × (List Int) × Unit)) × Unit × Unit) : slices_ContainsFunc_tlv_Thing_tlv_Thing.f a = slices_ContainsFunc_tlv_Thing_tlv_Thing.p a := by
  rw [slices_ContainsFunc_tlv_Thing_tlv_Thing.eq]
  simp only [slices_ContainsFunc_tlv_Thing_tlv_Thing.p, slices_IndexFunc_tlv_Thing_tlv_Thing.fp] <;> rfl
theorem pdu_entriesOf.fp (a : (List (Int × (List Int) × Unit)) × Unit) : pdu_entriesOf.f a = pdu_entriesOf.p a := by
  rw [pdu_entriesOf.eq]
  simp only [pdu_entriesOf.p, pdu_reader_take_2.fp, slices_ContainsFunc_tlv_Thing_tlv_Thing.fp, rounds_eq] <;> rfl
theorem pdu_TakeList.fp (a : (List Int) × Unit) : pdu_TakeList.f a = pdu_TakeList.p a := by
  rw [pdu_TakeList.eq]
  simp only [pdu_TakeList.p, pdu_entriesOf.fp, pdu_open.fp, pdu_reader_take_2.fp] <;> rfl
theorem ref22_headOf.fp (a : Int × Unit) : ref22_headOf.f a = ref22_headOf.p a := by
  rw [ref22_headOf.eq]
  simp only [ref22_headOf.p] <;> rfl
theorem ref22_Kind.fp (a : (List Int) × Unit) : ref22_Kind.f a = ref22_Kind.p a := by
  rw [ref22_Kind.eq]
  simp only [ref22_Kind.p, ref22_begin.fp, ref22_headOf.fp] <;> rfl
theorem ref22_number.fp (a : (List Int) × Unit) : ref22_number.f a = ref22_number.p a := by
  rw [ref22_number.eq]
  simp only [ref22_number.p, rounds_eq] <;> rfl
theorem ref22_written.fp (a : Int × (List Int) × Unit) : ref22_written.f a = ref22_written.p a := by
  rw [ref22_written.eq]
  simp only [ref22_written.p] <;> rfl
theorem ref21_Take.fp (a : (List Int) × Unit) : ref21_Take.f a = ref21_Take.p a := by
  rw [ref21_Take.eq]
  simp only [ref21_Take.p, rounds_eq] <;> rfl
theorem ref22_open.fp (a : (List Int) × Int × Int × Int × Unit) : ref22_open.f a = ref22_open.p a := by
  rw [ref22_open.eq]
  simp only [ref22_open.p, ref21_Take.fp, ref22_Kind.fp, ref22_headOf.fp, ref22_number.fp, ref22_written.fp] <;> rfl
theorem ref22_TakeList.fp (a : (List Int) × Unit) : ref22_TakeList.f a = ref22_TakeList.p a := by
  rw [ref22_TakeList.eq]
  simp only [ref22_TakeList.p, ref22_Kind.fp, ref22_number.fp, ref22_open.fp, rounds_eq] <;> rfl
theorem ref22_Entries.fp (a : (List (Int × Int × Int × Int × Unit)) × (List (Int × Int × Int × Int × Unit)) × Unit) : ref22_Entries.f a = ref22_Entries.p a := by
  rw [ref22_Entries.eq]
  simp only [ref22_Entries.p, rounds_eq] <;> rfl
theorem ref22_SameList.fp (a : (Int × Bool × Int × Int × Int × (List (Int × Int × Int × Int × Unit)) × Unit) × (Int × Bool × Int × Int × Int × (List (Int × Int × Int × Int × Unit)) × Unit) × Unit) : ref22_SameList.f a = ref22_SameList.p a := by
  rw [ref22_SameList.eq]
  simp only [ref22_SameList.p, ref22_Entries.fp] <;> rfl
theorem law22_PduList.fp (a : (Int × Bool × Int × Int × Int × (List (Int × Int × Int × Int × Unit)) × Unit) × (List Int) × Unit) : law22_PduList.f a = law22_PduList.p a := by
  rw [law22_PduList.eq]
  simp only [law22_PduList.p, law22_alive.fp, law22_list.fp, pdu_PutList.fp, pdu_TakeList.fp, ref22_PutList.fp, ref22_SameList.fp, ref22_TakeList.fp] <;> rfl
end Go.Proofs.Ytocloebloblodaa.F
