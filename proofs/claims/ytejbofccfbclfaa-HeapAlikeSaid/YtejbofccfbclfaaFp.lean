/- The program's functions as plain functions, and the plain law over them. -/
import Derived.Test.YtejbofccfbclfaaF
import Derived.Test.YtejbofccfbclfaaP
set_option linter.unusedVariables false
set_option linter.unusedSimpArgs false
set_option maxRecDepth 100000
set_option linter.unusedVariables false
open Go Go.Proofs.Fr
namespace Go.Proofs.Ytejbofccfbclfaa.F
theorem heap_Item_ahead.fp (a : (Int × Int × Unit) × (Int × Int × Unit) × Unit) : heap_Item_ahead.f a = heap_Item_ahead.p a := by
  rw [heap_Item_ahead.eq]
  simp only [heap_Item_ahead.p] <;> rfl
theorem heap_Heap_down.fp (a : (List (Int × Int × Unit)) × Int × Unit) : heap_Heap_down.f a = heap_Heap_down.p a := by
  rw [heap_Heap_down.eq]
  simp only [heap_Heap_down.p, heap_Item_ahead.fp, rounds_eq] <;> rfl
theorem heap_New.fp (a : (List (Int × Int × Unit)) × Unit) : heap_New.f a = heap_New.p a := by
  rw [heap_New.eq]
  simp only [heap_New.p, heap_Heap_down.fp, rounds_eq] <;> rfl
theorem heap_Heap_Len.fp (a : (List (Int × Int × Unit)) × Unit) : heap_Heap_Len.f a = heap_Heap_Len.p a := by
  rw [heap_Heap_Len.eq]
  simp only [heap_Heap_Len.p] <;> rfl
theorem heap_Heap_Top.fp (a : (List (Int × Int × Unit)) × Unit) : heap_Heap_Top.f a = heap_Heap_Top.p a := by
  rw [heap_Heap_Top.eq]
  simp only [heap_Heap_Top.p, heap_Heap_Len.fp] <;> rfl
theorem heap_Heap_Pop.fp (a : (List (Int × Int × Unit)) × Unit) : heap_Heap_Pop.f a = heap_Heap_Pop.p a := by
  rw [heap_Heap_Pop.eq]
  simp only [heap_Heap_Pop.p, heap_Heap_Top.fp, heap_Heap_down.fp] <;> rfl
theorem law04_alive.fp (a : Unit) : law04_alive.f a = law04_alive.p a := by
  rw [law04_alive.eq]
  simp only [law04_alive.p, heap_Heap_Len.fp, heap_Heap_Pop.fp, heap_New.fp] <;> rfl
theorem heap_Sorted.fp (a : (List (Int × Int × Unit)) × Unit) : heap_Sorted.f a = heap_Sorted.p a := by
  rw [heap_Sorted.eq]
  simp only [heap_Sorted.p, heap_Heap_Pop.fp, heap_New.fp, rounds_eq] <;> rfl
theorem law04_plain.fp (a : (Int × Int × Unit) × Unit) : law04_plain.f a = law04_plain.p a := by
  rw [law04_plain.eq]
  simp only [law04_plain.p] <;> rfl
theorem law04_rows.fp (a : (List (Int × Int × Unit)) × Unit) : law04_rows.f a = law04_rows.p a := by
  rw [law04_rows.eq]
  simp only [law04_rows.p, law04_plain.fp, rounds_eq] <;> rfl
theorem ref04_Ahead.fp (a : (Int × Int × Unit) × (Int × Int × Unit) × Unit) : ref04_Ahead.f a = ref04_Ahead.p a := by
  rw [ref04_Ahead.eq]
  simp only [ref04_Ahead.p] <;> rfl
theorem ref04_Push.fp (a : (List (Int × Int × Unit)) × (Int × Int × Unit) × Unit) : ref04_Push.f a = ref04_Push.p a := by
  rw [ref04_Push.eq]
  simp only [ref04_Push.p, ref04_Ahead.fp, rounds_eq] <;> rfl
theorem ref04_Sorted.fp (a : (List (Int × Int × Unit)) × Unit) : ref04_Sorted.f a = ref04_Sorted.p a := by
  rw [ref04_Sorted.eq]
  simp only [ref04_Sorted.p, ref04_Push.fp, rounds_eq] <;> rfl
theorem law04_same.fp (a : (List (Int × Int × Unit)) × (List (Int × Int × Unit)) × Unit) : law04_same.f a = law04_same.p a := by
  rw [law04_same.eq]
  simp only [law04_same.p, rounds_eq] <;> rfl
theorem law04_HeapSorted.fp (a : (List (Int × Int × Unit)) × Unit) : law04_HeapSorted.f a = law04_HeapSorted.p a := by
  rw [law04_HeapSorted.eq]
  simp only [law04_HeapSorted.p, heap_Sorted.fp, law04_alive.fp, law04_rows.fp, law04_same.fp, ref04_Sorted.fp] <;> rfl
theorem heap_Heap_Push.fp (a : (List (Int × Int × Unit)) × (Int × Int × Unit) × Unit) : heap_Heap_Push.f a = heap_Heap_Push.p a := by
  rw [heap_Heap_Push.eq]
  simp only [heap_Heap_Push.p, heap_Item_ahead.fp, rounds_eq] <;> rfl
theorem law04_HeapPlays.fp (a : (List (Int × Int × Unit)) × (List (Bool × (Int × Int × Unit) × Unit)) × Unit) : law04_HeapPlays.f a = law04_HeapPlays.p a := by
  rw [law04_HeapPlays.eq]
  simp only [law04_HeapPlays.p, heap_Heap_Len.fp, heap_Heap_Pop.fp, heap_Heap_Push.fp, heap_Heap_Top.fp, heap_New.fp, law04_alive.fp, law04_plain.fp, law04_rows.fp, law04_same.fp, ref04_Push.fp, ref04_Sorted.fp, rounds_eq] <;> rfl
theorem law04_count.fp (a : (List (Int × Int × Unit)) × (Int × Int × Unit) × Unit) : law04_count.f a = law04_count.p a := by
  rw [law04_count.eq]
  simp only [law04_count.p, rounds_eq] <;> rfl
theorem law04_HeapOrder.fp (a : (List (Int × Int × Unit)) × Unit) : law04_HeapOrder.f a = law04_HeapOrder.p a := by
  rw [law04_HeapOrder.eq]
  simp only [law04_HeapOrder.p, heap_Heap_Len.fp, heap_Heap_Pop.fp, heap_Heap_Push.fp, heap_New.fp, law04_alive.fp, law04_count.fp, law04_plain.fp, ref04_Ahead.fp, rounds_eq] <;> rfl
theorem heap_Heap_Push_2.fp (a : Unit × (Int × Int × Unit) × Unit) : heap_Heap_Push_2.f a = heap_Heap_Push_2.p a := by
  rw [heap_Heap_Push_2.eq]
  simp only [heap_Heap_Push_2.p] <;> rfl
theorem heap_Heap_Len_2.fp (a : Unit × Unit) : heap_Heap_Len_2.f a = heap_Heap_Len_2.p a := by
  rw [heap_Heap_Len_2.eq]
  simp only [heap_Heap_Len_2.p] <;> rfl
theorem heap_Heap_Top_2.fp (a : Unit × Unit) : heap_Heap_Top_2.f a = heap_Heap_Top_2.p a := by
  rw [heap_Heap_Top_2.eq]
  simp only [heap_Heap_Top_2.p, heap_Heap_Len_2.fp] <;> rfl
theorem heap_Heap_Pop_2.fp (a : Unit × Unit) : heap_Heap_Pop_2.f a = heap_Heap_Pop_2.p a := by
  rw [heap_Heap_Pop_2.eq]
  simp only [heap_Heap_Pop_2.p, heap_Heap_Top_2.fp] <;> rfl
theorem law04_HeapNil.fp (a : (Int × Int × Unit) × Unit) : law04_HeapNil.f a = law04_HeapNil.p a := by
  rw [law04_HeapNil.eq]
  simp only [law04_HeapNil.p, heap_Heap_Len_2.fp, heap_Heap_Pop_2.fp, heap_Heap_Push_2.fp, heap_Heap_Top_2.fp, law04_alive.fp] <;> rfl
theorem law04_HeapAlike.fp (a : (List (Int × Int × Unit)) × Unit) : law04_HeapAlike.f a = law04_HeapAlike.p a := by
  rw [law04_HeapAlike.eq]
  simp only [law04_HeapAlike.p, heap_Heap_Len.fp, heap_Heap_Pop.fp, heap_Heap_Push.fp, heap_New.fp, law04_alive.fp, rounds_eq] <;> rfl
end Go.Proofs.Ytejbofccfbclfaa.F
