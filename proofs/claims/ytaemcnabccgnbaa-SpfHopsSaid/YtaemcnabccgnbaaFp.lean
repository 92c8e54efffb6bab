/- The program's functions as plain functions, and the plain law over them. -/
import Derived.Test.YtaemcnabccgnbaaF
import Derived.Test.YtaemcnabccgnbaaP
set_option linter.unusedVariables false
set_option linter.unusedSimpArgs false
set_option maxRecDepth 100000
set_option linter.unusedVariables false
open Go Go.Proofs.Fr
namespace Go.Proofs.Ytaemcnabccgnbaa.F
theorem slices_Sort_int_int.fp (a : (List Int × Unit)) : slices_Sort_int_int.f a = slices_Sort_int_int.p a := by kernel_rfl
theorem spf_Graph_leaving.fp (a : ((Int × List (Int × Int × Int × Unit) × Unit) × Unit)) : spf_Graph_leaving.f a = spf_Graph_leaving.p a := by kernel_rfl
theorem spf_Mutual.fp (a : ((Int × List (Int × Int × Int × Unit) × Unit) × Unit)) : spf_Mutual.f a = spf_Mutual.p a := by kernel_rfl
theorem spf_Graph_isNode.fp (a : (Int × (List (Int × Int × Int × Unit)) × Unit) × Int × Unit) : spf_Graph_isNode.f a = spf_Graph_isNode.p a := by
  rw [spf_Graph_isNode.eq]
  simp only [spf_Graph_isNode.p] <;> rfl
theorem spf_May.fp (a : (Int × (List (Int × Int × Int × Unit)) × Unit) × Unit) : spf_May.f a = spf_May.p a := by
  rw [spf_May.eq]
  simp only [spf_May.p, spf_Graph_isNode.fp, rounds_eq] <;> rfl
theorem math_bits_Mul64.fp (a : Int × Int × Unit) : math_bits_Mul64.f a = math_bits_Mul64.p a := by
  rw [math_bits_Mul64.eq]
  simp only [math_bits_Mul64.p] <;> rfl
theorem math_bits_Mul.fp (a : Int × Int × Unit) : math_bits_Mul.f a = math_bits_Mul.p a := by
  rw [math_bits_Mul.eq]
  simp only [math_bits_Mul.p, math_bits_Mul64.fp] <;> rfl
theorem slices_Repeat_int_int.fp (a : (List Int) × Int × Unit) : slices_Repeat_int_int.f a = slices_Repeat_int_int.p a := by
  rw [slices_Repeat_int_int.eq]
  simp only [slices_Repeat_int_int.p, math_bits_Mul.fp, rounds_eq] <;> rfl
theorem heap_Item_ahead.fp (a : (Int × Int × Unit) × (Int × Int × Unit) × Unit) : heap_Item_ahead.f a = heap_Item_ahead.p a := by
  rw [heap_Item_ahead.eq]
  simp only [heap_Item_ahead.p] <;> rfl
theorem heap_Heap_down.fp (a : (List (Int × Int × Unit)) × Int × Unit) : heap_Heap_down.f a = heap_Heap_down.p a := by
  rw [heap_Heap_down.eq]
  simp only [heap_Heap_down.p, heap_Item_ahead.fp, rounds_eq] <;> rfl
theorem heap_New.fp (a : (List (Int × Int × Unit)) × Unit) : heap_New.f a = heap_New.p a := by
  rw [heap_New.eq]
  simp only [heap_New.p, heap_Heap_down.fp, rounds_eq] <;> rfl
theorem heap_Heap_Len.fp (a : (List (Int × Int × Unit)) × Unit) : heap_Heap_Len.f a = heap_Heap_Len.p a := by
  rw [heap_Heap_Len.eq]
  simp only [heap_Heap_Len.p] <;> rfl
theorem heap_Heap_Top.fp (a : (List (Int × Int × Unit)) × Unit) : heap_Heap_Top.f a = heap_Heap_Top.p a := by
  rw [heap_Heap_Top.eq]
  simp only [heap_Heap_Top.p, heap_Heap_Len.fp] <;> rfl
theorem heap_Heap_Pop.fp (a : (List (Int × Int × Unit)) × Unit) : heap_Heap_Pop.f a = heap_Heap_Pop.p a := by
  rw [heap_Heap_Pop.eq]
  simp only [heap_Heap_Pop.p, heap_Heap_Top.fp, heap_Heap_down.fp] <;> rfl
theorem heap_Heap_Push.fp (a : (List (Int × Int × Unit)) × (Int × Int × Unit) × Unit) : heap_Heap_Push.f a = heap_Heap_Push.p a := by
  rw [heap_Heap_Push.eq]
  simp only [heap_Heap_Push.p, heap_Item_ahead.fp, rounds_eq] <;> rfl
theorem spf_Graph_settle_1.fp (a : (Int × Int × Int × Unit) × (List Int) × Int × (List (Int × Int × Unit)) × Unit) : spf_Graph_settle_1.f a = spf_Graph_settle_1.p a := by
  rw [spf_Graph_settle_1.eq]
  simp only [spf_Graph_settle_1.p, heap_Heap_Push.fp] <;> rfl
theorem spf_Graph_settle.fp (a : (Int × (List (Int × Int × Int × Unit)) × Unit) × Int × Unit) : spf_Graph_settle.f a = spf_Graph_settle.p a := by
  rw [spf_Graph_settle.eq]
  simp only [spf_Graph_settle.p, heap_Heap_Pop.fp, heap_New.fp, slices_Repeat_int_int.fp, spf_Graph_leaving.fp, spf_Graph_settle_1.fp, rounds_eq] <;> rfl
theorem spf_Dist.fp (a : (Int × (List (Int × Int × Int × Unit)) × Unit) × Int × Unit) : spf_Dist.f a = spf_Dist.p a := by
  rw [spf_Dist.eq]
  simp only [spf_Dist.p, spf_Graph_isNode.fp, spf_Graph_settle.fp, spf_May.fp] <;> rfl
theorem spf_isTight.fp (a : (Int × Int × Int × Unit) × (List Int) × Unit) : spf_isTight.f a = spf_isTight.p a := by
  rw [spf_isTight.eq]
  simp only [spf_isTight.p] <;> rfl
theorem slices_Grow_int_int.fp (a : Unit × Int × Unit) : slices_Grow_int_int.f a = slices_Grow_int_int.p a := by
  rw [slices_Grow_int_int.eq]
  simp only [slices_Grow_int_int.p] <;> rfl
theorem slices_Concat_int_int.fp (a : (List (List Int)) × Unit) : slices_Concat_int_int.f a = slices_Concat_int_int.p a := by
  rw [slices_Concat_int_int.eq]
  simp only [slices_Concat_int_int.p, slices_Grow_int_int.fp, rounds_eq] <;> rfl
theorem math_bits_Len64.fp (a : Int × Unit) : math_bits_Len64.f a = math_bits_Len64.p a := by
  rw [math_bits_Len64.eq]
  simp only [math_bits_Len64.p] <;> rfl
theorem math_bits_Len.fp (a : Int × Unit) : math_bits_Len.f a = math_bits_Len.p a := by
  rw [math_bits_Len.eq]
  simp only [math_bits_Len.p, math_bits_Len64.fp] <;> rfl
theorem cmp_isNaN_int.fp (a : Int × Unit) : cmp_isNaN_int.f a = cmp_isNaN_int.p a := by
  rw [cmp_isNaN_int.eq]
  simp only [cmp_isNaN_int.p] <;> rfl
theorem cmp_Less_int.fp (a : Int × Int × Unit) : cmp_Less_int.f a = cmp_Less_int.p a := by
  rw [cmp_Less_int.eq]
  simp only [cmp_Less_int.p, cmp_isNaN_int.fp] <;> rfl
theorem slices_Compact_int_int.fp (a : (List Int) × Unit) : slices_Compact_int_int.f a = slices_Compact_int_int.p a := by
  rw [slices_Compact_int_int.eq]
  simp only [slices_Compact_int_int.p, rounds_eq] <;> rfl
theorem spf_join.fp (a : (List Int) × (List Int) × Unit) : spf_join.f a = spf_join.p a := by
  rw [spf_join.eq]
  simp only [spf_join.p, slices_Compact_int_int.fp, slices_Concat_int_int.fp, slices_Sort_int_int.fp] <;> rfl
theorem spf_Hops.fp (a : (Int × (List (Int × Int × Int × Unit)) × Unit) × Int × Unit) : spf_Hops.f a = spf_Hops.p a := by
  rw [spf_Hops.eq]
  simp only [spf_Hops.p, spf_Dist.fp, spf_Graph_leaving.fp, spf_isTight.fp, spf_join.fp, rounds_eq] <;> rfl
theorem law05_alive.fp (a : Unit) : law05_alive.f a = law05_alive.p a := by
  rw [law05_alive.eq]
  simp only [law05_alive.p, spf_Dist.fp, spf_Hops.fp] <;> rfl
theorem law05_plain.fp (a : (Int × (List (Int × Int × Int × Unit)) × Unit) × Unit) : law05_plain.f a = law05_plain.p a := by
  rw [law05_plain.eq]
  simp only [law05_plain.p] <;> rfl
theorem ref05_May.fp (a : (Int × (List (Int × Int × Int × Unit)) × Unit) × Unit) : ref05_May.f a = ref05_May.p a := by
  rw [ref05_May.eq]
  simp only [ref05_May.p, rounds_eq] <;> rfl
theorem ref05_Dist.fp (a : (Int × (List (Int × Int × Int × Unit)) × Unit) × Int × Unit) : ref05_Dist.f a = ref05_Dist.p a := by
  rw [ref05_Dist.eq]
  simp only [ref05_Dist.p, ref05_May.fp, rounds_eq] <;> rfl
theorem ref05_Tight.fp (a : (Int × (List (Int × Int × Int × Unit)) × Unit) × (List Int) × Unit) : ref05_Tight.f a = ref05_Tight.p a := by
  rw [ref05_Tight.eq]
  simp only [ref05_Tight.p, rounds_eq] <;> rfl
theorem ref05_Has.fp (a : (List Int) × Int × Unit) : ref05_Has.f a = ref05_Has.p a := by
  rw [ref05_Has.eq]
  simp only [ref05_Has.p, rounds_eq] <;> rfl
theorem ref05_Into.fp (a : (List Int) × Int × Unit) : ref05_Into.f a = ref05_Into.p a := by
  rw [ref05_Into.eq]
  simp only [ref05_Into.p, ref05_Has.fp, rounds_eq] <;> rfl
theorem ref05_Hops.fp (a : (Int × (List (Int × Int × Int × Unit)) × Unit) × Int × Unit) : ref05_Hops.f a = ref05_Hops.p a := by
  rw [ref05_Hops.eq]
  simp only [ref05_Hops.p, ref05_Dist.fp, ref05_Into.fp, ref05_Tight.fp, rounds_eq] <;> rfl
theorem ref05_Ints.fp (a : (List Int) × (List Int) × Unit) : ref05_Ints.f a = ref05_Ints.p a := by
  rw [ref05_Ints.eq]
  simp only [ref05_Ints.p, rounds_eq] <;> rfl
theorem law05_rows.fp (a : (List (List Int)) × (List (List Int)) × Unit) : law05_rows.f a = law05_rows.p a := by
  rw [law05_rows.eq]
  simp only [law05_rows.p, ref05_Ints.fp, rounds_eq] <;> rfl
theorem ref05_Same.fp (a : (Int × (List (Int × Int × Int × Unit)) × Unit) × (Int × (List (Int × Int × Int × Unit)) × Unit) × Unit) : ref05_Same.f a = ref05_Same.p a := by
  rw [ref05_Same.eq]
  simp only [ref05_Same.p, rounds_eq] <;> rfl
theorem law05_SpfTold.fp (a : (Int × (List (Int × Int × Int × Unit)) × Unit) × Int × Unit) : law05_SpfTold.f a = law05_SpfTold.p a := by
  rw [law05_SpfTold.eq]
  simp only [law05_SpfTold.p, law05_alive.fp, law05_plain.fp, law05_rows.fp, ref05_Dist.fp, ref05_Hops.fp, ref05_Ints.fp, ref05_May.fp, ref05_Same.fp, spf_Dist.fp, spf_Hops.fp, spf_May.fp] <;> rfl
theorem law05_SpfShortest.fp (a : (Int × (List (Int × Int × Int × Unit)) × Unit) × Int × Unit) : law05_SpfShortest.f a = law05_SpfShortest.p a := by
  rw [law05_SpfShortest.eq]
  simp only [law05_SpfShortest.p, law05_alive.fp, spf_Dist.fp, spf_May.fp, rounds_eq] <;> rfl
theorem law05_SpfHops.fp (a : (Int × (List (Int × Int × Int × Unit)) × Unit) × Int × Unit) : law05_SpfHops.f a = law05_SpfHops.p a := by
  rw [law05_SpfHops.eq]
  simp only [law05_SpfHops.p, law05_alive.fp, spf_Dist.fp, spf_Hops.fp, rounds_eq] <;> rfl
theorem spf_Reverse.fp (a : (Int × (List (Int × Int × Int × Unit)) × Unit) × Unit) : spf_Reverse.f a = spf_Reverse.p a := by
  rw [spf_Reverse.eq]
  simp only [spf_Reverse.p, rounds_eq] <;> rfl
theorem law05_SpfReverse.fp (a : (Int × (List (Int × Int × Int × Unit)) × Unit) × Int × Int × Unit) : law05_SpfReverse.f a = law05_SpfReverse.p a := by
  rw [law05_SpfReverse.eq]
  simp only [law05_SpfReverse.p, law05_alive.fp, spf_Dist.fp, spf_May.fp, spf_Reverse.fp] <;> rfl
theorem law05_SpfTwice.fp (a : (Int × (List (Int × Int × Int × Unit)) × Unit) × Unit) : law05_SpfTwice.f a = law05_SpfTwice.p a := by
  rw [law05_SpfTwice.eq]
  simp only [law05_SpfTwice.p, law05_alive.fp, law05_plain.fp, ref05_Same.fp, spf_Mutual.fp, spf_Reverse.fp] <;> rfl
theorem spf_Tight.fp (a : (Int × (List (Int × Int × Int × Unit)) × Unit) × (List Int) × Unit) : spf_Tight.f a = spf_Tight.p a := by
  rw [spf_Tight.eq]
  simp only [spf_Tight.p, spf_isTight.fp, rounds_eq] <;> rfl
theorem ref05_Mutual.fp (a : (Int × (List (Int × Int × Int × Unit)) × Unit) × Unit) : ref05_Mutual.f a = ref05_Mutual.p a := by
  rw [ref05_Mutual.eq]
  simp only [ref05_Mutual.p, rounds_eq] <;> rfl
theorem ref05_Reverse.fp (a : (Int × (List (Int × Int × Int × Unit)) × Unit) × Unit) : ref05_Reverse.f a = ref05_Reverse.p a := by
  rw [ref05_Reverse.eq]
  simp only [ref05_Reverse.p, rounds_eq] <;> rfl
theorem law05_SpfEdges.fp (a : (Int × (List (Int × Int × Int × Unit)) × Unit) × (List Int) × Unit) : law05_SpfEdges.f a = law05_SpfEdges.p a := by
  rw [law05_SpfEdges.eq]
  simp only [law05_SpfEdges.p, law05_alive.fp, law05_plain.fp, ref05_Mutual.fp, ref05_Reverse.fp, ref05_Same.fp, ref05_Tight.fp, spf_Mutual.fp, spf_Reverse.fp, spf_Tight.fp, rounds_eq] <;> rfl
end Go.Proofs.Ytaemcnabccgnbaa.F
