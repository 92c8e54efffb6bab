/- slices.Sort of a row of numbers that is lent, told for the frame by the shelf's contract. Written for the frame; by this project. -/
import Derived.Test.YtaemcnabccgnbaaProg
import Derived.Test.YtaemcnabccgnbaaFrd
import Derived.Ground.Names2Prog
import Derived.Shelf.Lay
import Derived.Shelf.Sort.Plain
import Derived.Shelf.Slices.In.SortNone
namespace Go.Proofs
open Go.Shelf
shelf_lay Lays.n189 Nm 189 at Try as slices_Sort_int_lays
end Go.Proofs
namespace Go.Proofs.Ytaemcnabccgnbaa.F
open Go Go.RowKit Go.Shelf Go.Proofs Go.Proofs.Fr
set_option linter.unusedVariables false
set_option linter.unusedSimpArgs false
-- PLAIN slices_Sort_int_int (List Int × Unit)
def slices_Sort_int_int.q_ins (x : Int) : List Int → List Int
  | [] => [x]
  | y :: l => if x ≤ y then x :: y :: l else y :: slices_Sort_int_int.q_ins x l
def slices_Sort_int_int.q_sort (l : List Int) : List Int := l.foldr slices_Sort_int_int.q_ins []
def slices_Sort_int_int.q (a : List Int × Unit) : Option (List Int × Unit) := if a.1.length ≤ 1000000000 then some (slices_Sort_int_int.q_sort a.1, ()) else none
-- END
theorem srt.uniq : ∀ {a b : List Int}, a.Pairwise (· ≤ ·) → b.Pairwise (· ≤ ·) → a.Perm b → a = b
  | [], b, _, _, h => (List.nil_perm.1 h).symm
  | x :: a, [], _, _, h => by have := h.length_eq; simp at this
  | x :: a, y :: b, ha, hb, h => by
    have hx : x ∈ y :: b := h.mem_iff.1 (by simp)
    have hy : y ∈ x :: a := h.mem_iff.2 (by simp)
    rw [List.pairwise_cons] at ha hb
    have e : x = y := by
      rcases List.mem_cons.1 hx with h1 | h1
      · exact h1
      · rcases List.mem_cons.1 hy with h2 | h2
        · exact h2.symm
        · have := hb.1 x h1; have := ha.1 y h2; omega
    subst e
    rw [srt.uniq ha.2 hb.2 (List.perm_cons x |>.1 h)]
theorem srt.ins_perm (x : Int) : ∀ l, (slices_Sort_int_int.q_ins x l).Perm (x :: l)
  | [] => .refl _
  | y :: l => by
    unfold slices_Sort_int_int.q_ins
    split
    · exact .refl _
    · exact ((srt.ins_perm x l).cons y).trans (List.Perm.swap x y l)
theorem srt.ins_srt (x : Int) : ∀ l : List Int, l.Pairwise (· ≤ ·) → (slices_Sort_int_int.q_ins x l).Pairwise (· ≤ ·)
  | [], _ => by simp [slices_Sort_int_int.q_ins]
  | y :: l, h => by
    unfold slices_Sort_int_int.q_ins
    have h' := List.pairwise_cons.1 h
    split
    · rename_i hxy
      refine List.pairwise_cons.2 ⟨fun z hz => ?_, h⟩
      rcases List.mem_cons.1 hz with rfl | hz
      · exact hxy
      · exact Int.le_trans hxy (h'.1 z hz)
    · rename_i hxy
      refine List.pairwise_cons.2 ⟨fun z hz => ?_, srt.ins_srt x l h'.2⟩
      rcases List.mem_cons.1 ((srt.ins_perm x l).mem_iff.1 hz) with rfl | hz
      · omega
      · exact h'.1 z hz
theorem srt.isort_eq (l : List Int) : (l.mergeSort fun x y => decide (x ≤ y)) = slices_Sort_int_int.q_sort l := by
  have h1 : (l.mergeSort fun x y => decide (x ≤ y)).Pairwise (· ≤ ·) := by
    have := List.pairwise_mergeSort (le := fun x y : Int => decide (x ≤ y)) (fun a b c h1 h2 => by simp at *; omega) (fun a b => by simp; omega) l
    exact this.imp (by simp)
  have h2 : ∀ l : List Int, (slices_Sort_int_int.q_sort l).Pairwise (· ≤ ·) ∧ (slices_Sort_int_int.q_sort l).Perm l := by
    intro l
    induction l with
    | nil => exact ⟨.nil, .refl _⟩
    | cons x l ih => exact ⟨srt.ins_srt x _ ih.1, (srt.ins_perm x _).trans (ih.2.cons x)⟩
  exact srt.uniq h1 (h2 l).1 ((List.mergeSort_perm l _).trans (h2 l).2.symm)
noncomputable def slices_Sort_int_int.f (a : dens [.io 3 (.int .i64)]) : Option (dens ([] ++ backs [.io 3 (.int .i64)])) := slices_Sort_int_int.q a
noncomputable def slices_Sort_int_int.sp : Sp := ⟨[.io 3 (.int .i64)], [], slices_Sort_int_int.f⟩
theorem srt.cells {w : World} {ok : Nat → Prop} : ∀ {xs : List Int} {css : List (List Value)}, All2 (En w ok (.int .i64)) xs css → css.flatten = xs.map (.int .i64)
  | [], [], _ => rfl
  | [], _ :: _, h => by cases h
  | _ :: _, [], h => by cases h
  | x :: xs, c :: cs, h => by
    have e : c = [.int .i64 x] := h.1
    rw [List.flatten_cons, srt.cells h.2, e]
    rfl
theorem srt.en {w : World} {ok : Nat → Prop} : ∀ (xs : List Int), All2 (En w ok (.int .i64)) xs (xs.map fun x => [Value.int .i64 x])
  | [] => trivial
  | x :: xs => ⟨rfl, srt.en xs⟩
theorem srt.flat (xs : List Int) : (xs.map fun x => [Value.int .i64 x]).flatten = xs.map (.int .i64) := by
  induction xs with
  | nil => rfl
  | cons x xs ih => rw [List.map_cons, List.flatten_cons, ih]; rfl

theorem srt.map {xs ys : List Int} (h : xs.length = ys.length) {w : World} {ok : Nat → Prop} {E : Nat} {v : Value} (ho : ownsR w E 1 v xs.length (ys.map (.int .i64))) : RowO w ok E (.int .i64) ys v :=
  ⟨ys.map fun x => [Value.int .i64 x], srt.en ys, by rw [srt.flat]; show ownsR w E 1 v ys.length _; rw [← h]; exact ho⟩
theorem slices_Sort_int_int.sound : Sound Go.Proofs.Try.prog 38 slices_Sort_int_int.sp := ⟨ent_of Go.Proofs.Try.func38 (by kernel_rfl) (by kernel_rfl), by
  intro x y hy w vs ok bs hok hargs hnd hdis
  obtain ⟨xs, _⟩ := x
  obtain ⟨c1, r1, b1, d1, rfl, rfl, ⟨v1, rfl, hr1, rfl⟩, rfl, rfl⟩ := hargs
  have hy' : slices_Sort_int_int.q (xs, ()) = some y := hy
  unfold slices_Sort_int_int.q at hy'
  dsimp only at hy'
  split at hy'
  rotate_left
  · cases hy'
  rename_i hc
  cases hy'
  rw [← srt.isort_eq]
  have hx1 : RowO w ok 3 (.int .i64) xs v1 := hr1
  obtain ⟨css, hcs, hlen, hown⟩ := hx1
  rw [srt.cells hcs] at hlen hown
  have hown : ownsR w 3 1 v1 (List.length (α := Int) xs) (List.map (Value.int .i64) xs) := ⟨hlen, hown⟩
  obtain ⟨hlen, hown⟩ := hown
  have hml : (xs.mergeSort fun x y => decide (x ≤ y)).length = xs.length := List.length_mergeSort xs
  have fin : ∀ w' : World, w'.os = w.os → w'.tape = w.tape → w'.output = w.output → w.heap.size ≤ w'.heap.size → (∀ k, k < w.heap.size → blkOf v1 ≠ some k → w'.heap[k]? = w.heap[k]?) → RowO w' ok 3 (.int .i64) (xs.mergeSort fun x y => decide (x ≤ y)) v1 →
      AR w' ok (slices_Sort_int_int.sp.outs ++ backs slices_Sort_int_int.sp.ins) (xs.mergeSort (fun x y => decide (x ≤ y)), ()) ([] ++ lvA slices_Sort_int_int.sp.ins [v1]) (blkOf v1).toList ∧ (blkOf v1).toList.Nodup ∧ (∀ b ∈ (blkOf v1).toList, b ∈ (blkOf v1).toList ++ [] ∨ w.heap.size ≤ b) ∧
      (∀ k, ok k → (ok k ∨ k ∈ (blkOf v1).toList ++ [] ∨ w.heap.size ≤ k) ∧ k < w'.heap.size ∧ k ∉ (blkOf v1).toList) ∧ BelowO (fun k => k ∈ (blkOf v1).toList ++ [] ∨ w.heap.size ≤ k) w w' := by
    intro w' q1 q2 q3 q4 q5 hrow
    refine ⟨⟨[v1], [], (blkOf v1).toList, [], rfl, by simp, ⟨v1, rfl, hrow, rfl⟩, rfl, rfl⟩, ?_, fun b hb => .inl (by simpa using hb), fun k hk => ⟨.inl hk, Nat.lt_of_lt_of_le (hok k hk) q4, fun hb => hdis k (by simpa using hb) hk⟩, ⟨q1, q2, q3, q4, fun k hk hno => q5 k hk fun e => hno (.inl (by rw [e]; simp))⟩⟩
    cases blkOf v1 <;> simp
  rcases hown with ⟨hv, hn⟩ | ⟨g, o, cap, cur, hv, _, hheap, hcap, hmax, hroom, htake⟩
  · have hx : xs = [] := List.eq_nil_of_length_eq_zero hn
    subst hx
    subst hv
    refine Calls.mono (calls_of_every_depth fun D => AnyS.slices_Sort_int_none_in slices_Sort_int_lays D none 0 w) ?_
    rintro e w' ⟨rfl, rfl⟩
    exact ⟨[], _, ok, rfl, rfl, fin w' rfl rfl rfl (Nat.le_refl _) (fun _ _ _ => rfl) (by
      have e0 : (List.mergeSort ([] : List Int) fun x y => decide (x ≤ y)) = [] := by simp
      rw [e0]
      exact srt.map (xs := []) rfl ⟨rfl, .inl ⟨rfl, rfl⟩⟩)⟩
  · subst hv
    have hg : g < w.heap.size := (Array.getElem?_eq_some_iff.1 hheap).1
    have hcell : ∀ j, j < xs.length → cur[o + j]? = some (Value.int .i64 xs[j]!) := by
      intro j hj
      have h1 : ((cur.toList.drop o).take (xs.length * 1))[j]? = (xs.map (Value.int .i64))[j]? := by rw [htake]
      rw [Nat.mul_one, List.getElem?_take_of_lt hj, List.getElem?_drop, List.getElem?_map, List.getElem?_eq_getElem hj, Array.getElem?_toList] at h1
      rw [h1, getElem!_pos xs j hj]
      rfl
    have hH : Sort.Holds (Value.int .i64) w g o xs.toArray := by
      intro j hj
      have hj' : j < xs.length := by simpa using hj
      refine ⟨?_, ?_⟩
      · unfold World.cell?
        rw [hheap]
        simp only [Option.isSome_none, Bool.false_eq_true, if_false]
        rw [hcell j hj']
        simp
      · unfold World.frozen?
        rw [hheap]
        simp
    refine Calls.mono (Any.slices_Sort_int slices_Sort_int_lays g o cap xs w hH hg (by omega)) ?_
    rintro e w' ⟨rfl, n, os, rfl⟩
    have hsz : (Sort.grow (Sort.putRow (Value.int .i64) (Sort.ahead w n) g o (xs.mergeSort fun x y => decide (x ≤ y)).toArray) os).heap.size = w.heap.size + os.size := by
      simp [Sort.grow, Sort.putRow, Sort.mapBlock, Sort.ahead]
    have hat : ∀ k, k < w.heap.size → (Sort.grow (Sort.putRow (Value.int .i64) (Sort.ahead w n) g o (xs.mergeSort fun x y => decide (x ≤ y)).toArray) os).heap[k]? = if g = k then (w.heap[k]?).map (Sort.onCells (Sort.putCells (Value.int .i64) o (xs.mergeSort fun x y => decide (x ≤ y)).toArray)) else w.heap[k]? := by
      intro k hk
      simp only [Sort.grow, Sort.putRow, Sort.mapBlock, Sort.ahead]
      rw [Array.getElem?_append_left (by simpa using hk), Array.getElem?_modify]
    refine ⟨[], _, ok, rfl, rfl, fin _ rfl rfl rfl (by rw [hsz]; omega) (fun k hk hne => ?_) (srt.map hml.symm ⟨by rw [List.length_map, hml, Nat.mul_one], .inr ⟨g, o, cap, Sort.putCells (Value.int .i64) o (xs.mergeSort fun x y => decide (x ≤ y)).toArray cur, rfl, Nat.zero_le _, ?_, hcap, hmax, ?_, ?_⟩⟩)⟩
    · rw [hat k hk, if_neg fun e => hne (by rw [e]; rfl)]
    · rw [hat g hg, if_pos rfl, hheap]
      rfl
    · simpa [Sort.putCells] using hroom
    · rw [Nat.mul_one]
      apply List.ext_getElem?
      intro j
      by_cases hj : j < xs.length
      · rw [List.getElem?_take_of_lt hj, List.getElem?_drop, Array.getElem?_toList, List.getElem?_map]
        have hoj : o + j < cur.size := by
          have := hcell j hj
          exact (Array.getElem?_eq_some_iff.1 this).1
        unfold Sort.putCells
        rw [Array.getElem?_mapIdx, Array.getElem?_eq_getElem hoj]
        simp only [Option.map_some]
        rw [if_pos ⟨by omega, by simp only [List.size_toArray, hml]; omega⟩, Nat.add_sub_cancel_left, List.getElem?_eq_getElem (by rw [hml]; exact hj)]
        simp [getElem!_pos, hml, hj]
      · rw [List.getElem?_eq_none (by rw [List.length_take]; omega), List.getElem?_eq_none (by rw [List.length_map, hml]; omega)], fun n h => (by
  have h' : (none : Option Nat) = some n := h
  cases h')⟩
end Go.Proofs.Ytaemcnabccgnbaa.F
