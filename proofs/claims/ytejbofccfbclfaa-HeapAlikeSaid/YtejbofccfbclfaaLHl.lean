/- Heaps: the document's rows in order; the laws. -/
import Derived.Test.YtejbofccfbclfaaLHq
import Derived.Test.YtejbofccfbclfaaFrc
set_option maxRecDepth 100000
set_option linter.unusedVariables false
set_option linter.unusedSimpArgs false
open Go Go.Proofs.Fr
namespace Go.Proofs.Ytejbofccfbclfaa.F
theorem aliveH : law04_alive.p () = some (true, ()) := by decide +kernel
theorem rahead_eq (x y : It) : ref04_Ahead.p (x, y, ()) = some (decide (LTi x y), ()) := by
  unfold ref04_Ahead.p LTi
  simp only [jn_eq]
  by_cases h1 : x.1 < y.1
  · simp [h1]
  · by_cases h2 : x.1 = y.1
    · simp [h2]
    · simp [h1, h2]
theorem rpush_eq (l : List It) (x : It) (hl : l.length ≤ 1000) : ref04_Push.p (l, x, ()) = some (ins x l, ()) := by
  unfold ref04_Push.p
  simp only [jn_eq]
  refine (iterK_fix (F := fun s => some (if s.2.1 = true then s.1 ++ l.drop s.2.2.1.toNat else s.1 ++ ins x (l.drop s.2.2.1.toNat), ())) (m := fun s => l.length - s.2.2.1.toNat) (I := fun s => (0 ≤ s.2.2.1 ∧ s.2.2.1 ≤ (l.length : Int)) ∧ s.1.length ≤ s.2.2.1.toNat + (if s.2.1 = true then 1 else 0)) ?_ _ _ ⟨by simp, by simp⟩ (by simp; omega)).trans rfl
  rintro ⟨acc, put, i, _⟩ r ⟨⟨h0, h1⟩, h2⟩ hr
  obtain ⟨j, rfl⟩ := Int.eq_ofNat_of_zero_le h0
  simp only [Int.toNat_natCast] at *
  by_cases hj : j < l.length
  · have hb : (0 : Int) ≤ j ∧ (j : Int) < (l.length : Int) := by omega
    have e4 : ((j : Int) + 1).toNat = j + 1 := by omega
    rw [if_pos (by simpa using hj), drop_rdZ zI l j hj]
    obtain ⟨y, hy⟩ : ∃ y, rdZ zI l j = y := ⟨_, rfl⟩
    simp only [hy]
    simp only [hb, and_self, if_true]
    cases put with
    | true =>
      simp only [if_true] at h2
      simp only [Bool.not_true, Bool.false_eq_true, if_false, if_true]
      rw [if_pos (by simp only [List.length_cons, List.length_nil, maxBytes]; omega), w64 (by omega), hr _ ⟨by first | omega | (dsimp only; omega) | (simp only [List.length_cons, List.length_nil, List.length_append, List.length_drop, List.length_take, maxBytes]; omega) | (simp; omega), by simp only [List.length_append, List.length_cons, List.length_nil, if_true]; omega⟩ (by first | omega | (dsimp only; omega) | (simp only [List.length_cons, List.length_nil, List.length_append, List.length_drop, List.length_take, maxBytes]; omega) | (simp; omega))]
      simp only [e4, if_true, List.append_assoc, List.cons_append, List.nil_append]
    | false =>
      simp only [Bool.false_eq_true, if_false] at h2
      simp only [Bool.not_false, if_true, rahead_eq, bind_eq, Bool.false_eq_true, if_false]
      by_cases hlt : LTi x y
      · simp only [hlt, decide_true, if_true]
        rw [if_pos (by simp only [List.length_cons, List.length_nil, maxBytes]; omega), if_pos (by simp only [List.length_append, List.length_cons, List.length_nil, maxBytes]; omega), w64 (by omega)]
        have hi : ins x (y :: l.drop (j + 1)) = x :: y :: l.drop (j + 1) := by unfold ins; rw [if_pos hlt]
        rw [hr _ ⟨by first | omega | (dsimp only; omega) | (simp only [List.length_cons, List.length_nil, List.length_append, List.length_drop, List.length_take, maxBytes]; omega) | (simp; omega), by simp only [List.length_append, List.length_cons, List.length_nil, if_true]; omega⟩ (by first | omega | (dsimp only; omega) | (simp only [List.length_cons, List.length_nil, List.length_append, List.length_drop, List.length_take, maxBytes]; omega) | (simp; omega))]
        simp only [e4, if_true, List.append_assoc, List.cons_append, List.nil_append, hi]
      · simp only [hlt, decide_false, Bool.false_eq_true, if_false]
        rw [if_pos (by simp only [List.length_cons, List.length_nil, maxBytes]; omega), w64 (by omega), hr _ ⟨by first | omega | (dsimp only; omega) | (simp only [List.length_cons, List.length_nil, List.length_append, List.length_drop, List.length_take, maxBytes]; omega) | (simp; omega), by simp only [List.length_append, List.length_cons, List.length_nil, Bool.false_eq_true, if_false]; omega⟩ (by first | omega | (dsimp only; omega) | (simp only [List.length_cons, List.length_nil, List.length_append, List.length_drop, List.length_take, maxBytes]; omega) | (simp; omega))]
        have hi : ins x (y :: l.drop (j + 1)) = y :: ins x (l.drop (j + 1)) := by
          show (if LTi x y then _ else _) = _
          rw [if_neg hlt]
        simp only [e4, Bool.false_eq_true, if_false, List.append_assoc, List.cons_append, List.nil_append, hi]
  · rw [if_neg (by simpa using hj), List.drop_eq_nil_of_le (by omega)]
    cases put with
    | true => simp
    | false =>
      simp only [Bool.false_eq_true, if_false] at h2
      simp only [Bool.not_false, if_true, Bool.false_eq_true, if_false]
      rw [if_pos (by simp only [List.length_cons, List.length_nil, maxBytes]; omega)]
      rfl
theorem ins_len (x : It) (l : List It) : (ins x l).length = l.length + 1 := by rw [(ins_perm x l).length_eq]; rfl
theorem rsorted_eq (l : List It) (hl : l.length ≤ 1000) : ref04_Sorted.p (l, ()) = some (isort l, ()) := by
  unfold ref04_Sorted.p
  simp only [jn_eq]
  refine (iterK_fix (F := fun s => some ((l.drop s.2.1.toNat).foldl (fun m x => ins x m) s.1, ())) (m := fun s => l.length - s.2.1.toNat) (I := fun s => (0 ≤ s.2.1 ∧ s.2.1 ≤ (l.length : Int)) ∧ s.1.length ≤ s.2.1.toNat) ?_ _ _ ⟨by simp, by simp⟩ (by simp; omega)).trans rfl
  rintro ⟨m, i, _⟩ r ⟨⟨h0, h1⟩, h2⟩ hr
  obtain ⟨j, rfl⟩ := Int.eq_ofNat_of_zero_le h0
  simp only [Int.toNat_natCast] at *
  by_cases hj : j < l.length
  · rw [if_pos (by simpa using hj), if_pos (by omega), drop_rdZ zI l j hj, rpush_eq _ _ (by omega)]
    simp only [bind_eq]
    rw [w64 (by omega), hr _ ⟨by first | omega | (dsimp only; omega) | (simp only [List.length_cons, List.length_nil, List.length_append, List.length_drop, List.length_take, maxBytes]; omega) | (simp; omega), by simp only [ins_len]; omega⟩ (by first | omega | (dsimp only; omega) | (simp only [List.length_cons, List.length_nil, List.length_append, List.length_drop, List.length_take, maxBytes]; omega) | (simp; omega))]
    simp only [show ((j : Int) + 1).toNat = j + 1 by omega]
    rfl
  · rw [if_neg (by simpa using hj), List.drop_eq_nil_of_le (by omega)]
    rfl
theorem hrows_eq (l : List It) (hl : l.length ≤ 1000) : law04_rows.p (l, ()) = some (l, ()) := by
  unfold law04_rows.p law04_plain.p
  simp only [jn_eq]
  refine (iterK_fix (F := fun s => some (s.1 ++ l.drop s.2.1.toNat, ())) (m := fun s => l.length - s.2.1.toNat) (I := fun s => (0 ≤ s.2.1 ∧ s.2.1 ≤ (l.length : Int)) ∧ s.1.length ≤ s.2.1.toNat) ?_ _ _ ⟨by simp, by simp⟩ (by simp; omega)).trans rfl
  rintro ⟨m, i, _⟩ r ⟨⟨h0, h1⟩, h2⟩ hr
  obtain ⟨j, rfl⟩ := Int.eq_ofNat_of_zero_le h0
  simp only [Int.toNat_natCast] at *
  by_cases hj : j < l.length
  · rw [if_pos (by simpa using hj), if_pos (by omega), drop_rdZ zI l j hj]
    simp only [bind_eq]
    rw [if_pos (by simp only [List.length_cons, List.length_nil, maxBytes]; omega), w64 (by omega), hr _ ⟨by first | omega | (dsimp only; omega) | (simp only [List.length_cons, List.length_nil, List.length_append, List.length_drop, List.length_take, maxBytes]; omega) | (simp; omega), by simp only [List.length_append, List.length_cons, List.length_nil]; omega⟩ (by first | omega | (dsimp only; omega) | (simp only [List.length_cons, List.length_nil, List.length_append, List.length_drop, List.length_take, maxBytes]; omega) | (simp; omega))]
    simp only [show ((j : Int) + 1).toNat = j + 1 by omega, List.append_assoc, List.cons_append, List.nil_append]
  · rw [if_neg (by simpa using hj), List.drop_eq_nil_of_le (by omega), List.append_nil]
theorem same_self (l : List It) (hl : l.length ≤ 1000000) : law04_same.p (l, l, ()) = some (true, ()) := by
  unfold law04_same.p
  simp only [jn_eq, decide_true, Bool.not_true, Bool.false_eq_true, if_false]
  refine iterK_fix (F := fun x => some (true, ())) (m := fun x => l.length - x.1.toNat) (I := fun x => 0 ≤ x.1 ∧ x.1 ≤ (l.length : Int)) ?_ _ _ (by simp) (by simp; omega)
  rintro ⟨i, _⟩ r ⟨h0, h1⟩ hr
  obtain ⟨j, rfl⟩ := Int.eq_ofNat_of_zero_le h0
  simp only [Int.toNat_natCast] at *
  by_cases hj : j < l.length
  · rw [if_pos (by simpa using hj), if_pos (by omega), if_pos (by omega), if_neg (by simp), w64 (by omega), hr _ ⟨by first | omega | (dsimp only; omega) | (simp only [List.length_cons, List.length_nil, List.length_append, List.length_drop, List.length_take, maxBytes]; omega) | (simp; omega), by first | omega | (dsimp only; omega) | (simp only [List.length_cons, List.length_nil, List.length_append, List.length_drop, List.length_take, maxBytes]; omega) | (simp; omega)⟩ (by first | omega | (dsimp only; omega) | (simp only [List.length_cons, List.length_nil, List.length_append, List.length_drop, List.length_take, maxBytes]; omega) | (simp; omega))]
  · rw [if_neg (by simpa using hj)]
theorem isort_len (l : List It) : (isort l).length = l.length := (isort_perm l).length_eq
theorem heapSorted (l : List It) : law04_HeapSorted.p (l, ()) = some (true, ()) := by
  unfold law04_HeapSorted.p
  simp only [aliveH, jn_eq, bind_eq, if_true]
  by_cases h1 : (l.length : Int) > 100
  · simp [h1]
  · have hs := isort_len l
    simp only [h1, decide_false, Bool.false_eq_true, if_false, sorted_eq l (by omega), hrows_eq _ (show (isort l).length ≤ 1000 by omega), hrows_eq l (by omega), rsorted_eq l (by omega), same_self _ (show (isort l).length ≤ 1000000 by omega), bind_eq]
theorem heapNil (x : It) : law04_HeapNil.p (x, ()) = some (true, ()) := by
  unfold law04_HeapNil.p heap_Heap_Push_2.p heap_Heap_Top_2.p heap_Heap_Pop_2.p heap_Heap_Top_2.p heap_Heap_Len_2.p
  simp [aliveH, jn_eq]
def isI (x y : It) : Bool := decide (y.1 = x.1) && (decide (y.2.1 = x.2.1) && true)
theorem count_eq (l : List It) (x : It) (hl : l.length ≤ 1000) : law04_count.p (l, x, ()) = some ((l.countP (isI x) : Int), ()) := by
  unfold law04_count.p
  simp only [jn_eq]
  refine (iterK_fix (F := fun s => some (s.1 + ((l.drop s.2.1.toNat).countP (isI x) : Int), ())) (m := fun s => l.length - s.2.1.toNat) (I := fun s => (0 ≤ s.2.1 ∧ s.2.1 ≤ (l.length : Int)) ∧ 0 ≤ s.1 ∧ s.1 ≤ s.2.1) ?_ _ _ ⟨by simp, by simp⟩ (by simp; omega)).trans (by simp)
  rintro ⟨n, i, _⟩ r ⟨⟨h0, h1⟩, h2, h3⟩ hr
  obtain ⟨j, rfl⟩ := Int.eq_ofNat_of_zero_le h0
  simp only [Int.toNat_natCast] at *
  by_cases hj : j < l.length
  · rw [if_pos (by simpa using hj), if_pos (by omega), drop_rdZ zI l j hj, List.countP_cons]
    change (if isI x (rdZ zI l j) = true then _ else _) = _
    cases isI x (rdZ zI l j) with
    | true =>
      simp only [if_true]
      rw [w64 (x := n + 1) (by omega), w64 (by omega), hr _ ⟨by first | omega | (dsimp only; omega) | (simp only [List.length_cons, List.length_nil, List.length_append, List.length_drop, List.length_take, maxBytes]; omega) | (simp; omega), by first | omega | (dsimp only; omega) | (simp only [List.length_cons, List.length_nil, List.length_append, List.length_drop, List.length_take, maxBytes]; omega) | (simp; omega), by first | omega | (dsimp only; omega) | (simp only [List.length_cons, List.length_nil, List.length_append, List.length_drop, List.length_take, maxBytes]; omega) | (simp; omega)⟩ (by first | omega | (dsimp only; omega) | (simp only [List.length_cons, List.length_nil, List.length_append, List.length_drop, List.length_take, maxBytes]; omega) | (simp; omega))]
      simp only [show ((j : Int) + 1).toNat = j + 1 by omega]
      congr 2
      omega
    | false =>
      simp only [Bool.false_eq_true, if_false]
      rw [w64 (by omega), hr _ ⟨by first | omega | (dsimp only; omega) | (simp only [List.length_cons, List.length_nil, List.length_append, List.length_drop, List.length_take, maxBytes]; omega) | (simp; omega), by first | omega | (dsimp only; omega) | (simp only [List.length_cons, List.length_nil, List.length_append, List.length_drop, List.length_take, maxBytes]; omega) | (simp; omega), by first | omega | (dsimp only; omega) | (simp only [List.length_cons, List.length_nil, List.length_append, List.length_drop, List.length_take, maxBytes]; omega) | (simp; omega)⟩ (by first | omega | (dsimp only; omega) | (simp only [List.length_cons, List.length_nil, List.length_append, List.length_drop, List.length_take, maxBytes]; omega) | (simp; omega))]
      simp only [show ((j : Int) + 1).toNat = j + 1 by omega, Nat.add_zero]
  · rw [if_neg (by simpa using hj), List.drop_eq_nil_of_le (by omega)]
    simp
theorem yes {o : Option (Bool × Unit)} (h : ∃ v, o = some v ∧ v = (true, ())) : o = some (true, ()) := by
  obtain ⟨v, h1, h2⟩ := h
  rw [h1, h2]
theorem take_snoc (l : List It) (j : Nat) (h : j < l.length) : (l.take (j + 1)).Perm (rdZ zI l j :: l.take j) := by
  rw [rdZ_get zI l j h, List.take_succ_eq_append_getElem h]
  exact List.perm_append_singleton _ _
theorem new_nil : ∃ h : List It, heap_New.p (([] : List It), ()) = some (h, ()) ∧ h = [] := by
  obtain ⟨h, h1, h2, _⟩ := new_ex [] (by simp)
  exact ⟨h, h1, h2.eq_nil⟩
theorem H_nil : H [] 0 := by intro j h1 h2; simp at h2
theorem heapOrder (l : List It) : law04_HeapOrder.p (l, ()) = some (true, ()) := by
  unfold law04_HeapOrder.p
  simp only [aliveH, jn_eq, bind_eq, if_true]
  by_cases hl : (l.length : Int) > 100
  · simp [hl]
  · obtain ⟨e, he, hen⟩ := new_nil
    subst hen
    simp only [hl, decide_false, Bool.false_eq_true, if_false, he, bind_eq]
    refine yes (iterK_ex (fun v => v = (true, ())) (fun s : Int × List It × Unit => l.length - s.1.toNat) (fun s => (0 ≤ s.1 ∧ s.1 ≤ (l.length : Int)) ∧ s.2.1.Perm (l.take s.1.toNat) ∧ H s.2.1 0) ?_ _ _ ⟨by simp, by simp, H_nil⟩ (by simp; omega))
    rintro ⟨i, h, _⟩ r ⟨⟨h0, h1⟩, h2, h3⟩ hr
    obtain ⟨j, rfl⟩ := Int.eq_ofNat_of_zero_le h0
    simp only [Int.toNat_natCast] at *
    have hlen := h2.length_eq
    rw [List.length_take] at hlen
    by_cases hj : j < l.length
    · rw [if_pos (by simpa using hj), if_pos (by omega)]
      obtain ⟨k, k1, k2, k3⟩ := push_ex h (rdZ zI l j) (by omega) h3
      rw [k1]
      simp only [bind_eq]
      rw [w64 (by omega)]
      refine hr _ ⟨by first | omega | (dsimp only; omega) | (simp only [List.length_cons, List.length_nil, List.length_append, List.length_drop, List.length_take, maxBytes]; omega) | (simp; omega), ?_, k3⟩ (by first | omega | (dsimp only; omega) | (simp only [List.length_cons, List.length_nil, List.length_append, List.length_drop, List.length_take, maxBytes]; omega) | (simp; omega))
      rw [show ((j : Int) + 1).toNat = j + 1 by omega]
      exact k2.trans ((List.Perm.cons _ h2).trans (take_snoc l j hj).symm)
    · have hjl : j = l.length := by omega
      rw [if_neg (by simpa using hj)]
      rw [hjl, List.take_length] at h2
      clear hr r
      refine iterK_ex (fun v => v = (true, ())) (fun s : List It × Int × List It × Unit => l.length - s.2.1.toNat) (fun s => (0 ≤ s.2.1 ∧ s.2.1 ≤ (l.length : Int)) ∧ s.1.length = s.2.1.toNat ∧ (s.1 ++ s.2.2.1).Perm l ∧ H s.2.2.1 0 ∧ ∀ a ∈ s.1, ∀ y ∈ s.2.2.1, ¬ LTi y a) ?_ _ _ ⟨by simp, by simp, by simpa using h2, h3, by simp⟩ (by simp; omega)
      rintro ⟨out, i, k, _⟩ r ⟨⟨i0, i1⟩, i2, i3, i4, i5⟩ hr
      obtain ⟨n, rfl⟩ := Int.eq_ofNat_of_zero_le i0
      simp only [Int.toNat_natCast] at *
      have hlen2 := i3.length_eq
      rw [List.length_append] at hlen2
      by_cases hn : n < l.length
      · rw [if_pos (by simpa using hn)]
        obtain ⟨k', p1, p2, p3, p4⟩ := pop_ex k (by omega) (by omega) i4
        have hxk : g k 0 ∈ k := p2.mem_iff.2 (.head _)
        rw [p1]
        simp only [bind_eq, Bool.not_true, Bool.false_eq_true, if_false]
        have hnext : ∃ v, r (out ++ [g k 0], ((n : Int) + 1), k', ()) = some v ∧ v = (true, ()) := by
          refine hr _ ⟨by first | omega | (dsimp only; omega) | (simp only [List.length_cons, List.length_nil, List.length_append, List.length_drop, List.length_take, maxBytes]; omega) | (simp; omega), by simp only [List.length_append, List.length_cons, List.length_nil]; omega, ?_, p3, ?_⟩ (by first | omega | (dsimp only; omega) | (simp only [List.length_cons, List.length_nil, List.length_append, List.length_drop, List.length_take, maxBytes]; omega) | (simp; omega))
          · refine (List.Perm.trans ?_ i3)
            simp only [List.append_assoc, List.cons_append, List.nil_append]
            exact List.Perm.append_left out p2.symm
          · intro a ha y hy
            have hyk : y ∈ k := p2.mem_iff.2 (.tail _ hy)
            rcases List.mem_append.1 ha with ha | ha
            · exact i5 a ha y hyk
            · rw [List.mem_singleton] at ha
              subst ha
              exact p4 y hyk
        by_cases hn0 : (n : Int) > 0
        · rw [if_pos (by simpa using hn0), w64 (x := (n : Int) - 1) (by omega), w64 (x := (n : Int) + 1) (by omega)]
          unfold law04_plain.p
          simp only [bind_eq]
          rw [if_pos (by omega), rahead_eq]
          simp only [bind_eq]
          have hmem : rdZ zI out ((n : Int) - 1).toNat ∈ out := rdZ_mem zI out _ (by omega)
          have hno := i5 _ hmem _ hxk
          simp only [hno, decide_false, Bool.false_eq_true, if_false]
          rw [if_pos (by simp only [List.length_cons, List.length_nil, maxBytes]; omega)]
          exact hnext
        · rw [if_neg (by simpa using hn0), if_pos (by simp only [List.length_cons, List.length_nil, maxBytes]; omega), w64 (x := (n : Int) + 1) (by omega)]
          exact hnext
      · have hk : k = [] := List.eq_nil_of_length_eq_zero (by omega)
        subst hk
        rw [List.append_nil] at i3
        rw [if_neg (by simpa using hn)]
        clear hr r
        refine iterK_ex (fun v => v = (true, ())) (fun s : Int × Unit => l.length - s.1.toNat) (fun s => 0 ≤ s.1 ∧ s.1 ≤ (l.length : Int)) ?_ _ _ (by simp) (by simp; omega)
        rintro ⟨i, _⟩ r ⟨q0, q1⟩ hr
        obtain ⟨t, rfl⟩ := Int.eq_ofNat_of_zero_le q0
        simp only [Int.toNat_natCast] at *
        by_cases ht : t < l.length
        · have hb : (0 : Int) ≤ t ∧ (t : Int) < (l.length : Int) := by omega
          rw [if_pos (by simpa using ht), if_pos hb, count_eq l _ (by omega)]
          simp only [bind_eq]
          rw [if_pos hb, count_eq out _ (by omega), i3.countP_eq]
          simp only [bind_eq, decide_true, Bool.not_true, Bool.false_eq_true, if_false]
          rw [w64 (by omega)]
          exact hr _ ⟨by first | omega | (dsimp only; omega) | (simp only [List.length_cons, List.length_nil, List.length_append, List.length_drop, List.length_take, maxBytes]; omega) | (simp; omega), by first | omega | (dsimp only; omega) | (simp only [List.length_cons, List.length_nil, List.length_append, List.length_drop, List.length_take, maxBytes]; omega) | (simp; omega)⟩ (by first | omega | (dsimp only; omega) | (simp only [List.length_cons, List.length_nil, List.length_append, List.length_drop, List.length_take, maxBytes]; omega) | (simp; omega))
        · rw [if_neg (by simpa using ht)]
          unfold heap_Heap_Len.p
          exact ⟨_, rfl, by simp⟩
theorem heapAlike (l : List It) : law04_HeapAlike.p (l, ()) = some (true, ()) := by
  unfold law04_HeapAlike.p
  simp only [aliveH, jn_eq, bind_eq, if_true]
  by_cases hl : (l.length : Int) > 100
  · simp [hl]
  · obtain ⟨e, he, hen⟩ := new_nil
    subst hen
    obtain ⟨a, ha, ha2, ha3⟩ := new_ex l (by omega)
    simp only [hl, decide_false, Bool.false_eq_true, if_false, he, ha, bind_eq]
    rw [w64 (x := (l.length : Int) - 1) (by omega)]
    refine yes (iterK_ex (fun v => v = (true, ())) (fun s : Int × List It × Unit => (s.1 + 1).toNat) (fun s => (-1 ≤ s.1 ∧ s.1 < (l.length : Int)) ∧ s.2.1.Perm (l.drop (s.1 + 1).toNat) ∧ H s.2.1 0) ?_ _ _ ⟨by simp only; omega, ?_, H_nil⟩ (by simp only; omega))
    rotate_left
    · show ([] : List It).Perm (l.drop ((l.length : Int) - 1 + 1).toNat)
      rw [show ((l.length : Int) - 1 + 1).toNat = l.length by omega, List.drop_length]
    rintro ⟨i, h, _⟩ r ⟨⟨h0, h1⟩, h2, h3⟩ hr
    simp only at h0 h1 h2 h3 ⊢
    have hlen := h2.length_eq
    rw [List.length_drop] at hlen
    by_cases hi : i ≥ 0
    · obtain ⟨j, rfl⟩ := Int.eq_ofNat_of_zero_le hi
      rw [if_pos (by simp), if_pos (by omega), Int.toNat_natCast]
      obtain ⟨k, k1, k2, k3⟩ := push_ex h (rdZ zI l j) (by omega) h3
      rw [k1]
      simp only [bind_eq]
      rw [w64 (by omega)]
      refine hr _ ⟨by simp only; omega, ?_, k3⟩ (by simp only; omega)
      show k.Perm (l.drop ((j : Int) - 1 + 1).toNat)
      rw [show ((j : Int) - 1 + 1).toNat = j by omega, drop_rdZ zI l j (by omega)]
      rw [show ((j : Int) + 1).toNat = j + 1 by omega] at h2
      exact k2.trans (List.Perm.cons _ h2)
    · have him : i = -1 := by omega
      subst him
      rw [if_neg (by simp)]
      have h2' : h.Perm l := h2
      clear hr r
      refine iterK_ex (fun v => v = (true, ())) (fun s : Int × List It × List It × Unit => l.length - s.1.toNat) (fun s => (0 ≤ s.1 ∧ s.1 ≤ (l.length : Int)) ∧ s.2.1.length + s.1.toNat = l.length ∧ s.2.1.Perm s.2.2.1 ∧ H s.2.1 0 ∧ H s.2.2.1 0) ?_ _ _ ⟨by simp, by simpa using ha2.length_eq, ha2.trans h2'.symm, ha3, h3⟩ (by simp; omega)
      rintro ⟨i, p, q, _⟩ r ⟨⟨i0, i1⟩, i2, i3, i4, i5⟩ hr
      obtain ⟨n, rfl⟩ := Int.eq_ofNat_of_zero_le i0
      simp only [Int.toNat_natCast] at *
      have hpq := i3.length_eq
      by_cases hn : n < l.length
      · rw [if_pos (by simpa using hn)]
        obtain ⟨p', p1, p2, p3, p4⟩ := pop_ex p (by omega) (by omega) i4
        obtain ⟨q', q1, q2, q3, q4⟩ := pop_ex q (by omega) (by omega) i5
        have hx : g p 0 = g q 0 := le_anti (q4 _ (i3.mem_iff.1 (p2.mem_iff.2 (.head _)))) (p4 _ (i3.mem_iff.2 (q2.mem_iff.2 (.head _))))
        have hperm : p'.Perm q' := by
          have := p2.symm.trans (i3.trans q2)
          rw [hx] at this
          exact this.cons_inv
        have hpl := p2.length_eq
        simp only [List.length_cons] at hpl
        rw [p1, q1, hx]
        simp only [bind_eq, decide_true, Bool.and_self, Bool.not_true, Bool.false_eq_true, if_false]
        rw [w64 (by omega)]
        exact hr _ ⟨by first | omega | (dsimp only; omega) | (simp only [List.length_cons, List.length_nil, List.length_append, List.length_drop, List.length_take, maxBytes]; omega) | (simp; omega), by simp only [show ((n : Int) + 1).toNat = n + 1 by omega]; omega, hperm, p3, q3⟩ (by first | omega | (dsimp only; omega) | (simp only [List.length_cons, List.length_nil, List.length_append, List.length_drop, List.length_take, maxBytes]; omega) | (simp; omega))
      · have hp : p = [] := List.eq_nil_of_length_eq_zero (by omega)
        have hq : q = [] := List.eq_nil_of_length_eq_zero (by omega)
        subst hp
        subst hq
        rw [if_neg (by simpa using hn)]
        unfold heap_Heap_Len.p
        exact ⟨_, rfl, by simp⟩
theorem top_of {h t : List It} {z : It} (hp : h.Perm (z :: t)) (hs : Srt (z :: t)) (hh : H h 0) : g h 0 = z := by
  have h0 : 0 < h.length := by rw [hp.length_eq]; simp
  unfold Srt at hs
  rw [List.pairwise_cons] at hs
  refine le_anti ?_ ?_
  · rcases List.mem_cons.1 (hp.mem_iff.1 (g_mem h0)) with e | e
    · rw [e]; exact lt_irr _
    · exact hs.1 _ e
  · obtain ⟨j, hj, hz⟩ := List.mem_iff_getElem.1 (hp.mem_iff.2 (.head _))
    rw [← hz, ← g_at hj]
    exact H_min hh j hj
theorem heapPlays (l : List It) (w : List (Bool × It × Unit)) : law04_HeapPlays.p (l, w, ()) = some (true, ()) := by
  unfold law04_HeapPlays.p
  simp only [aliveH, jn_eq, bind_eq, if_true]
  by_cases hl : (l.length : Int) > 100
  · simp [hl]
  · obtain ⟨a, ha, ha2, ha3⟩ := new_ex l (by omega)
    have hs := isort_len l
    simp only [hl, decide_false, Bool.false_eq_true, if_false, List.nil_append]
    rw [if_pos (by simp only [List.length_nil, maxBytes]; omega), ha]
    simp only [bind_eq, hrows_eq l (by omega), rsorted_eq l (by omega), same_self l (by omega)]
    refine yes (iterK_ex (fun v => v = (true, ())) (fun s : List It × Int × List It × Unit => 100 - s.2.1.toNat) (fun s => (0 ≤ s.2.1 ∧ s.2.1 ≤ 100 ∧ s.2.1 ≤ (w.length : Int)) ∧ s.1.length ≤ 100 + s.2.1.toNat ∧ s.2.2.1.Perm s.1 ∧ Srt s.1 ∧ H s.2.2.1 0) ?_ _ _ ⟨by simp, by simp only [hs]; omega, ha2.trans (isort_perm l).symm, isort_srt l, ha3⟩ (by simp only; omega))
    rintro ⟨m, i, h, _⟩ r ⟨⟨h0, h1, h2⟩, h3, h4, h5, h6⟩ hr
    obtain ⟨j, rfl⟩ := Int.eq_ofNat_of_zero_le h0
    simp only [Int.toNat_natCast] at *
    have hlen := h4.length_eq
    by_cases hj : j < w.length
    · by_cases hj2 : j < 100
      · have hb : (0 : Int) ≤ j ∧ (j : Int) < (w.length : Int) := by omega
        rw [if_pos (by simpa using hj), if_pos (by simp only [decide_eq_true_eq]; omega)]
        obtain ⟨act, hact⟩ : ∃ act, rdZ (false, zI, ()) w j = act := ⟨_, rfl⟩
        simp only [hb, and_self, if_true, hact]
        have hnext : ∀ (m' h' : List It), m'.length ≤ 101 + j → h'.Perm m' → Srt m' → H h' 0 → ∃ v, r (m', (j : Int) + 1, h', ()) = some v ∧ v = (true, ()) := by
          intro m' h' q1 q2 q3 q4
          exact hr _ ⟨by simp only; omega, by simp only; omega, q2, q3, q4⟩ (by simp only; omega)
        have wj : IntKind.i64.wrap ((j : Int) + 1) = (j : Int) + 1 := w64 (by omega)
        -- what is asked behind each act
        have tail : ∀ (m' h' : List It), m'.length ≤ 101 + j → h'.Perm m' → Srt m' → H h' 0 →
            ∃ v, ((heap_Heap_Top.p (h', ())).bind fun y19 => (heap_Heap_Len.p (y19.2.2.1, ())).bind fun y22 => if (!decide (y22.1 = (m'.length : Int))) = true then some (false, ()) else if (!(y19.2.1 == decide ((m'.length : Int) > 0))) = true then some (false, ()) else if y19.2.1 = true then (if (0 : Int) ≤ 0 ∧ (0 : Int) < (m'.length : Int) then (if (!(decide (y19.1.1 = (rdZ zI m' (Int.toNat 0)).1) && (decide (y19.1.2.1 = (rdZ zI m' (Int.toNat 0)).2.1) && true))) = true then some (false, ()) else r (m', IntKind.i64.wrap ((j : Int) + 1), y22.2.1, ())) else none) else r (m', IntKind.i64.wrap ((j : Int) + 1), y22.2.1, ())) = some v ∧ v = (true, ()) := by
          intro m' h' q1 q2 q3 q4
          have ql := q2.length_eq
          rw [top_eq, wj]
          simp only [bind_eq, show (0 : Int).toNat = 0 from rfl]
          unfold heap_Heap_Len.p
          by_cases hz : h'.length = 0
          · have hm0 : m' = [] := List.eq_nil_of_length_eq_zero (by omega)
            have hh0 : h' = [] := List.eq_nil_of_length_eq_zero hz
            subst hm0
            subst hh0
            simp only [List.length_nil, if_true, bind_eq, Bool.false_eq_true, if_false]
            rw [if_neg (by simp), if_neg (by simp)]
            exact hnext [] [] q1 q2 q3 q4
          · obtain ⟨z, t, rfl⟩ : ∃ z t, m' = z :: t := by
              cases m' with
              | nil => exact absurd ql hz
              | cons z t => exact ⟨z, t, rfl⟩
            have hg := top_of q2 q3 q4
            have hpos : ((z :: t).length : Int) > 0 := by simp only [List.length_cons]; omega
            have hb0 : (0 : Int) ≤ 0 ∧ (0 : Int) < ((z :: t).length : Int) := ⟨by omega, hpos⟩
            have e0 : rdZ zI (z :: t) 0 = z := rfl
            have hz' : ¬ (z :: t).length = 0 := by simp
            simp only [hz', hz, if_false, bind_eq, hg, e0, ql, hpos, hb0, and_self, decide_true, beq_self_eq_true, Bool.not_true, Bool.false_eq_true, if_true, Bool.and_self]
            exact hnext _ h' q1 q2 q3 q4
        by_cases hp : act.1 = true
        · rw [if_pos hp]
          by_cases hm : m.length = 0
          · have hm0 : m = [] := List.eq_nil_of_length_eq_zero hm
            have hh0 : h = [] := List.eq_nil_of_length_eq_zero (by omega)
            subst hm0
            subst hh0
            rw [pop_nil]
            simp only [bind_eq, List.length_nil, Int.ofNat_zero, Bool.false_eq_true, if_false]
            rw [if_neg (by simp)]
            exact tail [] [] (by simp) (List.Perm.refl _) List.Pairwise.nil H_nil
          · obtain ⟨z, t, rfl⟩ : ∃ z t, m = z :: t := by
              cases m with
              | nil => exact absurd rfl hm
              | cons z t => exact ⟨z, t, rfl⟩
            have hg := top_of h4 h5 h6
            obtain ⟨k, p1, p2, p3, p4⟩ := pop_ex h (by omega) (by rw [hlen]; simp) h6
            rw [hg] at p1 p2
            have hkt : k.Perm t := (p2.symm.trans h4).cons_inv
            have e0 : rdZ zI (z :: t) (Int.toNat 0) = z := rfl
            have e1 : List.drop (Int.toNat 1) (z :: t) = t := rfl
            rw [p1]
            unfold law04_plain.p
            have hpos : ((z :: t).length : Int) > 0 := by simp only [List.length_cons]; omega
            have hb0 : (0 : Int) ≤ 0 ∧ (0 : Int) < ((z :: t).length : Int) := ⟨by omega, hpos⟩
            have hb1 : (0 : Int) ≤ 1 ∧ (1 : Int) ≤ ((z :: t).length : Int) ∧ ((z :: t).length : Int) ≤ ((z :: t).length : Int) := ⟨by omega, by simp only [List.length_cons]; omega, Int.le_refl _⟩
            simp only [bind_eq, hpos, decide_true, beq_self_eq_true, Bool.not_true, Bool.false_eq_true, if_false, if_true]
            rw [if_pos (show (0 : Int) ≤ 0 ∧ True from ⟨by omega, trivial⟩)]
            simp only [e0, decide_true, Bool.not_true, Bool.false_eq_true, if_false, Bool.and_self, Int.toNat_natCast, List.take_length, e1]
            rw [if_pos hb1]
            have h5' : Srt t := by unfold Srt at h5 ⊢; exact (List.pairwise_cons.1 h5).2
            simp only [List.length_cons] at h3
            exact tail t k (by omega) hkt h5' p3
        · rw [if_neg hp]
          obtain ⟨k, k1, k2, k3⟩ := push_ex h act.2.1 (by omega) h6
          rw [k1]
          unfold law04_plain.p
          simp only [bind_eq]
          rw [rpush_eq _ _ (by omega)]
          simp only [bind_eq]
          exact tail (ins act.2.1 m) k (by rw [ins_len]; omega) (k2.trans ((List.Perm.cons _ h4).trans (ins_perm _ _).symm)) (ins_srt _ _ h5) k3
      · rw [if_pos (by simpa using hj), if_neg (by simp only [decide_eq_true_eq]; omega)]
        exact ⟨_, rfl, rfl⟩
    · rw [if_neg (by simpa using hj)]
      exact ⟨_, rfl, rfl⟩
abbrev tI : Ty := .cons (.int .u64) (.cons (.int .i64) .nil)
theorem heapSortedW {P : Program} {x : dens (List.map K.v [(.sl 35 tI)])} (h : WfA P [(.sl 35 tI)] x) : ∃ y, law04_HeapSorted.p x = some y ∧ y.1 = true := ⟨_, heapSorted x.1, rfl⟩
theorem heapOrderW {P : Program} {x : dens (List.map K.v [(.sl 35 tI)])} (h : WfA P [(.sl 35 tI)] x) : ∃ y, law04_HeapOrder.p x = some y ∧ y.1 = true := ⟨_, heapOrder x.1, rfl⟩
theorem heapAlikeW {P : Program} {x : dens (List.map K.v [(.sl 35 tI)])} (h : WfA P [(.sl 35 tI)] x) : ∃ y, law04_HeapAlike.p x = some y ∧ y.1 = true := ⟨_, heapAlike x.1, rfl⟩
theorem heapNilW {P : Program} {x : dens (List.map K.v [tI])} (h : WfA P [tI] x) : ∃ y, law04_HeapNil.p x = some y ∧ y.1 = true := ⟨_, heapNil x.1, rfl⟩
theorem heapPlaysW {P : Program} {x : dens (List.map K.v [(.sl 35 tI), (.sl 37 (.cons .bool (.cons tI .nil)))])} (h : WfA P [(.sl 35 tI), (.sl 37 (.cons .bool (.cons tI .nil)))] x) : ∃ y, law04_HeapPlays.p x = some y ∧ y.1 = true := ⟨_, heapPlays x.1 x.2.1, rfl⟩
end Go.Proofs.Ytejbofccfbclfaa.F
