/- Graphs: the document's hops. -/
import Derived.Test.YtaemcnabccgnbaaLSh
set_option maxRecDepth 100000
set_option linter.unusedVariables false
set_option linter.unusedSimpArgs false
open Go Go.Proofs.Fr
namespace Go.Proofs.Ytaemcnabccgnbaa.F
def hasB (n : Int) : List Int → Bool
  | [] => false
  | y :: l => if y = n then true else hasB n l
theorem hasB_iff (n : Int) : ∀ l : List Int, hasB n l = true ↔ n ∈ l
  | [] => by simp [hasB]
  | y :: l => by
    unfold hasB
    by_cases c : y = n
    · rw [if_pos c]; simp [c]
    · rw [if_neg c, hasB_iff n l, List.mem_cons]
      constructor
      · exact .inr
      · rintro (h | h)
        · exact absurd h.symm c
        · exact h
theorem has_eq (l : List Int) (n : Int) (hl : l.length ≤ 100000) : ref05_Has.p (l, n, ()) = some (hasB n l, ()) := by
  unfold ref05_Has.p
  simp only [jn_eq]
  refine (iterK_fix (F := fun x => some (hasB n (l.drop x.1.toNat), ())) (m := fun x => l.length - x.1.toNat) (I := fun x => ∃ i : Nat, x = ((i : Int), ()) ∧ i ≤ l.length) ?_ _ _ ⟨0, rfl, by omega⟩ (by simp only [Int.toNat_zero]; omega)).trans rfl
  rintro x r ⟨i, rfl, hi⟩ ih
  simp only [Int.toNat_natCast]
  by_cases hil : i < l.length
  · have hil2 : (i : Int) < (l.length : Int) := Int.ofNat_lt.2 hil
    simp only [hil2, decide_true, if_true]
    rw [if_pos ⟨Int.natCast_nonneg _, trivial⟩, w64 (x := (i : Int) + 1) (by omega), drop_rd l i hil]
    have hn := ih ((i : Int) + 1, ()) ⟨i + 1, rfl, hil⟩ (by simp only; omega)
    have hn' : r ((i : Int) + 1, ()) = some (hasB n (l.drop (i + 1)), ()) := hn
    unfold hasB
    by_cases c : rd l i = n
    · rw [if_pos (decide_eq_true c), if_pos c]
    · rw [if_neg (by simp only [decide_eq_true_eq]; exact c), hn', if_neg c]
  · have hil2 : ¬ (i : Int) < (l.length : Int) := fun h => hil (Int.ofNat_lt.1 h)
    simp only [hil2, decide_false, Bool.false_eq_true, if_false]
    rw [List.drop_eq_nil_of_le (by omega)]
    rfl
/-- A number let into a row that rises. -/
def insN (n : Int) : List Int → List Int
  | [] => [n]
  | y :: l => if y > n then n :: y :: l else y :: insN n l
theorem insN_mem (n y : Int) : ∀ l : List Int, y ∈ insN n l ↔ y = n ∨ y ∈ l
  | [] => by simp [insN]
  | x :: l => by
    unfold insN
    split
    · simp
    · rw [List.mem_cons, insN_mem n y l, List.mem_cons]
      constructor
      · rintro (h | h | h)
        · exact .inr (.inl h)
        · exact .inl h
        · exact .inr (.inr h)
      · rintro (h | h | h)
        · exact .inr (.inl h)
        · exact .inl h
        · exact .inr (.inr h)
theorem insN_ri (n : Int) : ∀ l : List Int, Ri l → n ∉ l → Ri (insN n l)
  | [], _, _ => List.pairwise_singleton _ _
  | x :: l, h, hn => by
    have h' := List.pairwise_cons.1 h
    unfold insN
    split
    · rename_i c
      refine List.pairwise_cons.2 ⟨fun z hz => ?_, h⟩
      rcases List.mem_cons.1 hz with rfl | hz
      · exact c
      · have := h'.1 z hz; omega
    · rename_i c
      have hne : x ≠ n := fun e => hn (by rw [e]; exact .head _)
      refine List.pairwise_cons.2 ⟨fun z hz => ?_, insN_ri n l h'.2 fun h => hn (.tail _ h)⟩
      rcases (insN_mem n z l).1 hz with rfl | hz
      · omega
      · exact h'.1 z hz
theorem into_ex (l : List Int) (n : Int) (hl : l.length ≤ 1000) (hr : Ri l) : ∃ l', ref05_Into.p (l, n, ()) = some (l', ()) ∧ Ri l' ∧ (∀ y, y ∈ l' ↔ y = n ∨ y ∈ l) ∧ (n ∈ l → l' = l) := by
  unfold ref05_Into.p
  simp only [jn_eq, has_eq l n (by omega), bind_eq]
  by_cases hm : n ∈ l
  · rw [(hasB_iff n l).2 hm, if_pos rfl]
    refine ⟨l, rfl, hr, fun y => ⟨.inr, ?_⟩, fun _ => rfl⟩
    rintro (h | h)
    · rw [h]; exact hm
    · exact h
  · rw [if_neg (fun h => hm ((hasB_iff n l).1 h))]
    refine ⟨insN n l, ?_, insN_ri n l hr hm, fun y => insN_mem n y l, fun h => absurd h hm⟩
    refine (iterK_fix (F := fun x => some (x.1 ++ (if x.2.1 = true then l.drop x.2.2.1.toNat else insN n (l.drop x.2.2.1.toNat)), ())) (m := fun x => l.length - x.2.2.1.toNat) (I := fun x => ∃ i : Nat, x.2.2.1 = (i : Int) ∧ i ≤ l.length ∧ x.1.length + (if x.2.1 = true then 0 else 1) ≤ i + 1) ?_ _ _ ⟨0, rfl, by omega, by simp⟩ (by simp only [Int.toNat_zero]; omega)).trans rfl
    rintro ⟨out, put, i0, _⟩ r ⟨i, hi0, hi, hol⟩ ih
    simp only at hi0 hol
    subst hi0
    simp only [Int.toNat_natCast]
    by_cases hil : i < l.length
    · have hil2 : (i : Int) < (l.length : Int) := Int.ofNat_lt.2 hil
      have hin : 0 ≤ (i : Int) ∧ (i : Int) < (l.length : Int) := ⟨Int.natCast_nonneg _, hil2⟩
      have hw : IntKind.i64.wrap ((i : Int) + 1) = (i : Int) + 1 := w64 (by omega)
      simp only [hil2, decide_true, if_true]
      rw [drop_rd l i hil]
      cases put with
      | true =>
        simp only [if_true] at hol
        simp only [Bool.not_true, Bool.false_eq_true, if_false, if_true]
        rw [if_pos ⟨Int.natCast_nonneg _, trivial⟩, if_pos (by simp only [List.length_cons, List.length_nil, maxBytes]; omega), hw]
        rw [ih (out ++ [rd l i], true, (i : Int) + 1, ()) ⟨i + 1, rfl, hil, by simp only [List.length_append, List.length_cons, List.length_nil, if_true, Bool.false_eq_true, if_false]; omega⟩ (by simp only; omega)]
        have e : ((i : Int) + 1).toNat = i + 1 := by omega
        simp only [if_true, e, List.append_assoc, List.cons_append, List.nil_append]
      | false =>
        simp only [Bool.false_eq_true, if_false] at hol
        simp only [Bool.not_false, if_true, Bool.false_eq_true, if_false]
        rw [if_pos ⟨Int.natCast_nonneg _, trivial⟩]
        have e : ((i : Int) + 1).toNat = i + 1 := by omega
        by_cases c : rd l i > n
        · have c2 : insN n (rd l i :: l.drop (i + 1)) = n :: rd l i :: l.drop (i + 1) := by unfold insN; rw [if_pos c]
          rw [if_pos (decide_eq_true c), if_pos (by simp only [List.length_cons, List.length_nil, maxBytes]; omega), if_pos ⟨Int.natCast_nonneg _, trivial⟩, if_pos (by simp only [List.length_append, List.length_cons, List.length_nil, maxBytes]; omega), hw, c2]
          rw [ih (out ++ [n] ++ [rd l i], true, (i : Int) + 1, ()) ⟨i + 1, rfl, hil, by simp only [List.length_append, List.length_cons, List.length_nil, if_true]; omega⟩ (by simp only; omega)]
          simp only [if_true, e, List.append_assoc, List.cons_append, List.nil_append]
        · have c2 : insN n (rd l i :: l.drop (i + 1)) = rd l i :: insN n (l.drop (i + 1)) := by rw [insN, if_neg c]
          rw [if_neg (by simp only [decide_eq_true_eq]; exact c), if_pos ⟨Int.natCast_nonneg _, trivial⟩, if_pos (by simp only [List.length_append, List.length_cons, List.length_nil, maxBytes]; omega), hw, c2]
          rw [ih (out ++ [rd l i], false, (i : Int) + 1, ()) ⟨i + 1, rfl, hil, by simp only [List.length_append, List.length_cons, List.length_nil, if_true, Bool.false_eq_true, if_false]; omega⟩ (by simp only; omega)]
          simp only [Bool.false_eq_true, if_false, e, List.append_assoc, List.cons_append, List.nil_append]
    · have hil2 : ¬ (i : Int) < (l.length : Int) := fun h => hil (Int.ofNat_lt.1 h)
      simp only [hil2, decide_false, Bool.false_eq_true, if_false]
      rw [List.drop_eq_nil_of_le (by omega)]
      cases put with
      | true => simp only [Bool.not_true, Bool.false_eq_true, if_false, if_true, List.append_nil]
      | false =>
        simp only [Bool.false_eq_true, if_false] at hol
        simp only [Bool.not_false, if_true, Bool.false_eq_true, if_false]
        rw [if_pos (by simp only [List.length_cons, List.length_nil, maxBytes]; omega)]
        rfl
end Go.Proofs.Ytaemcnabccgnbaa.F
