/- Graphs: which may be. -/
import Derived.Test.YtaemcnabccgnbaaLSd
set_option maxRecDepth 100000
set_option linter.unusedVariables false
set_option linter.unusedSimpArgs false
open Go Go.Proofs.Fr
namespace Go.Proofs.Ytaemcnabccgnbaa.F
def eOk (N : Int) (x : Eg) : Bool := decide (0 ≤ x.1 ∧ x.1 < N) && (decide (0 ≤ x.2.1 ∧ x.2.1 < N) && decide (0 ≤ x.2.2.1 ∧ x.2.2.1 ≤ 65535))
def mayB (g : Gr) : Bool := decide (1 ≤ g.1 ∧ g.1 ≤ 64 ∧ g.2.1.length ≤ 400) && g.2.1.all (eOk g.1)
theorem isNode_eq (g : Gr) (v : Int) : spf_Graph_isNode.p (g, v, ()) = some (decide (0 ≤ v ∧ v < g.1), ()) := by
  unfold spf_Graph_isNode.p
  simp only [jn_eq]
  by_cases h : v ≥ 0
  · rw [if_pos (decide_eq_true h), decide_eq_decide.2 (show (0 ≤ v ∧ v < g.1) ↔ v < g.1 by omega)]
  · rw [if_neg (by simp only [decide_eq_true_eq]; exact h), decide_eq_false (show ¬ (0 ≤ v ∧ v < g.1) by omega)]
theorem eOk_false {N : Int} {x : Eg} (h : ¬ (0 ≤ x.1 ∧ x.1 < N ∧ 0 ≤ x.2.1 ∧ x.2.1 < N ∧ 0 ≤ x.2.2.1 ∧ x.2.2.1 ≤ 65535)) : eOk N x = false := by
  unfold eOk
  simp only [Bool.and_eq_false_iff, decide_eq_false_iff_not]
  by_cases h1 : 0 ≤ x.1 ∧ x.1 < N
  · by_cases h2 : 0 ≤ x.2.1 ∧ x.2.1 < N
    · exact .inr (.inr fun h3 => h ⟨h1.1, h1.2, h2.1, h2.2, h3.1, h3.2⟩)
    · exact .inr (.inl h2)
  · exact .inl h1
theorem eOk_true {N : Int} {x : Eg} (h : 0 ≤ x.1 ∧ x.1 < N ∧ 0 ≤ x.2.1 ∧ x.2.1 < N ∧ 0 ≤ x.2.2.1 ∧ x.2.2.1 ≤ 65535) : eOk N x = true := by
  unfold eOk
  simp only [Bool.and_eq_true, decide_eq_true_eq]
  exact ⟨⟨h.1, h.2.1⟩, ⟨h.2.2.1, h.2.2.2.1⟩, h.2.2.2.2⟩
theorem may_eq (g : Gr) (hl : g.2.1.length ≤ 100000) : spf_May.p (g, ()) = some (mayB g, ()) := by
  unfold spf_May.p mayB
  simp only [jn_eq, isNode_eq, Option.bind_some]
  by_cases h1 : g.1 < 1
  · have h' : ¬ (1 ≤ g.1 ∧ g.1 ≤ 64 ∧ g.2.1.length ≤ 400) := by omega
    simp only [h1, h', decide_true, decide_false, if_true, Bool.false_and]
  · by_cases h2 : g.1 > 64
    · have h' : ¬ (1 ≤ g.1 ∧ g.1 ≤ 64 ∧ g.2.1.length ≤ 400) := by omega
      simp only [h1, h2, h', decide_true, decide_false, if_true, Bool.false_eq_true, if_false, Bool.false_and]
    · by_cases h3 : (g.2.1.length : Int) > 400
      · have h' : ¬ (1 ≤ g.1 ∧ g.1 ≤ 64 ∧ g.2.1.length ≤ 400) := by omega
        simp only [h1, h2, h3, h', decide_true, decide_false, if_true, Bool.false_eq_true, if_false, Bool.false_and]
      · have h' : 1 ≤ g.1 ∧ g.1 ≤ 64 ∧ g.2.1.length ≤ 400 := by omega
        simp only [h1, h2, h3, h', decide_true, decide_false, Bool.false_eq_true, if_false, Bool.true_and, and_self]
        refine (iterK_fix (F := fun x => some ((g.2.1.drop x.1.toNat).all (eOk g.1), ())) (m := fun x => g.2.1.length - x.1.toNat) (I := fun x => ∃ i : Nat, x = ((i : Int), ()) ∧ i ≤ g.2.1.length) ?_ _ _ ⟨0, rfl, by omega⟩ (by simp only [Int.toNat_zero]; omega)).trans rfl
        rintro x r ⟨i, rfl, hi⟩ ih
        simp only [Int.toNat_natCast]
        by_cases hil : i < g.2.1.length
        · have hil2 : (i : Int) < (g.2.1.length : Int) := Int.ofNat_lt.2 hil
          simp only [hil2, decide_true, if_true]
          rw [if_pos ⟨Int.natCast_nonneg _, trivial⟩, w64 (x := (i : Int) + 1) (by omega), drop_rdZ zE g.2.1 i hil, List.all_cons]
          have hn := ih ((i : Int) + 1, ()) ⟨i + 1, rfl, hil⟩ (by simp only; omega)
          have hn' : r ((i : Int) + 1, ()) = some ((g.2.1.drop (i + 1)).all (eOk g.1), ()) := hn
          obtain ⟨x, hx⟩ : ∃ x, rdZ zE g.2.1 i = x := ⟨_, rfl⟩
          simp only [hx]
          by_cases c1 : 0 ≤ x.1 ∧ x.1 < g.1
          · by_cases c2 : 0 ≤ x.2.1 ∧ x.2.1 < g.1
            · by_cases c3 : x.2.2.1 < 0
              · rw [eOk_false (by omega)]
                simp only [c1, c2, c3, and_self, decide_true, Bool.not_true, Bool.false_eq_true, if_false, if_true, Bool.false_and]
              · by_cases c4 : x.2.2.1 > 65535
                · rw [eOk_false (by omega)]
                  simp only [c1, c2, c3, c4, and_self, decide_true, decide_false, Bool.not_true, Bool.false_eq_true, if_false, if_true, Bool.false_and]
                · rw [eOk_true (by omega)]
                  simp only [c1, c2, c3, c4, and_self, decide_true, decide_false, Bool.not_true, Bool.false_eq_true, if_false, if_true, Bool.true_and]
                  exact hn'
            · rw [eOk_false (by omega)]
              simp only [c1, c2, and_self, decide_true, decide_false, Bool.not_true, Bool.not_false, Bool.false_eq_true, if_false, if_true, Bool.false_and]
          · rw [eOk_false (by omega)]
            simp only [c1, decide_false, Bool.not_false, if_true, Bool.false_and]
        · have hil2 : ¬ (i : Int) < (g.2.1.length : Int) := fun h => hil (Int.ofNat_lt.1 h)
          simp only [hil2, decide_false, Bool.false_eq_true, if_false]
          rw [List.drop_eq_nil_of_le (by omega)]
          rfl
theorem rmay_eq (g : Gr) (hl : g.2.1.length ≤ 100000) : ref05_May.p (g, ()) = some (mayB g, ()) := by
  unfold ref05_May.p mayB
  simp only [jn_eq]
  by_cases h1 : g.1 < 1
  · have h' : ¬ (1 ≤ g.1 ∧ g.1 ≤ 64 ∧ g.2.1.length ≤ 400) := by omega
    simp only [h1, h', decide_true, decide_false, if_true, Bool.false_and]
  · by_cases h2 : g.1 > 64
    · have h' : ¬ (1 ≤ g.1 ∧ g.1 ≤ 64 ∧ g.2.1.length ≤ 400) := by omega
      simp only [h1, h2, h', decide_true, decide_false, if_true, Bool.false_eq_true, if_false, Bool.false_and]
    · by_cases h3 : (g.2.1.length : Int) > 400
      · have h' : ¬ (1 ≤ g.1 ∧ g.1 ≤ 64 ∧ g.2.1.length ≤ 400) := by omega
        simp only [h1, h2, h3, h', decide_true, decide_false, if_true, Bool.false_eq_true, if_false, Bool.false_and]
      · have h' : 1 ≤ g.1 ∧ g.1 ≤ 64 ∧ g.2.1.length ≤ 400 := by omega
        simp only [h1, h2, h3, h', decide_true, decide_false, Bool.false_eq_true, if_false, Bool.true_and, and_self]
        refine (iterK_fix (F := fun x => some ((g.2.1.drop x.1.toNat).all (eOk g.1), ())) (m := fun x => g.2.1.length - x.1.toNat) (I := fun x => ∃ i : Nat, x = ((i : Int), ()) ∧ i ≤ g.2.1.length) ?_ _ _ ⟨0, rfl, by omega⟩ (by simp only [Int.toNat_zero]; omega)).trans rfl
        rintro x r ⟨i, rfl, hi⟩ ih
        simp only [Int.toNat_natCast]
        by_cases hil : i < g.2.1.length
        · have hil2 : (i : Int) < (g.2.1.length : Int) := Int.ofNat_lt.2 hil
          simp only [hil2, decide_true, if_true]
          rw [if_pos ⟨Int.natCast_nonneg _, trivial⟩, w64 (x := (i : Int) + 1) (by omega), drop_rdZ zE g.2.1 i hil, List.all_cons]
          have hn := ih ((i : Int) + 1, ()) ⟨i + 1, rfl, hil⟩ (by simp only; omega)
          have hn' : r ((i : Int) + 1, ()) = some ((g.2.1.drop (i + 1)).all (eOk g.1), ()) := hn
          obtain ⟨x, hx⟩ : ∃ x, rdZ zE g.2.1 i = x := ⟨_, rfl⟩
          simp only [hx]
          by_cases c1 : x.1 < 0
          · rw [eOk_false (by omega)]
            simp only [c1, decide_true, if_true, Bool.false_and]
          · by_cases c2 : x.1 ≥ g.1
            · rw [eOk_false (by omega)]
              simp only [c1, c2, decide_true, decide_false, Bool.false_eq_true, if_false, if_true, Bool.false_and]
            · by_cases c3 : x.2.1 < 0
              · rw [eOk_false (by omega)]
                simp only [c1, c2, c3, decide_true, decide_false, Bool.false_eq_true, if_false, if_true, Bool.false_and]
              · by_cases c4 : x.2.1 ≥ g.1
                · rw [eOk_false (by omega)]
                  simp only [c1, c2, c3, c4, decide_true, decide_false, Bool.false_eq_true, if_false, if_true, Bool.false_and]
                · by_cases c5 : x.2.2.1 < 0
                  · rw [eOk_false (by omega)]
                    simp only [c1, c2, c3, c4, c5, decide_true, decide_false, Bool.false_eq_true, if_false, if_true, Bool.false_and]
                  · by_cases c6 : x.2.2.1 > 65535
                    · rw [eOk_false (by omega)]
                      simp only [c1, c2, c3, c4, c5, c6, decide_true, decide_false, Bool.false_eq_true, if_false, if_true, Bool.false_and]
                    · rw [eOk_true (by omega)]
                      simp only [c1, c2, c3, c4, c5, c6, decide_false, Bool.false_eq_true, if_false, Bool.true_and]
                      exact hn'
        · have hil2 : ¬ (i : Int) < (g.2.1.length : Int) := fun h => hil (Int.ofNat_lt.1 h)
          simp only [hil2, decide_false, Bool.false_eq_true, if_false]
          rw [List.drop_eq_nil_of_le (by omega)]
          rfl
theorem okg_of_may {g : Gr} (h : mayB g = true) : OKg g.1.toNat g.2.1 ∧ ((g.1.toNat : Nat) : Int) = g.1 := by
  unfold mayB at h
  simp only [Bool.and_eq_true, decide_eq_true_eq] at h
  obtain ⟨⟨h1, h2, h3⟩, h4⟩ := h
  have e : ((g.1.toNat : Nat) : Int) = g.1 := by omega
  refine ⟨⟨by omega, by omega, h3, fun x hx => ?_⟩, e⟩
  have h5 := List.all_eq_true.1 h4 x hx
  unfold eOk at h5
  simp only [Bool.and_eq_true, decide_eq_true_eq] at h5
  rw [e]
  omega
end Go.Proofs.Ytaemcnabccgnbaa.F
