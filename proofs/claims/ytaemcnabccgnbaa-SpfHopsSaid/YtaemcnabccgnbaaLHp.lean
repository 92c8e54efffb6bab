/- Heaps: what sinks and rises, what is popped. -/
import Derived.Test.YtaemcnabccgnbaaLBase
set_option maxRecDepth 100000
set_option linter.unusedVariables false
set_option linter.unusedSimpArgs false
open Go Go.Proofs.Fr
namespace Go.Proofs.Ytaemcnabccgnbaa.F
abbrev It := Int × Int × Unit
abbrev zI : It := (0, 0, ())
def LTi (x y : It) : Prop := x.1 < y.1 ∨ (x.1 = y.1 ∧ x.2.1 < y.2.1)
instance (x y : It) : Decidable (LTi x y) := by unfold LTi; infer_instance
theorem lt_asym {x y : It} (h : LTi x y) : ¬ LTi y x := by unfold LTi at *; omega
theorem lt_irr (x : It) : ¬ LTi x x := by unfold LTi; omega
theorem le_tr {x y z : It} (h1 : ¬ LTi y x) (h2 : ¬ LTi z y) : ¬ LTi z x := by unfold LTi at *; omega
theorem lt_le {x y z : It} (h1 : LTi x y) (h2 : ¬ LTi z y) : ¬ LTi z x := by unfold LTi at *; omega
theorem le_anti {x y : It} (h1 : ¬ LTi x y) (h2 : ¬ LTi y x) : x = y := by
  unfold LTi at *
  obtain ⟨a, b, _⟩ := x
  obtain ⟨c, d, _⟩ := y
  simp only at h1 h2
  have e1 : a = c := by omega
  have e2 : b = d := by omega
  rw [e1, e2]
theorem ahead_eq (x y : It) : heap_Item_ahead.p (x, y, ()) = some (decide (LTi x y), ()) := by
  unfold heap_Item_ahead.p LTi
  by_cases h : x.1 = y.1
  · simp [h]
  · have : (x.1 < y.1 ∨ x.1 = y.1 ∧ x.2.1 < y.2.1) ↔ x.1 < y.1 := by omega
    simp [h]
def g (l : List It) (j : Nat) : It := rdZ zI l j
theorem g_set (l : List It) (i j : Nat) (x : It) (hi : i < l.length) : g (l.set i x) j = if i = j then x else g l j := by
  unfold g rdZ
  rw [List.getD_eq_getElem?_getD, List.getD_eq_getElem?_getD, List.getElem?_set]
  by_cases h : i = j
  · subst h; simp [hi]
  · simp [h]
theorem g_mem {l : List It} {j : Nat} (h : j < l.length) : g l j ∈ l := rdZ_mem zI l j h
theorem g_at {l : List It} {j : Nat} (h : j < l.length) : g l j = l[j] := rdZ_get zI l j h
theorem set_self (l : List It) (i : Nat) (h : i < l.length) : l.set i (g l i) = l := by
  rw [g_at h, List.set_getElem_self]
/-- Below here no item is ahead of the one above it. -/
def H (l : List It) (k : Nat) : Prop := ∀ j, 0 < j → j < l.length → k ≤ (j - 1) / 2 → ¬ LTi (g l j) (g l ((j - 1) / 2))
theorem H_min {l : List It} (h : H l 0) : ∀ j, j < l.length → ¬ LTi (g l j) (g l 0) := by
  intro j
  induction j using Nat.strongRecOn with
  | ind j ih =>
    intro hj
    by_cases h0 : j = 0
    · subst h0; exact lt_irr _
    · exact le_tr (ih ((j - 1) / 2) (by omega) (by omega)) (h j (by omega) hj (by omega))
theorem swap_perm (l : List It) (p c : Nat) (x : It) (hp : p < l.length) (hc : c < l.length) (hne : p ≠ c) : ((l.set p (g l c)).set c x).Perm (l.set p x) := by
  have h1 : p < (l.set p x).length := by rw [List.length_set]; exact hp
  have h2 : c < (l.set p x).length := by rw [List.length_set]; exact hc
  have h := List.set_set_perm h1 h2
  have e1 : (l.set p x)[c] = g l c := by rw [List.getElem_set_ne hne, g_at hc]
  have e2 : (l.set p x)[p] = x := by rw [List.getElem_set_self]
  rw [e1, e2, List.set_set] at h
  exact h
theorem down_ex (l : List It) (i : Nat) (hi : i < l.length) (hl : l.length ≤ 1000) (h : H l (i + 1)) : ∃ l' : List It, heap_Heap_down.p (l, (i : Int), ()) = some (l', ()) ∧ l'.length = l.length ∧ l'.Perm l ∧ H l' i := by
  unfold heap_Heap_down.p
  simp only [jn_eq]
  rw [if_pos (by omega), Int.toNat_natCast]
  obtain ⟨x, hx⟩ : ∃ x, rdZ zI l i = x := ⟨_, rfl⟩
  simp only [hx]
  have conv : ∀ o : Option (List It × Unit), (∃ v : List It × Unit, o = some v ∧ (v.1.length = l.length ∧ v.1.Perm l ∧ H v.1 i)) → ∃ l' : List It, o = some (l', ()) ∧ l'.length = l.length ∧ l'.Perm l ∧ H l' i := by
    rintro o ⟨⟨l', _⟩, h1, h2⟩
    exact ⟨l', h1, h2⟩
  refine conv _ ?_
  · refine iterK_ex (fun v : List It × Unit => v.1.length = l.length ∧ v.1.Perm l ∧ H v.1 i) (fun s : Int × List It × Unit => l.length - s.1.toNat)
      (fun s => ∃ p : Nat, s.1 = p ∧ p < l.length ∧ (p = i ∨ i ≤ (p - 1) / 2 ∧ i < p) ∧ s.2.1.length = l.length ∧ (s.2.1.set p x).Perm l ∧
        (∀ j, 0 < j → j < l.length → i ≤ (j - 1) / 2 → (j - 1) / 2 ≠ p → ¬ LTi (g (s.2.1.set p x) j) (g (s.2.1.set p x) ((j - 1) / 2))) ∧
        (i < p → ∀ j, 0 < j → j < l.length → (j - 1) / 2 = p → ¬ LTi (g (s.2.1.set p x) j) (g (s.2.1.set p x) ((p - 1) / 2)))) ?_ 4611686018427387904 _ ?_ ?_
    rotate_left
    · refine ⟨i, rfl, hi, .inl rfl, rfl, ?_, ?_, ?_⟩
      · rw [← hx]; show (l.set i (g l i)).Perm l; rw [set_self l i hi]
      · intro j h1 h2 h3 h4
        rw [← hx]
        show ¬ LTi (g (l.set i (g l i)) j) (g (l.set i (g l i)) ((j - 1) / 2))
        rw [set_self l i hi]
        exact h j h1 h2 (by omega)
      · intro hc; omega
    · simp only; omega
    rintro ⟨q, s, _⟩ r ⟨p, hp, hpl, hpi, hsl, hperm, hA, hB⟩ hr
    simp only at hp hsl hperm hA hB
    subst hp
    have w1 : IntKind.i64.wrap (IntKind.i64.wrap (2 * (p : Int)) + 1) = ((2 * p + 1 : Nat) : Int) := by rw [w64 (x := 2 * (p : Int)) (by omega), w64 (by omega)]; omega
    have w2 : IntKind.i64.wrap (((2 * p + 1 : Nat) : Int) + 1) = ((2 * p + 2 : Nat) : Int) := by rw [w64 (by omega)]; omega
    have hps : p < s.length := by omega
    have gm : ∀ j, g (s.set p x) j = if p = j then x else g s j := fun j => g_set s p j x hps
    simp only [w1, w2, Int.toNat_natCast]
    -- with no child left, or none ahead, it is done
    have done : (∀ j, 0 < j → j < l.length → (j - 1) / 2 = p → ¬ LTi (g s j) x) → ∃ v : List It × Unit, (if (0 : Int) ≤ (p : Int) ∧ (p : Int) < (s.length : Int) then some (s.set p x, ()) else none) = some v ∧ (v.1.length = l.length ∧ v.1.Perm l ∧ H v.1 i) := by
      intro hch
      rw [if_pos (by omega)]
      refine ⟨_, rfl, by simp [hsl], hperm, ?_⟩
      intro j h1 h2 h3
      simp only [List.length_set] at h2
      by_cases hc : (j - 1) / 2 = p
      · have hne : p ≠ j := by omega
        rw [gm, gm, if_neg hne, if_pos hc.symm]
        exact hch j h1 (by omega) hc
      · exact hA j h1 (by omega) h3 hc
    by_cases hend : 2 * p + 1 ≥ s.length
    · rw [if_pos (by simp only [decide_eq_true_eq]; omega)]
      exact done fun j h1 h2 h3 => by omega
    · rw [if_neg (by simp only [decide_eq_true_eq]; omega)]
      have fin : ∀ c : Nat, (c = 2 * p + 1 ∨ c = 2 * p + 2) → c < s.length → (∀ j, (j - 1) / 2 = p → 0 < j → j < l.length → ¬ LTi (g s j) (g s c)) →
          ∃ v : List It × Unit, (if (0 : Int) ≤ (c : Int) ∧ (c : Int) < (s.length : Int) then (heap_Item_ahead.p (rdZ zI s c, x, ())).bind fun y9 => (if (!y9.1) = true then (if (0 : Int) ≤ (p : Int) ∧ (p : Int) < (s.length : Int) then some (s.set p x, ()) else none) else if (0 : Int) ≤ (c : Int) ∧ (c : Int) < (s.length : Int) then (if (0 : Int) ≤ (p : Int) ∧ (p : Int) < (s.length : Int) then r ((c : Int), s.set p (rdZ zI s c), ()) else none) else none) else none) = some v ∧ (v.1.length = l.length ∧ v.1.Perm l ∧ H v.1 i) := by
        intro c hc hcl hmin
        rw [if_pos (by omega), ahead_eq]
        simp only [bind_eq]
        by_cases hlt : LTi (rdZ zI s c) x
        · simp only [hlt, decide_true, Bool.not_true, Bool.false_eq_true, if_false]
          rw [if_pos (by omega), if_pos (by omega)]
          have hpc : p ≠ c := by omega
          have gm' : ∀ j, g ((s.set p (g s c)).set c x) j = if c = j then x else if p = j then g s c else g s j := by
            intro j
            rw [g_set _ _ _ _ (by rw [List.length_set]; omega), g_set _ _ _ _ hps]
          refine hr _ ⟨c, rfl, by omega, .inr ⟨by omega, by omega⟩, by simp [hsl], ?_, ?_, ?_⟩ (by simp only; omega)
          · exact (swap_perm s p c x hps hcl hpc).trans hperm
          · intro j h1 h2 h3 h4
            show ¬ LTi (g ((s.set p (g s c)).set c x) j) (g ((s.set p (g s c)).set c x) ((j - 1) / 2))
            rw [gm', gm', if_neg (show ¬ c = (j - 1) / 2 from fun e => h4 e.symm)]
            by_cases j1 : c = j
            · rw [if_pos j1, if_pos (show p = (j - 1) / 2 by omega)]
              exact lt_asym hlt
            · rw [if_neg j1]
              by_cases j2 : p = j
              · rw [if_pos j2, if_neg (show ¬ p = (j - 1) / 2 by omega)]
                have hpi' : i < p := by rcases hpi with e | e <;> omega
                have := hB hpi' c (by omega) (by omega) (by omega)
                rw [gm, gm, if_neg hpc, if_neg (show ¬ p = (p - 1) / 2 by omega)] at this
                rw [← j2]
                exact this
              · rw [if_neg j2]
                by_cases j3 : p = (j - 1) / 2
                · rw [if_pos j3]
                  exact hmin j j3.symm h1 h2
                · rw [if_neg j3]
                  have := hA j h1 h2 h3 fun e => j3 e.symm
                  rw [gm, gm, if_neg j2, if_neg j3] at this
                  exact this
          · intro _ j h1 h2 h3
            show ¬ LTi (g ((s.set p (g s c)).set c x) j) (g ((s.set p (g s c)).set c x) ((c - 1) / 2))
            rw [gm', gm', if_neg (show ¬ c = j by omega), if_neg (show ¬ p = j by omega), if_neg (show ¬ c = (c - 1) / 2 by omega), if_pos (show p = (c - 1) / 2 by omega)]
            have := hA j h1 h2 (by rcases hpi with e | e <;> omega) (by omega)
            rw [gm, gm, if_neg (show ¬ p = j by omega), if_neg (show ¬ p = (j - 1) / 2 by omega), h3] at this
            exact this
        · simp only [hlt, decide_false, Bool.not_false, if_true]
          exact done fun j h1 h2 h3 => le_tr hlt (hmin j h3 h1 h2)
      by_cases h2 : 2 * p + 2 < s.length
      · rw [if_pos (by simp only [decide_eq_true_eq]; omega), if_pos (by omega), if_pos (by omega), ahead_eq]
        simp only [bind_eq]
        by_cases hlt : LTi (rdZ zI s (2 * p + 2)) (rdZ zI s (2 * p + 1))
        · simp only [hlt, decide_true, if_true, Int.toNat_natCast]
          refine fin (2 * p + 2) (.inr rfl) (by omega) ?_
          intro j j1 j2 j3
          have : j = 2 * p + 1 ∨ j = 2 * p + 2 := by omega
          rcases this with rfl | rfl
          · exact lt_asym hlt
          · exact lt_irr _
        · simp only [hlt, decide_false, Bool.false_eq_true, if_false, Int.toNat_natCast]
          refine fin (2 * p + 1) (.inl rfl) (by omega) ?_
          intro j j1 j2 j3
          have : j = 2 * p + 1 ∨ j = 2 * p + 2 := by omega
          rcases this with rfl | rfl
          · exact lt_irr _
          · exact hlt
      · rw [if_neg (by simp only [decide_eq_true_eq]; omega)]
        simp only [Bool.false_eq_true, if_false, Int.toNat_natCast]
        refine fin (2 * p + 1) (.inl rfl) (by omega) ?_
        intro j j1 j2 j3
        have : j = 2 * p + 1 := by omega
        subst this
        exact lt_irr _
end Go.Proofs.Ytaemcnabccgnbaa.F
