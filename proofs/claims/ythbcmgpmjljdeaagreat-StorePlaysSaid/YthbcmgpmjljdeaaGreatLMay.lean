/- Whether a store may be, in the document's words. -/
import Derived.Test.YthbcmgpmjljdeaaGreatLSw
import Derived.Test.YthbcmgpmjljdeaaGreatLR11
set_option maxRecDepth 100000
set_option linter.unusedVariables false
set_option linter.unusedSimpArgs false
open Go Go.Proofs.Fr
namespace Go.Proofs.YthbcmgpmjljdeaaGreat.F
theorem lessR (a b : Ky) : ref11_Less.p (a, b, ()) = some (decide (ltK a b), ()) := by
  unfold ref11_Less.p ltK
  simp only [jn_eq]
  by_cases h1 : a.1 = b.1
  · by_cases h2 : a.2.1 < b.2.1
    · simp [h1, h2]
    · by_cases h3 : a.2.1 = b.2.1
      · simp [h1, h3]
      · simp [h1, h2, h3]
  · by_cases h2 : a.1 < b.1 <;> simp [h1, h2]
theorem rkeyS (a : Ad) : ref11_Key.p (a.1, ()) = some (keyA a, ()) := rfl
theorem rwholeS (a : Ad) (ha : AdS a) (hl : a.2.1.length ≤ 140737488351232) : ref11_Whole.p (a, ()) = some (whole a.1 a.2.1, ()) := by
  by_cases h : a.2.1.length ≤ 1000000
  · exact rwhole_eq a.1 a.2.1 ha.1 ha.2 h
  · obtain ⟨r, hr, he, _⟩ := rraw_eq a.1 ha.1
    unfold ref11_Whole.p ref11_MayAd.p
    simp only [he, Option.bind_some, rmay_eq, jn_eq]
    rw [if_pos (by rw [hr]; simp only [maxBytes]; omega), w64 (x := 20 + (a.2.1.length : Int)) (by omega)]
    unfold whole mayAd
    cases hm : mayH a.1 with
    | false => rfl
    | true =>
      have := (mayH_iff a.1).1 hm
      have e : ¬ a.1.2.2.2.2.2.2.2.1 = 20 + (a.2.1.length : Int) := by omega
      simp [e]
theorem whole_short {a : Ad} (hw : whole a.1 a.2.1 = true) : a.2.1.length ≤ 1400 := by
  obtain ⟨h1, h2, _⟩ := whole_len hw
  have := (mayH_iff a.1).1 h1
  have h3 : a.1.2.2.2.2.2.2.2.1 = 20 + (a.2.1.length : Int) := h2
  omega
theorem rrightS (a : Ad) (hb : By a.2.1) (hl : a.2.1.length ≤ 1400) : ref12_Right.p (a, ()) = some (rightB a, ()) := by
  obtain ⟨v, h1, h2⟩ := right12_eq a.1 a.2.1 hb hl
  have e : ((a.1, a.2.1, ()) : Ad) = a := rfl
  rw [e] at h1 h2
  rw [right_eq a hb hl] at h1
  rw [h2]
  exact h1.symm
theorem rise_of (l : List Ad) (h : ∀ j, j + 1 < l.length → ltK (keyA (rdZ zA l j)) (keyA (rdZ zA l (j + 1)))) : Rise l := by
  have key : ∀ d i, i + d + 1 < l.length → ltK (keyA (rdZ zA l i)) (keyA (rdZ zA l (i + d + 1))) := by
    intro d
    induction d with
    | zero => intro i hi; exact h i hi
    | succ d ih => intro i hi; exact ltK_trans (ih i (by omega)) (h (i + d + 1) hi)
  intro i j hj hi
  have := key (j - i - 1) i (by omega)
  rw [show i + (j - i - 1) + 1 = j by omega] at this
  exact this
/-- What is known of a store that may be. -/
def MayS (s : St) : Prop := 1 ≤ s.1 ∧ s.1 ≤ 2000 ∧ (s.2.1.length : Int) ≤ s.1 ∧ Rise s.2.1 ∧ ∀ j, j < s.2.1.length → whole (rdZ zA s.2.1 j).1 (rdZ zA s.2.1 j).2.1 = true ∧ rightB (rdZ zA s.2.1 j) = true
theorem may14_eq (s : St) (hu : ∀ a ∈ s.2.1, AdS a ∧ a.2.1.length ≤ 140737488351232) : ∃ v : Bool × Unit, ref14_May.p (s, ()) = some v ∧ (v.1 = true → MayS s) := by
  unfold ref14_May.p
  simp only [jn_eq]
  by_cases h1 : s.1 < 1
  · simp only [h1, decide_true, if_true]
    exact ⟨_, rfl, fun h => by cases h⟩
  · by_cases h2 : s.1 > 2000
    · simp only [h1, h2, decide_true, decide_false, Bool.false_eq_true, if_true, if_false]
      exact ⟨_, rfl, fun h => by cases h⟩
    · by_cases h3 : (s.2.1.length : Int) > s.1
      · simp only [h1, h2, h3, decide_true, decide_false, Bool.false_eq_true, if_true, if_false]
        exact ⟨_, rfl, fun h => by cases h⟩
      · simp only [h1, h2, h3, decide_false, Bool.false_eq_true, if_false]
        refine iterK_ex (fun v : Bool × Unit => v.1 = true → MayS s) (fun x : Int × Unit => s.2.1.length - x.1.toNat) (fun x => ∃ i : Nat, x = ((i : Int), ()) ∧ i ≤ s.2.1.length ∧ (∀ j, j < i → whole (rdZ zA s.2.1 j).1 (rdZ zA s.2.1 j).2.1 = true ∧ rightB (rdZ zA s.2.1 j) = true) ∧ ∀ j, j + 1 < i → ltK (keyA (rdZ zA s.2.1 j)) (keyA (rdZ zA s.2.1 (j + 1)))) ?_ _ _ ⟨0, rfl, by omega, fun j hj => absurd hj (by omega), fun j hj => absurd hj (by omega)⟩ (by simp; omega)
        rintro x r ⟨i, rfl, hi, hj1, hj2⟩ ih
        simp only [Int.toNat_natCast]
        by_cases hil : i < s.2.1.length
        · have hil2 : (i : Int) < (s.2.1.length : Int) := Int.ofNat_lt.2 hil
          have ha := hu _ (rdZ_mem zA s.2.1 i hil)
          simp only [hil2, decide_true, if_true, rwholeS _ ha.1 ha.2, Option.bind_some]
          rw [if_pos ⟨Int.natCast_nonneg _, trivial⟩]
          cases hw : whole (rdZ zA s.2.1 i).1 (rdZ zA s.2.1 i).2.1 with
          | false =>
            simp only [Bool.not_false, if_true]
            exact ⟨_, rfl, fun h => by cases h⟩
          | true =>
            simp only [Bool.not_true, Bool.false_eq_true, if_false, rrightS _ ha.1.2 (whole_short hw), Option.bind_some]
            rw [if_pos ⟨Int.natCast_nonneg _, trivial⟩]
            cases hr : rightB (rdZ zA s.2.1 i) with
            | false =>
              simp only [Bool.not_false, if_true]
              exact ⟨_, rfl, fun h => by cases h⟩
            | true =>
              simp only [Bool.not_true, Bool.false_eq_true, if_false]
              rw [w64 (x := (i : Int) + 1) (by omega)]
              have hnext : ∀ j, j < i + 1 → whole (rdZ zA s.2.1 j).1 (rdZ zA s.2.1 j).2.1 = true ∧ rightB (rdZ zA s.2.1 j) = true := by
                intro j hj
                by_cases hji : j = i
                · rw [hji]; exact ⟨hw, hr⟩
                · exact hj1 j (by omega)
              by_cases h0 : (i : Int) > 0
              · simp only [h0, decide_true, if_true]
                rw [w64 (x := (i : Int) - 1) (by omega), if_pos (by omega), show ((i : Int) - 1).toNat = i - 1 by omega]
                simp only [rkeyS, Option.bind_some, lessR]
                rw [if_pos ⟨Int.natCast_nonneg _, trivial⟩]
                by_cases hlt : ltK (keyA (rdZ zA s.2.1 (i - 1))) (keyA (rdZ zA s.2.1 i))
                · simp only [hlt, decide_true, Bool.not_true, Bool.false_eq_true, if_false]
                  refine ih _ ⟨i + 1, rfl, hil, hnext, fun j hj => ?_⟩ (by simp only; omega)
                  by_cases hji : j + 1 = i
                  · have e1 : j = i - 1 := by omega
                    rw [hji, e1]; exact hlt
                  · exact hj2 j (by omega)
                · simp only [hlt, decide_false, Bool.not_false, if_true]
                  exact ⟨_, rfl, fun h => by cases h⟩
              · simp only [h0, decide_false, Bool.false_eq_true, if_false]
                exact ih _ ⟨i + 1, rfl, hil, hnext, fun j hj => absurd hj (by omega)⟩ (by simp only; omega)
        · have hil2 : ¬ (i : Int) < (s.2.1.length : Int) := fun h => hil (Int.ofNat_lt.1 h)
          simp only [hil2, decide_false, Bool.false_eq_true, if_false]
          have hie : i = s.2.1.length := by omega
          exact ⟨_, rfl, fun _ => ⟨by omega, by omega, by omega, rise_of _ fun j hj => hj2 j (by omega), fun j hj => hj1 j (by omega)⟩⟩
theorem mayS_inv {s : St} (h : MayS s) : Inv s.1 s := ⟨rfl, h.2.2.1, h.2.2.2.1, fun j hj => whole_age (h.2.2.2.2 j hj).1⟩
end Go.Proofs.YthbcmgpmjljdeaaGreat.F
