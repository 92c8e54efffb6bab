/- What came new, and comes a second time: the law. -/
import Derived.Test.YtecfclldoccbcaaGreatLFr
import Derived.Test.YtecfclldoccbcaaGreatFrd
set_option maxRecDepth 100000
set_option linter.unusedVariables false
set_option linter.unusedSimpArgs false
open Go Go.Proofs.Fr
namespace Go.Proofs.YtecfclldoccbcaaGreat.F
theorem peers_eq (l : List Pr) (hl : l.length ≤ 1000) : law18_peers.p (l, ()) = some (l, ()) := by
  unfold law18_peers.p
  simp only [jn_eq]
  refine iterK_fix (F := fun _ => some (l, ())) (m := fun x => l.length - x.2.1.toNat) (I := fun x => ∃ i : Nat, x = (l.take i, (i : Int), ()) ∧ i ≤ l.length) ?_ _ _ ⟨0, by simp, by omega⟩ (by simp only [Int.toNat_zero]; omega)
  rintro x r ⟨i, rfl, hi⟩ ih
  simp only [Int.toNat_natCast]
  by_cases hil : i < l.length
  · have hil2 : (i : Int) < (l.length : Int) := Int.ofNat_lt.2 hil
    have e1 : (l.take i).length = i := by rw [List.length_take]; omega
    simp only [hil2, decide_true, if_true]
    rw [if_pos ⟨Int.natCast_nonneg _, trivial⟩, if_pos ⟨Int.natCast_nonneg _, trivial⟩, if_pos ⟨Int.natCast_nonneg _, trivial⟩, if_pos (by rw [e1]; simp only [List.length_cons, List.length_nil, maxBytes]; omega), w64 (x := (i : Int) + 1) (by omega)]
    have e2 : l.take i ++ [rdZ zP l i] = l.take (i + 1) := by rw [List.take_succ_eq_append_getElem hil, rdZ_get zP l i hil]
    exact ih _ ⟨i + 1, by rw [← e2]; rfl, hil⟩ (by simp only; omega)
  · have hil2 : ¬ (i : Int) < (l.length : Int) := fun h => hil (Int.ofNat_lt.1 h)
    have hie : i = l.length := by omega
    have e3 : l.take i = l := by rw [hie, List.take_length]
    simp only [hil2, decide_false, Bool.false_eq_true, if_false, e3]
/-- What is known of a flooder of this size. -/
def SmallF (f : Fd) : Prop := MayS f.1 ∧ f.1.2.1.length ≤ 60 ∧ f.2.2.1.length ≤ 10 ∧ ∀ j, j < f.2.2.1.length → (rdZ zP f.2.2.1 j).2.1.length ≤ 60 ∧ (rdZ zP f.2.2.1 j).2.2.1.length ≤ 60
theorem may18_any (f : Fd) (hu : ∀ a ∈ f.1.2.1, AdS a ∧ a.2.1.length ≤ 140737488351232) (hL : f.2.2.1.length ≤ 1000) : ∃ v : Bool × Unit, ref18_May.p (f, ()) = some v ∧ (v.1 = true → MayS f.1) := by
  unfold ref18_May.p
  obtain ⟨v, hv, hm⟩ := may14_eq f.1 hu
  simp only [jn_eq, hv, Option.bind_some]
  cases hvb : v.1 with
  | false =>
    simp only [Bool.not_false, if_true]
    exact ⟨_, rfl, fun h => by cases h⟩
  | true =>
    simp only [Bool.not_true, Bool.false_eq_true, if_false]
    split
    · exact ⟨_, rfl, fun h => by cases h⟩
    · refine iterK_ex (fun v : Bool × Unit => v.1 = true → MayS f.1) (fun x : Int × Unit => f.2.2.1.length - x.1.toNat) (fun x => ∃ i : Nat, x = ((i : Int), ()) ∧ i ≤ f.2.2.1.length) ?_ _ _ ⟨0, rfl, by omega⟩ (by simp only [Int.toNat_zero]; omega)
      rintro x r ⟨i, rfl, hi⟩ ih
      simp only [Int.toNat_natCast]
      by_cases hil : i < f.2.2.1.length
      · have hil2 : (i : Int) < (f.2.2.1.length : Int) := Int.ofNat_lt.2 hil
        simp only [hil2, decide_true, if_true]
        rw [if_pos ⟨Int.natCast_nonneg _, trivial⟩]
        split
        · exact ⟨_, rfl, fun h => by cases h⟩
        · rw [if_pos ⟨Int.natCast_nonneg _, trivial⟩]
          split
          · exact ⟨_, rfl, fun h => by cases h⟩
          · rw [w64 (x := (i : Int) + 1) (by omega)]
            exact ih _ ⟨i + 1, rfl, hil⟩ (by simp only; omega)
      · have hil2 : ¬ (i : Int) < (f.2.2.1.length : Int) := fun h => hil (Int.ofNat_lt.1 h)
        simp only [hil2, decide_false, Bool.false_eq_true, if_false]
        exact ⟨_, rfl, fun _ => hm hvb⟩
theorem aged_any (h : Hd) : ∃ v : Bool, law18_aged.p (h, ()) = some (v, ()) := by
  unfold law18_aged.p
  simp only [jn_eq]
  split <;> exact ⟨_, rfl⟩
theorem small_any (f : Fd) (hu : ∀ a ∈ f.1.2.1, AdS a ∧ a.2.1.length ≤ 140737488351232) : ∃ v : Bool × Unit, law18_small.p (f, ()) = some v ∧ (v.1 = true → SmallF f) := by
  unfold law18_small.p
  simp only [jn_eq]
  by_cases h1 : (f.1.2.1.length : Int) > 60
  · simp only [h1, decide_true, if_true]
    exact ⟨_, rfl, fun h => by cases h⟩
  · by_cases h2 : (f.2.2.1.length : Int) > 10
    · simp only [h1, h2, decide_false, decide_true, Bool.false_eq_true, if_false, if_true]
      exact ⟨_, rfl, fun h => by cases h⟩
    · simp only [h1, h2, decide_false, Bool.false_eq_true, if_false]
      refine iterK_ex (fun v : Bool × Unit => v.1 = true → SmallF f) (fun x : Int × Unit => f.2.2.1.length - x.1.toNat) (fun x => ∃ i : Nat, x = ((i : Int), ()) ∧ i ≤ f.2.2.1.length ∧ ∀ j, j < i → (rdZ zP f.2.2.1 j).2.1.length ≤ 60 ∧ (rdZ zP f.2.2.1 j).2.2.1.length ≤ 60) ?_ _ _ ⟨0, rfl, by omega, fun j hj => absurd hj (by omega)⟩ (by simp only [Int.toNat_zero]; omega)
      rintro x r ⟨i, rfl, hi, hj⟩ ih
      simp only [Int.toNat_natCast]
      by_cases hil : i < f.2.2.1.length
      · have hil2 : (i : Int) < (f.2.2.1.length : Int) := Int.ofNat_lt.2 hil
        simp only [hil2, decide_true, if_true]
        rw [if_pos ⟨Int.natCast_nonneg _, trivial⟩]
        by_cases h3 : ((rdZ zP f.2.2.1 i).2.1.length : Int) > 60
        · simp only [h3, decide_true, if_true]
          exact ⟨_, rfl, fun h => by cases h⟩
        · simp only [h3, decide_false, Bool.false_eq_true, if_false]
          rw [if_pos ⟨Int.natCast_nonneg _, trivial⟩]
          by_cases h4 : ((rdZ zP f.2.2.1 i).2.2.1.length : Int) > 60
          · simp only [h4, decide_true, if_true]
            exact ⟨_, rfl, fun h => by cases h⟩
          · simp only [h4, decide_false, Bool.false_eq_true, if_false]
            refine iterK_ex (fun v : Bool × Unit => v.1 = true → SmallF f) (fun x : Int × Unit => (rdZ zP f.2.2.1 i).2.2.1.length - x.1.toNat) (fun x => ∃ q : Nat, x = ((q : Int), ()) ∧ q ≤ (rdZ zP f.2.2.1 i).2.2.1.length) ?_ _ _ ⟨0, rfl, by omega⟩ (by simp only [Int.toNat_zero]; omega)
            rintro y r2 ⟨q, rfl, hq⟩ ih2
            simp only [Int.toNat_natCast]
            rw [if_pos ⟨Int.natCast_nonneg _, trivial⟩]
            by_cases hql : q < (rdZ zP f.2.2.1 i).2.2.1.length
            · have hql2 : (q : Int) < ((rdZ zP f.2.2.1 i).2.2.1.length : Int) := Int.ofNat_lt.2 hql
              obtain ⟨v, hv⟩ := aged_any (rdZ zA (rdZ zP f.2.2.1 i).2.2.1 q).1
              simp only [hql2, decide_true, if_true, hv, Option.bind_some]
              rw [if_pos ⟨Int.natCast_nonneg _, trivial⟩, if_pos ⟨Int.natCast_nonneg _, trivial⟩]
              split
              · exact ⟨_, rfl, fun h => by cases h⟩
              · rw [w64 (x := (q : Int) + 1) (by omega)]
                exact ih2 _ ⟨q + 1, rfl, hql⟩ (by simp only; omega)
            · have hql2 : ¬ (q : Int) < ((rdZ zP f.2.2.1 i).2.2.1.length : Int) := fun h => hql (Int.ofNat_lt.1 h)
              simp only [hql2, decide_false, Bool.false_eq_true, if_false]
              rw [w64 (x := (i : Int) + 1) (by omega)]
              refine ih _ ⟨i + 1, rfl, hil, fun j hj2 => ?_⟩ (by simp only; omega)
              by_cases hji : j = i
              · rw [hji]; exact ⟨by omega, by omega⟩
              · exact hj j (by omega)
      · have hil2 : ¬ (i : Int) < (f.2.2.1.length : Int) := fun h => hil (Int.ofNat_lt.1 h)
        have hL : f.2.2.1.length ≤ 1000 := by omega
        simp only [hil2, decide_false, Bool.false_eq_true, if_false]
        unfold law18_plain.p
        obtain ⟨v, hv, hm⟩ := may18_any (f.1, f.2.1, f.2.2.1, ()) hu hL
        simp only [peers_eq _ hL, Option.bind_some, hv]
        exact ⟨_, rfl, fun h => ⟨hm h, by omega, by omega, fun j hj2 => hj j (by omega)⟩⟩
end Go.Proofs.YtecfclldoccbcaaGreat.F
