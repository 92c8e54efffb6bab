/- Graphs in the document's words: edges that go both ways, and the other way round. -/
import Derived.Test.YtaemcnabccgnbaaLSg
set_option maxRecDepth 100000
set_option linter.unusedVariables false
set_option linter.unusedSimpArgs false
open Go Go.Proofs.Fr
namespace Go.Proofs.Ytaemcnabccgnbaa.F
theorem rreverse_eq (g : Gr) (hl : g.2.1.length ≤ 100000) : ref05_Reverse.p (g, ()) = some ((g.1, g.2.1.map revE, ()), ()) := by
  unfold ref05_Reverse.p
  simp only [jn_eq]
  refine iterK_fix (F := fun _ => some ((g.1, g.2.1.map revE, ()), ())) (m := fun x => g.2.1.length - x.1.toNat) (I := fun x => ∃ i : Nat, x = ((i : Int), (g.1, (g.2.1.take i).map revE, ()), ()) ∧ i ≤ g.2.1.length) ?_ _ _ ⟨0, rfl, by omega⟩ (by simp only [Int.toNat_zero]; omega)
  rintro x r ⟨i, rfl, hi⟩ ih
  simp only [Int.toNat_natCast]
  by_cases hil : i < g.2.1.length
  · have hil2 : (i : Int) < (g.2.1.length : Int) := Int.ofNat_lt.2 hil
    have l1 : ((g.2.1.take i).map revE).length ≤ 100000 := by rw [List.length_map, List.length_take]; omega
    have e : (g.2.1.take (i + 1)).map revE = (g.2.1.take i).map revE ++ [revE (rdZ zE g.2.1 i)] := by
      rw [List.take_succ_eq_append_getElem hil, List.map_append, rdZ_get zE g.2.1 i hil]; rfl
    simp only [hil2, decide_true, if_true]
    rw [if_pos ⟨Int.natCast_nonneg _, trivial⟩, if_pos ⟨Int.natCast_nonneg _, trivial⟩, if_pos ⟨Int.natCast_nonneg _, trivial⟩, if_pos (by simp only [List.length_cons, List.length_nil, maxBytes]; omega), w64 (x := (i : Int) + 1) (by omega)]
    exact ih _ ⟨i + 1, by rw [e]; rfl, hil⟩ (by simp only; omega)
  · have hil2 : ¬ (i : Int) < (g.2.1.length : Int) := fun h => hil (Int.ofNat_lt.1 h)
    have e : g.2.1.take i = g.2.1 := List.take_of_length_le (by omega)
    simp only [hil2, decide_false, Bool.false_eq_true, if_false, e]
theorem rmutual_eq (g : Gr) (hl : g.2.1.length ≤ 100000) : ref05_Mutual.p (g, ()) = some ((g.1, mutE g.2.1, ()), ()) := by
  unfold ref05_Mutual.p
  simp only [jn_eq]
  refine iterK_fix (F := fun _ => some ((g.1, mutE g.2.1, ()), ())) (m := fun x => g.2.1.length - x.1.toNat) (I := fun x => ∃ i : Nat, x = ((i : Int), (g.1, (g.2.1.take i).filter (fun x => g.2.1.any fun y => decide (y.1 = x.2.1 ∧ y.2.1 = x.1)), ()), ()) ∧ i ≤ g.2.1.length) ?_ _ _ ⟨0, rfl, by omega⟩ (by simp only [Int.toNat_zero]; omega)
  rintro x r ⟨i, rfl, hi⟩ ih
  simp only [Int.toNat_natCast]
  by_cases hil : i < g.2.1.length
  · have hil2 : (i : Int) < (g.2.1.length : Int) := Int.ofNat_lt.2 hil
    have l1 : ((g.2.1.take i).filter (fun x => g.2.1.any fun y => decide (y.1 = x.2.1 ∧ y.2.1 = x.1))).length ≤ 100000 := Nat.le_trans (List.length_filter_le _ _) (by rw [List.length_take]; omega)
    have e : (g.2.1.take (i + 1)).filter (fun x => g.2.1.any fun y => decide (y.1 = x.2.1 ∧ y.2.1 = x.1)) = (g.2.1.take i).filter (fun x => g.2.1.any fun y => decide (y.1 = x.2.1 ∧ y.2.1 = x.1)) ++ (if (g.2.1.any fun y => decide (y.1 = (rdZ zE g.2.1 i).2.1 ∧ y.2.1 = (rdZ zE g.2.1 i).1)) = true then [rdZ zE g.2.1 i] else []) := by
      rw [List.take_succ_eq_append_getElem hil, List.filter_append, rdZ_get zE g.2.1 i hil]
      congr 1
      cases hk : (g.2.1.any fun y => decide (y.1 = g.2.1[i].2.1 ∧ y.2.1 = g.2.1[i].1)) <;> simp only [List.filter_cons, List.filter_nil, hk, if_true, Bool.false_eq_true, if_false]
    simp only [hil2, decide_true, if_true]
    refine iterK_fix (F := fun _ => some ((g.1, mutE g.2.1, ()), ())) (m := fun x => g.2.1.length - x.2.1.toNat) (I := fun x => ∃ q : Nat, x = ((g.2.1.take q).any (fun y => decide (y.1 = (rdZ zE g.2.1 i).2.1 ∧ y.2.1 = (rdZ zE g.2.1 i).1)), (q : Int), ()) ∧ q ≤ g.2.1.length) ?_ _ _ ⟨0, rfl, by omega⟩ (by simp only [Int.toNat_zero]; omega)
    rintro y r2 ⟨q, rfl, hq⟩ ih2
    simp only [Int.toNat_natCast]
    by_cases hql : q < g.2.1.length
    · have hql2 : (q : Int) < (g.2.1.length : Int) := Int.ofNat_lt.2 hql
      have e2 : (g.2.1.take (q + 1)).any (fun y => decide (y.1 = (rdZ zE g.2.1 i).2.1 ∧ y.2.1 = (rdZ zE g.2.1 i).1)) = ((g.2.1.take q).any (fun y => decide (y.1 = (rdZ zE g.2.1 i).2.1 ∧ y.2.1 = (rdZ zE g.2.1 i).1)) || decide ((rdZ zE g.2.1 q).1 = (rdZ zE g.2.1 i).2.1 ∧ (rdZ zE g.2.1 q).2.1 = (rdZ zE g.2.1 i).1)) := by
        rw [List.take_succ_eq_append_getElem hql, List.any_append, rdZ_get zE g.2.1 q hql]
        simp
      simp only [hql2, decide_true, if_true]
      rw [w64 (x := (q : Int) + 1) (by omega)]
      have hnext : ∀ b : Bool, ((g.2.1.take q).any (fun y => decide (y.1 = (rdZ zE g.2.1 i).2.1 ∧ y.2.1 = (rdZ zE g.2.1 i).1)) || decide ((rdZ zE g.2.1 q).1 = (rdZ zE g.2.1 i).2.1 ∧ (rdZ zE g.2.1 q).2.1 = (rdZ zE g.2.1 i).1)) = b → r2 (b, (q : Int) + 1, ()) = some ((g.1, mutE g.2.1, ()), ()) := fun b hb => ih2 _ ⟨q + 1, by rw [e2, hb]; rfl, hql⟩ (by simp only; omega)
      cases ha : (g.2.1.take q).any (fun y => decide (y.1 = (rdZ zE g.2.1 i).2.1 ∧ y.2.1 = (rdZ zE g.2.1 i).1)) with
      | true =>
        simp only [if_true]
        exact hnext true (by rw [ha]; rfl)
      | false =>
        simp only [Bool.false_eq_true, if_false, Int.natCast_nonneg, and_self, if_true]
        by_cases h1 : (rdZ zE g.2.1 q).1 = (rdZ zE g.2.1 i).2.1
        · simp only [h1, decide_true, if_true]
          exact hnext _ (by rw [ha]; simp [h1])
        · simp only [h1, decide_false, Bool.false_eq_true, if_false]
          exact hnext false (by rw [ha]; simp [h1])
    · have hql2 : ¬ (q : Int) < (g.2.1.length : Int) := fun h => hql (Int.ofNat_lt.1 h)
      have e3 : g.2.1.take q = g.2.1 := List.take_of_length_le (by omega)
      simp only [hql2, decide_false, Bool.false_eq_true, if_false, e3]
      rw [w64 (x := (i : Int) + 1) (by omega)]
      cases ha : g.2.1.any (fun y => decide (y.1 = (rdZ zE g.2.1 i).2.1 ∧ y.2.1 = (rdZ zE g.2.1 i).1)) with
      | true =>
        rw [ha] at e
        simp only [if_true, Int.natCast_nonneg, and_self] at e ⊢
        rw [if_pos (by simp only [List.length_cons, List.length_nil, maxBytes]; omega)]
        exact ih _ ⟨i + 1, by rw [e]; rfl, hil⟩ (by simp only; omega)
      | false =>
        rw [ha] at e
        simp only [Bool.false_eq_true, if_false, List.append_nil] at e ⊢
        exact ih _ ⟨i + 1, by rw [e]; rfl, hil⟩ (by simp only; omega)
  · have hil2 : ¬ (i : Int) < (g.2.1.length : Int) := fun h => hil (Int.ofNat_lt.1 h)
    have e : g.2.1.take i = g.2.1 := List.take_of_length_le (by omega)
    simp only [hil2, decide_false, Bool.false_eq_true, if_false, e]
def tightB (d : List Int) (x : Eg) : Bool := if 0 ≤ x.1 ∧ x.1 < (d.length : Int) ∧ 0 ≤ x.2.1 ∧ x.2.1 < (d.length : Int) then (if rd d x.1.toNat = 1099511627776 then false else decide (IntKind.i64.wrap (rd d x.1.toNat + x.2.2.1) = rd d x.2.1.toNat)) else false
theorem isTight_eq (x : Eg) (d : List Int) : spf_isTight.p (x, d, ()) = some (tightB d x, ()) := by
  unfold spf_isTight.p tightB
  simp only [jn_eq]
  by_cases h1 : x.1 < 0
  · have n1 : ¬ (0 ≤ x.1 ∧ x.1 < (d.length : Int) ∧ 0 ≤ x.2.1 ∧ x.2.1 < (d.length : Int)) := by omega
    simp only [h1, decide_true, if_true, n1, if_false]
  · by_cases h2 : x.1 ≥ (d.length : Int)
    · have n1 : ¬ (0 ≤ x.1 ∧ x.1 < (d.length : Int) ∧ 0 ≤ x.2.1 ∧ x.2.1 < (d.length : Int)) := by omega
      simp only [h1, h2, decide_true, decide_false, Bool.false_eq_true, if_true, n1, if_false]
    · by_cases h3 : x.2.1 < 0
      · have n1 : ¬ (0 ≤ x.1 ∧ x.1 < (d.length : Int) ∧ 0 ≤ x.2.1 ∧ x.2.1 < (d.length : Int)) := by omega
        simp only [h1, h2, h3, decide_true, decide_false, Bool.false_eq_true, if_true, n1, if_false]
      · by_cases h4 : x.2.1 ≥ (d.length : Int)
        · have n1 : ¬ (0 ≤ x.1 ∧ x.1 < (d.length : Int) ∧ 0 ≤ x.2.1 ∧ x.2.1 < (d.length : Int)) := by omega
          simp only [h1, h2, h3, h4, decide_true, decide_false, Bool.false_eq_true, if_true, n1, if_false]
        · have y1 : 0 ≤ x.1 ∧ x.1 < (d.length : Int) := by omega
          have y2 : 0 ≤ x.2.1 ∧ x.2.1 < (d.length : Int) := by omega
          have y3 : 0 ≤ x.1 ∧ x.1 < (d.length : Int) ∧ 0 ≤ x.2.1 ∧ x.2.1 < (d.length : Int) := by omega
          simp only [h1, h2, h3, h4, decide_false, Bool.false_eq_true, if_false]
          rw [if_pos y1, if_pos y1, if_pos y2, if_pos y3]
          by_cases h5 : rd d x.1.toNat = 1099511627776
          · simp only [h5, decide_true, Bool.not_true, Bool.false_eq_true, if_false, if_true]
          · simp only [h5, decide_false, Bool.not_false, if_true, if_false]
theorem tight_eq (g : Gr) (d : List Int) (hl : g.2.1.length ≤ 100000) : spf_Tight.p (g, d, ()) = some (g.2.1.map (tightB d), ()) := by
  unfold spf_Tight.p
  simp only [jn_eq, isTight_eq, Option.bind_some]
  refine iterK_fix (F := fun _ => some (g.2.1.map (tightB d), ())) (m := fun x => g.2.1.length - x.2.1.toNat) (I := fun x => ∃ i : Nat, x = ((g.2.1.take i).map (tightB d), (i : Int), ()) ∧ i ≤ g.2.1.length) ?_ _ _ ⟨0, rfl, by omega⟩ (by simp only [Int.toNat_zero]; omega)
  rintro x r ⟨i, rfl, hi⟩ ih
  simp only [Int.toNat_natCast]
  by_cases hil : i < g.2.1.length
  · have hil2 : (i : Int) < (g.2.1.length : Int) := Int.ofNat_lt.2 hil
    have l1 : ((g.2.1.take i).map (tightB d)).length ≤ 100000 := by rw [List.length_map, List.length_take]; omega
    have e : (g.2.1.take (i + 1)).map (tightB d) = (g.2.1.take i).map (tightB d) ++ [tightB d (rdZ zE g.2.1 i)] := by
      rw [List.take_succ_eq_append_getElem hil, List.map_append, rdZ_get zE g.2.1 i hil]; rfl
    simp only [hil2, decide_true, if_true]
    rw [if_pos ⟨Int.natCast_nonneg _, trivial⟩, if_pos (by simp only [List.length_cons, List.length_nil, maxBytes]; omega), w64 (x := (i : Int) + 1) (by omega)]
    exact ih _ ⟨i + 1, by rw [e]; rfl, hil⟩ (by simp only; omega)
  · have hil2 : ¬ (i : Int) < (g.2.1.length : Int) := fun h => hil (Int.ofNat_lt.1 h)
    have e : g.2.1.take i = g.2.1 := List.take_of_length_le (by omega)
    simp only [hil2, decide_false, Bool.false_eq_true, if_false, e]
theorem rtight_eq (g : Gr) (d : List Int) (hl : g.2.1.length ≤ 100000) : ref05_Tight.p (g, d, ()) = some (g.2.1.map (tightB d), ()) := by
  unfold ref05_Tight.p
  simp only [jn_eq]
  refine iterK_fix (F := fun _ => some (g.2.1.map (tightB d), ())) (m := fun x => g.2.1.length - x.2.1.toNat) (I := fun x => ∃ i : Nat, x = ((g.2.1.take i).map (tightB d), (i : Int), ()) ∧ i ≤ g.2.1.length) ?_ _ _ ⟨0, rfl, by omega⟩ (by simp only [Int.toNat_zero]; omega)
  rintro x r ⟨i, rfl, hi⟩ ih
  simp only [Int.toNat_natCast]
  by_cases hil : i < g.2.1.length
  · have hil2 : (i : Int) < (g.2.1.length : Int) := Int.ofNat_lt.2 hil
    have l1 : ((g.2.1.take i).map (tightB d)).length ≤ 100000 := by rw [List.length_map, List.length_take]; omega
    have e : (g.2.1.take (i + 1)).map (tightB d) = (g.2.1.take i).map (tightB d) ++ [tightB d (rdZ zE g.2.1 i)] := by
      rw [List.take_succ_eq_append_getElem hil, List.map_append, rdZ_get zE g.2.1 i hil]; rfl
    have hstep : ∀ b : Bool, tightB d (rdZ zE g.2.1 i) = b → (if ((g.2.1.take i).map (tightB d)).length + [b].length ≤ maxBytes / 1 then r ((g.2.1.take i).map (tightB d) ++ [b], (i : Int) + 1, ()) else none) = some (g.2.1.map (tightB d), ()) := by
      intro b hb
      rw [if_pos (by simp only [List.length_cons, List.length_nil, maxBytes]; omega)]
      exact ih _ ⟨i + 1, by rw [e, hb]; rfl, hil⟩ (by simp only; omega)
    simp only [hil2, decide_true, if_true]
    rw [if_pos ⟨Int.natCast_nonneg _, trivial⟩, w64 (x := (i : Int) + 1) (by omega)]
    by_cases y3 : 0 ≤ (rdZ zE g.2.1 i).1 ∧ (rdZ zE g.2.1 i).1 < (d.length : Int) ∧ 0 ≤ (rdZ zE g.2.1 i).2.1 ∧ (rdZ zE g.2.1 i).2.1 < (d.length : Int)
    · have y1 : 0 ≤ (rdZ zE g.2.1 i).1 ∧ (rdZ zE g.2.1 i).1 < (d.length : Int) := by omega
      have y2 : 0 ≤ (rdZ zE g.2.1 i).2.1 ∧ (rdZ zE g.2.1 i).2.1 < (d.length : Int) := by omega
      have g1 : (rdZ zE g.2.1 i).1 ≥ 0 := y1.1
      have g2 : (rdZ zE g.2.1 i).2.1 ≥ 0 := y2.1
      simp only [g1, y1.2, g2, y2.2, decide_true, if_true]
      rw [if_pos ⟨trivial, trivial⟩]
      by_cases h5 : rd d (rdZ zE g.2.1 i).1.toNat = 1099511627776
      · simp only [h5, decide_true, Bool.not_true, Bool.false_eq_true, if_false]
        exact hstep false (by unfold tightB; rw [if_pos y3, if_pos h5])
      · simp only [h5, decide_false, Bool.not_false, if_true]
        rw [if_pos ⟨trivial, trivial⟩, if_pos ⟨trivial, trivial⟩]
        exact hstep _ (by unfold tightB; rw [if_pos y3, if_neg h5])
    · have hf := hstep false (by unfold tightB; rw [if_neg y3])
      by_cases g1 : (rdZ zE g.2.1 i).1 ≥ 0
      · by_cases g2 : (rdZ zE g.2.1 i).1 < (d.length : Int)
        · by_cases g3 : (rdZ zE g.2.1 i).2.1 ≥ 0
          · have g4 : ¬ (rdZ zE g.2.1 i).2.1 < (d.length : Int) := by omega
            simp only [g1, g2, g3, g4, decide_true, decide_false, if_true, Bool.false_eq_true, if_false]
            exact hf
          · simp only [g1, g2, g3, decide_true, decide_false, if_true, Bool.false_eq_true, if_false]
            exact hf
        · simp only [g1, g2, decide_true, decide_false, if_true, Bool.false_eq_true, if_false]
          exact hf
      · simp only [g1, decide_false, Bool.false_eq_true, if_false]
        exact hf
  · have hil2 : ¬ (i : Int) < (g.2.1.length : Int) := fun h => hil (Int.ofNat_lt.1 h)
    have e : g.2.1.take i = g.2.1 := List.take_of_length_le (by omega)
    simp only [hil2, decide_false, Bool.false_eq_true, if_false, e]
theorem edgesG (g : Gr) (d : List Int) : law05_SpfEdges.p (g, d, ()) = some (true, ()) := by
  unfold law05_SpfEdges.p
  simp only [aliveG, Option.bind_some, jn_eq, if_true, law05_plain.p]
  by_cases h : (g.2.1.length : Int) > 410
  · simp only [h, decide_true, if_true]
  · by_cases h2 : (d.length : Int) > 100
    · simp only [h, h2, decide_true, decide_false, Bool.false_eq_true, if_true, if_false]
    · have hl : g.2.1.length ≤ 100000 := by omega
      have hml : (mutE g.2.1).length ≤ g.2.1.length := List.length_filter_le _ _
      have s1 := sameG (g.1, mutE g.2.1, ()) (by show (mutE g.2.1).length ≤ _; omega)
      have s2 := sameG (g.1, g.2.1.map revE, ()) (by show (g.2.1.map revE).length ≤ _; rw [List.length_map]; exact hl)
      simp only [h, h2, decide_false, Bool.false_eq_true, if_false, tight_eq g d hl, rtight_eq g d hl, Option.bind_some, decide_true, Bool.not_true, mut_eq g hl, rmutual_eq g hl, s1, if_true, reverse_eq g hl, rreverse_eq g hl, s2]
      refine iterK_fix (F := fun _ => some (true, ())) (m := fun x => (g.2.1.map (tightB d)).length - x.1.toNat) (I := fun x => ∃ i : Nat, x = ((i : Int), ()) ∧ i ≤ (g.2.1.map (tightB d)).length) ?_ _ _ ⟨0, rfl, by omega⟩ (by simp only [Int.toNat_zero, List.length_map]; omega)
      rintro x r ⟨i, rfl, hi⟩ ih
      simp only [Int.toNat_natCast]
      by_cases hil : i < (g.2.1.map (tightB d)).length
      · have hil2 : (i : Int) < ((g.2.1.map (tightB d)).length : Int) := Int.ofNat_lt.2 hil
        have hil3 : i < g.2.1.length := by rw [List.length_map] at hil; exact hil
        simp only [hil2, decide_true, if_true, beq_self_eq_true, Bool.not_true, Bool.false_eq_true, if_false]
        rw [if_pos ⟨Int.natCast_nonneg _, trivial⟩, if_pos ⟨Int.natCast_nonneg _, trivial⟩, w64 (x := (i : Int) + 1) (by omega)]
        exact ih _ ⟨i + 1, rfl, hil⟩ (by simp only; omega)
      · have hil2 : ¬ (i : Int) < ((g.2.1.map (tightB d)).length : Int) := fun h => hil (Int.ofNat_lt.1 h)
        simp only [hil2, decide_false, Bool.false_eq_true, if_false]
theorem edgesGW {P : Program} {x : dens (List.map K.v [(.cons (.int .i64) (.cons (.sl 44 (.cons (.int .i64) (.cons (.int .i64) (.cons (.int .i64) .nil)))) .nil)), (.sl 3 (.int .i64))])} (h : WfA P [(.cons (.int .i64) (.cons (.sl 44 (.cons (.int .i64) (.cons (.int .i64) (.cons (.int .i64) .nil)))) .nil)), (.sl 3 (.int .i64))] x) : ∃ y, law05_SpfEdges.p x = some y ∧ y.1 = true :=
  ⟨_, edgesG x.1 x.2.1, rfl⟩
end Go.Proofs.Ytaemcnabccgnbaa.F
