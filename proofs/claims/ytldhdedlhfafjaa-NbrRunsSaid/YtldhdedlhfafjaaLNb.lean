/- Neighbours: their steps; the laws. -/
import Derived.Test.YtldhdedlhfafjaaLBase
import Derived.Test.YtldhdedlhfafjaaFrc
set_option maxRecDepth 100000
set_option linter.unusedVariables false
set_option linter.unusedSimpArgs false
open Go Go.Proofs.Fr
namespace Go.Proofs.Ytldhdedlhfafjaa.F
theorem aliveN : law16_alive.p () = some (true, ()) := by decide +kernel
abbrev Ev := Int × Bool × Bool × Unit
abbrev zE : Ev := (0, false, false, ())
def okD (r : Option (dens [K.v (.int .i64), K.v (.int .i64), K.v (.int .i64)])) (q : Int × Int × Int) : Bool := match r with
  | some x => decide ((x.1 : Int) = q.1) && (decide ((x.2.1 : Int) = q.2.1) && decide ((x.2.2.1 : Int) = q.2.2))
  | none => false
theorem rstep_fin : ∀ s : Fin 7, ∀ k : Fin 13, ∀ wn em : Bool, okD (ref16_Step.p ((s.val : Int), (k.val : Int), wn, em, ())) (nbr_stepF s.val k.val wn em) = true := by decide +kernel
theorem rstep_eq (s k : Int) (wn em : Bool) : ref16_Step.p (s, k, wn, em, ()) = some ((nbr_stepF s k wn em).1, (nbr_stepF s k wn em).2.1, (nbr_stepF s k wn em).2.2, ()) := by
  by_cases c : 0 ≤ s ∧ s < 7 ∧ 0 ≤ k ∧ k < 13
  · obtain ⟨i, rfl⟩ := Int.eq_ofNat_of_zero_le c.1
    obtain ⟨j, rfl⟩ := Int.eq_ofNat_of_zero_le c.2.2.1
    have h := rstep_fin ⟨i, by omega⟩ ⟨j, by omega⟩ wn em
    simp only at h
    cases hr : ref16_Step.p ((i : Int), (j : Int), wn, em, ()) with
    | none => rw [hr] at h; cases h
    | some x =>
      obtain ⟨x1, x2, x3, _⟩ := x
      rw [hr] at h
      simp only [okD, Bool.and_eq_true, decide_eq_true_eq] at h
      rw [← h.1, ← h.2.1, ← h.2.2]
  · unfold nbr_stepF
    rw [if_neg c]
    unfold ref16_Step.p
    simp only [jn_eq]
    by_cases c1 : s < 0
    · simp [c1]
    · by_cases c2 : s > 6
      · simp [c1, c2]
      · by_cases c3 : k < 0
        · simp [c1, c2, c3]
        · have c4 : k > 12 := by omega
          simp [c1, c2, c3, c4]
theorem step_fin : ∀ s : Fin 7, ∀ k : Fin 13, ∀ wn em : Bool, (0 ≤ (nbr_stepF s.val k.val wn em).1 ∧ (nbr_stepF s.val k.val wn em).1 ≤ 6) ∧ (nbr_stepF s.val k.val wn em).2.2 = 0 ∧ ((nbr_stepF s.val k.val wn em).1 = 6 → s.val ≠ 6 → k.val = 6 ∨ k.val = 7) ∧
    (4 ≤ s.val → (nbr_stepF s.val k.val wn em).1 < 4 → ibits .and .i64 (nbr_stepF s.val k.val wn em).2.1 16 ≠ 0) ∧ ((!decide (ibits .and .i64 (nbr_stepF s.val k.val wn em).2.1 32 = 0)) = (!(decide ((s.val : Int) = 6) == decide ((nbr_stepF s.val k.val wn em).1 = 6)))) := by decide +kernel
theorem nbrAll (n : Int) : law16_NbrAll.p (n, ()) = some (true, ()) := by
  have h : law16_NbrAll.p (0, ()) = some (true, ()) := by decide +kernel
  exact h
theorem name_fin : ∀ s : Fin 7, nbr_Name.p ((s.val : Int), ()) = ref16_Name.p ((s.val : Int), ()) := by decide +kernel
theorem name_eq (s : Int) : ∃ b : ByteArray, nbr_Name.p (s, ()) = some (b, ()) ∧ ref16_Name.p (s, ()) = some (b, ()) := by
  by_cases c : 0 ≤ s ∧ s < 7
  · obtain ⟨i, rfl⟩ := Int.eq_ofNat_of_zero_le c.1
    have hi : i = 0 ∨ i = 1 ∨ i = 2 ∨ i = 3 ∨ i = 4 ∨ i = 5 ∨ i = 6 := by omega
    rcases hi with rfl | rfl | rfl | rfl | rfl | rfl | rfl
    · exact ⟨_, rfl, (name_fin 0).symm.trans rfl⟩
    · exact ⟨_, rfl, (name_fin 1).symm.trans rfl⟩
    · exact ⟨_, rfl, (name_fin 2).symm.trans rfl⟩
    · exact ⟨_, rfl, (name_fin 3).symm.trans rfl⟩
    · exact ⟨_, rfl, (name_fin 4).symm.trans rfl⟩
    · exact ⟨_, rfl, (name_fin 5).symm.trans rfl⟩
    · exact ⟨_, rfl, (name_fin 6).symm.trans rfl⟩
  · refine ⟨⟨#[63]⟩, ?_, ?_⟩
    · unfold nbr_Name.p
      simp only [jn_eq]
      by_cases c1 : s < 0
      · simp [c1]
      · have c2 : s ≥ 7 := by omega
        simp [c1, c2]
    · unfold ref16_Name.p
      simp only [jn_eq]
      by_cases c1 : s < 0
      · simp [c1]
      · have c2 : s > 6 := by omega
        simp [c1, c2]
theorem floods_eq (s : Int) : nbr_Floods.p (s, ()) = some (decide (4 ≤ s ∧ s ≤ 6), ()) := by
  unfold nbr_Floods.p
  simp only [jn_eq]
  by_cases c1 : s ≥ 4
  · have c1' : 4 ≤ s := c1
    by_cases c2 : s < 7
    · have c2' : s ≤ 6 := by omega
      simp [c1, c1', c2, c2']
    · have c2' : ¬ s ≤ 6 := by omega
      simp [c1, c1', c2, c2']
  · have c1' : ¬ 4 ≤ s := c1
    simp [c1, c1']
theorem sees_eq (s : Int) : nbr_Sees.p (s, ()) = some (decide (2 ≤ s ∧ s ≤ 6), ()) := by
  unfold nbr_Sees.p
  simp only [jn_eq]
  by_cases c1 : s ≥ 2
  · have c1' : 2 ≤ s := c1
    by_cases c2 : s < 7
    · have c2' : s ≤ 6 := by omega
      simp [c1, c1', c2, c2']
    · have c2' : ¬ s ≤ 6 := by omega
      simp [c1, c1', c2, c2']
  · have c1' : ¬ 2 ≤ s := c1
    simp [c1, c1']
theorem nbrSteps (s k : Int) (wn em : Bool) : law16_NbrSteps.p (s, k, (wn, em, ()), ()) = some (true, ()) := by
  unfold law16_NbrSteps.p
  obtain ⟨b, h1, h2⟩ := name_eq s
  have hst : nbr_Step.p (s, k, wn, em, ()) = some ((nbr_stepF s k wn em).1, (nbr_stepF s k wn em).2.1, (nbr_stepF s k wn em).2.2, ()) := rfl
  simp only [hst, rstep_eq, aliveN, h1, h2, sees_eq, floods_eq, jn_eq, bind_eq, decide_true, if_true]
  by_cases c1 : s ≥ 2
  · have c1' : 2 ≤ s := c1
    by_cases c2 : s ≥ 4
    · have c2' : 4 ≤ s := c2
      simp [c1, c1', c2, c2']
    · have c2' : ¬ 4 ≤ s := c2
      simp [c1, c1', c2, c2']
  · have c1' : ¬ 2 ≤ s := c1
    have c2 : ¬ s ≥ 4 := by omega
    have c2' : ¬ 4 ≤ s := c2
    simp [c1, c1', c2, c2']
def goE (x : Int × Int) (e : Ev) : Int × Int := if (nbr_stepF x.1 e.1 e.2.1 e.2.2.1).2.2 = 0 then ((nbr_stepF x.1 e.1 e.2.1 e.2.2.1).1, ibits .or .i64 x.2 (nbr_stepF x.1 e.1 e.2.1 e.2.2.1).2.1) else x
theorem run_eq (s : Int) (l : List Ev) (hl : l.length ≤ 1000) : nbr_Run.p (s, l, ()) = some ((l.foldl goE (s, 0)).1, (l.foldl goE (s, 0)).2, ()) := by
  unfold nbr_Run.p
  simp only [jn_eq]
  refine (iterK_fix (F := fun x => some (((l.drop x.2.2.1.toNat).foldl goE (x.1, x.2.1)).1, ((l.drop x.2.2.1.toNat).foldl goE (x.1, x.2.1)).2, ())) (m := fun x => l.length - x.2.2.1.toNat) (I := fun x => 0 ≤ x.2.2.1 ∧ x.2.2.1 ≤ (l.length : Int)) ?_ _ _ (by simp) (by simp; omega)).trans rfl
  rintro ⟨s, d, i, _⟩ r ⟨h0, h1⟩ hr
  obtain ⟨j, rfl⟩ := Int.eq_ofNat_of_zero_le h0
  simp only [Int.toNat_natCast] at *
  by_cases hj : j < l.length
  · have e4 : ((j : Int) + 1).toNat = j + 1 := by omega
    rw [if_pos (by simpa using hj), if_pos (by omega), drop_rdZ zE l j hj]
    obtain ⟨e, he⟩ : ∃ e, rdZ zE l j = e := ⟨_, rfl⟩
    simp only [he]
    have hst : nbr_Step.p (s, e.1, e.2.1, e.2.2.1, ()) = some ((nbr_stepF s e.1 e.2.1 e.2.2.1).1, (nbr_stepF s e.1 e.2.1 e.2.2.1).2.1, (nbr_stepF s e.1 e.2.1 e.2.2.1).2.2, ()) := rfl
    rw [hst]
    simp only [bind_eq, List.foldl_cons]
    rw [w64 (by omega)]
    by_cases hq : (nbr_stepF s e.1 e.2.1 e.2.2.1).2.2 = 0
    · rw [if_pos (by simpa using hq), hr _ ⟨by first | omega | (dsimp only; omega) | (simp only [List.length_cons, List.length_nil, List.length_append, List.length_drop, List.length_take, maxBytes]; omega) | (simp; omega), by first | omega | (dsimp only; omega) | (simp only [List.length_cons, List.length_nil, List.length_append, List.length_drop, List.length_take, maxBytes]; omega) | (simp; omega)⟩ (by first | omega | (dsimp only; omega) | (simp only [List.length_cons, List.length_nil, List.length_append, List.length_drop, List.length_take, maxBytes]; omega) | (simp; omega))]
      simp only [e4, goE, hq, if_true]
    · rw [if_neg (by simpa using hq), hr _ ⟨by first | omega | (dsimp only; omega) | (simp only [List.length_cons, List.length_nil, List.length_append, List.length_drop, List.length_take, maxBytes]; omega) | (simp; omega), by first | omega | (dsimp only; omega) | (simp only [List.length_cons, List.length_nil, List.length_append, List.length_drop, List.length_take, maxBytes]; omega) | (simp; omega)⟩ (by first | omega | (dsimp only; omega) | (simp only [List.length_cons, List.length_nil, List.length_append, List.length_drop, List.length_take, maxBytes]; omega) | (simp; omega))]
      simp only [e4, goE, hq, if_false]
  · rw [if_neg (by simpa using hj), List.drop_eq_nil_of_le (by omega)]
    rfl
theorem rrun_eq (s : Int) (l : List Ev) (hl : l.length ≤ 1000) : ref16_Run.p (s, l, ()) = some ((l.foldl goE (s, 0)).1, (l.foldl goE (s, 0)).2, ()) := by
  unfold ref16_Run.p
  simp only [jn_eq]
  refine (iterK_fix (F := fun x => some (((l.drop x.2.2.1.toNat).foldl goE (x.1, x.2.1)).1, ((l.drop x.2.2.1.toNat).foldl goE (x.1, x.2.1)).2, ())) (m := fun x => l.length - x.2.2.1.toNat) (I := fun x => 0 ≤ x.2.2.1 ∧ x.2.2.1 ≤ (l.length : Int)) ?_ _ _ (by simp) (by simp; omega)).trans rfl
  rintro ⟨s, d, i, _⟩ r ⟨h0, h1⟩ hr
  obtain ⟨j, rfl⟩ := Int.eq_ofNat_of_zero_le h0
  simp only [Int.toNat_natCast] at *
  by_cases hj : j < l.length
  · have e4 : ((j : Int) + 1).toNat = j + 1 := by omega
    have hb : (0 : Int) ≤ j ∧ (j : Int) < (l.length : Int) := by omega
    rw [if_pos (by simpa using hj), if_pos hb, if_pos hb, if_pos hb, drop_rdZ zE l j hj]
    obtain ⟨e, he⟩ : ∃ e, rdZ zE l j = e := ⟨_, rfl⟩
    simp only [he, rstep_eq, bind_eq, List.foldl_cons]
    rw [w64 (by omega)]
    by_cases hq : (nbr_stepF s e.1 e.2.1 e.2.2.1).2.2 = 0
    · rw [if_pos (by simpa using hq), hr _ ⟨by first | omega | (dsimp only; omega) | (simp only [List.length_cons, List.length_nil, List.length_append, List.length_drop, List.length_take, maxBytes]; omega) | (simp; omega), by first | omega | (dsimp only; omega) | (simp only [List.length_cons, List.length_nil, List.length_append, List.length_drop, List.length_take, maxBytes]; omega) | (simp; omega)⟩ (by first | omega | (dsimp only; omega) | (simp only [List.length_cons, List.length_nil, List.length_append, List.length_drop, List.length_take, maxBytes]; omega) | (simp; omega))]
      simp only [e4, goE, hq, if_true]
    · rw [if_neg (by simpa using hq), hr _ ⟨by first | omega | (dsimp only; omega) | (simp only [List.length_cons, List.length_nil, List.length_append, List.length_drop, List.length_take, maxBytes]; omega) | (simp; omega), by first | omega | (dsimp only; omega) | (simp only [List.length_cons, List.length_nil, List.length_append, List.length_drop, List.length_take, maxBytes]; omega) | (simp; omega)⟩ (by first | omega | (dsimp only; omega) | (simp only [List.length_cons, List.length_nil, List.length_append, List.length_drop, List.length_take, maxBytes]; omega) | (simp; omega))]
      simp only [e4, goE, hq, if_false]
  · rw [if_neg (by simpa using hj), List.drop_eq_nil_of_le (by omega)]
    rfl
theorem nrows_eq (l : List Ev) (hl : l.length ≤ 1000) : law16_rows.p (l, ()) = some (l, ()) := by
  unfold law16_rows.p
  simp only [jn_eq]
  refine (iterK_fix (F := fun s => some (s.1 ++ l.drop s.2.1.toNat, ())) (m := fun s => l.length - s.2.1.toNat) (I := fun s => (0 ≤ s.2.1 ∧ s.2.1 ≤ (l.length : Int)) ∧ s.1.length ≤ s.2.1.toNat) ?_ _ _ ⟨by simp, by simp⟩ (by simp; omega)).trans rfl
  rintro ⟨m, i, _⟩ r ⟨⟨h0, h1⟩, h2⟩ hr
  obtain ⟨j, rfl⟩ := Int.eq_ofNat_of_zero_le h0
  simp only [Int.toNat_natCast] at *
  by_cases hj : j < l.length
  · have hb : (0 : Int) ≤ j ∧ (j : Int) < (l.length : Int) := by omega
    rw [if_pos (by simpa using hj), if_pos hb, if_pos hb, if_pos hb, drop_rdZ zE l j hj]
    rw [if_pos (by simp only [List.length_cons, List.length_nil, maxBytes]; omega), w64 (by omega), hr _ ⟨by first | omega | (dsimp only; omega) | (simp only [List.length_cons, List.length_nil, List.length_append, List.length_drop, List.length_take, maxBytes]; omega) | (simp; omega), by simp only [List.length_append, List.length_cons, List.length_nil]; omega⟩ (by first | omega | (dsimp only; omega) | (simp only [List.length_cons, List.length_nil, List.length_append, List.length_drop, List.length_take, maxBytes]; omega) | (simp; omega))]
    simp only [show ((j : Int) + 1).toNat = j + 1 by omega, List.append_assoc, List.cons_append, List.nil_append]
  · rw [if_neg (by simpa using hj), List.drop_eq_nil_of_le (by omega), List.append_nil]
theorem nbrRuns (s : Int) (l : List Ev) : law16_NbrRuns.p (s, l, ()) = some (true, ()) := by
  unfold law16_NbrRuns.p
  simp only [aliveN, jn_eq, bind_eq, if_true]
  by_cases h : (l.length : Int) > 200
  · simp [h]
  · simp only [h, decide_false, Bool.false_eq_true, if_false, run_eq s l (by omega), nrows_eq l (by omega), rrun_eq s l (by omega), bind_eq, decide_true, if_true]
theorem step_ok (s k : Int) (wn em : Bool) (h : 0 ≤ s ∧ s ≤ 6) : (0 ≤ (nbr_stepF s k wn em).1 ∧ (nbr_stepF s k wn em).1 ≤ 6) ∧ ((nbr_stepF s k wn em).2.2 = 0 ∨ ((nbr_stepF s k wn em).1 = s ∧ (nbr_stepF s k wn em).2.1 = 0)) ∧ ((nbr_stepF s k wn em).1 = 6 → s ≠ 6 → k = 6 ∨ k = 7) ∧
    (4 ≤ s → (nbr_stepF s k wn em).1 < 4 → ibits .and .i64 (nbr_stepF s k wn em).2.1 16 ≠ 0) ∧ ((!decide (ibits .and .i64 (nbr_stepF s k wn em).2.1 32 = 0)) = (!(decide (s = 6) == decide ((nbr_stepF s k wn em).1 = 6)))) := by
  by_cases c : 0 ≤ s ∧ s < 7 ∧ 0 ≤ k ∧ k < 13
  · obtain ⟨i, rfl⟩ := Int.eq_ofNat_of_zero_le c.1
    obtain ⟨j, rfl⟩ := Int.eq_ofNat_of_zero_le c.2.2.1
    obtain ⟨h1, h2, h3, h4, h5⟩ := step_fin ⟨i, by omega⟩ ⟨j, by omega⟩ wn em
    simp only at h1 h2 h3 h4 h5
    refine ⟨h1, .inl h2, fun q1 q2 => ?_, fun q1 q2 => h4 (by omega) q2, h5⟩
    have := h3 q1 (by omega)
    omega
  · have e : nbr_stepF s k wn em = (s, 0, 1) := by unfold nbr_stepF; rw [if_neg c]
    rw [e]
    have e0 : ibits .and .i64 0 32 = 0 := by decide
    refine ⟨h, .inr ⟨rfl, rfl⟩, fun q1 q2 => absurd q1 q2, fun q1 q2 => by simp only at q2; omega, ?_⟩
    simp [e0]
theorem nbrFull (s : Int) (l : List Ev) : law16_NbrFull.p (s, l, ()) = some (true, ()) := by
  unfold law16_NbrFull.p
  simp only [aliveN, jn_eq, bind_eq, if_true]
  by_cases c1 : s < 0
  · simp [c1]
  · by_cases c2 : s > 6
    · simp [c1, c2]
    · by_cases c3 : (l.length : Int) > 200
      · simp [c1, c2, c3]
      · simp only [c1, c2, c3, decide_false, Bool.false_eq_true, if_false]
        refine iterK_fix (F := fun x => some (true, ())) (m := fun x => l.length - x.2.1.toNat) (I := fun x => (0 ≤ x.2.1 ∧ x.2.1 ≤ (l.length : Int)) ∧ 0 ≤ x.1 ∧ x.1 ≤ 6) ?_ _ _ ⟨by simp, by simp only; omega⟩ (by simp; omega)
        rintro ⟨s, i, _⟩ r ⟨⟨h0, h1⟩, h2, h3⟩ hr
        obtain ⟨j, rfl⟩ := Int.eq_ofNat_of_zero_le h0
        simp only [Int.toNat_natCast] at *
        by_cases hj : j < l.length
        · have hb : (0 : Int) ≤ j ∧ (j : Int) < (l.length : Int) := by omega
          rw [if_pos (by simpa using hj)]
          obtain ⟨e, he⟩ : ∃ e, rdZ zE l j = e := ⟨_, rfl⟩
          simp only [he]
          simp only [hb, and_self, if_true]
          have hst : nbr_Step.p (s, e.1, e.2.1, e.2.2.1, ()) = some ((nbr_stepF s e.1 e.2.1 e.2.2.1).1, (nbr_stepF s e.1 e.2.1 e.2.2.1).2.1, (nbr_stepF s e.1 e.2.1 e.2.2.1).2.2, ()) := rfl
          obtain ⟨q1, q2, q3, q4, q5⟩ := step_ok s e.1 e.2.1 e.2.2.1 ⟨h2, h3⟩
          rw [hst]
          generalize (nbr_stepF s e.1 e.2.1 e.2.2.1).1 = n at q1 q2 q3 q4 q5 ⊢
          generalize (nbr_stepF s e.1 e.2.1 e.2.2.1).2.1 = d at q2 q4 q5 ⊢
          generalize (nbr_stepF s e.1 e.2.1 e.2.2.1).2.2 = er at q2 ⊢
          simp only [bind_eq, floods_eq, q5]
          have n1 : ¬ n < 0 := by omega
          have n2 : ¬ n > 6 := by omega
          have hnext : r (n, IntKind.i64.wrap ((j : Int) + 1), ()) = some (true, ()) := by
            rw [w64 (by omega)]
            exact hr _ ⟨by first | omega | (dsimp only; omega) | (simp only [List.length_cons, List.length_nil, List.length_append, List.length_drop, List.length_take, maxBytes]; omega) | (simp; omega), by first | omega | (dsimp only; omega) | (simp only [List.length_cons, List.length_nil, List.length_append, List.length_drop, List.length_take, maxBytes]; omega) | (simp; omega)⟩ (by first | omega | (dsimp only; omega) | (simp only [List.length_cons, List.length_nil, List.length_append, List.length_drop, List.length_take, maxBytes]; omega) | (simp; omega))
          -- the last question
          have last : (if decide (4 ≤ s ∧ s ≤ 6) = true then (if (!decide (4 ≤ n ∧ n ≤ 6)) = true then (if decide (ibits .and .i64 d 16 = 0) = true then (some (false, ()) : Option (Bool × Unit)) else if (!((!(decide (s = 6) == decide (n = 6))) == !(decide (s = 6) == decide (n = 6)))) = true then some (false, ()) else r (n, IntKind.i64.wrap ((j : Int) + 1), ())) else if (!((!(decide (s = 6) == decide (n = 6))) == !(decide (s = 6) == decide (n = 6)))) = true then some (false, ()) else r (n, IntKind.i64.wrap ((j : Int) + 1), ())) else if (!((!(decide (s = 6) == decide (n = 6))) == !(decide (s = 6) == decide (n = 6)))) = true then some (false, ()) else r (n, IntKind.i64.wrap ((j : Int) + 1), ())) = some (true, ()) := by
            simp only [beq_self_eq_true, Bool.not_true, Bool.false_eq_true, if_false, hnext]
            by_cases a1 : 4 ≤ s ∧ s ≤ 6
            · by_cases a2 : 4 ≤ n ∧ n ≤ 6
              · simp [a2]
              · have := q4 a1.1 (by omega)
                simp [a2, this]
            · simp [a1]
          -- the middle one
          have mid : (if decide (n = 6) = true then (if (!decide (s = 6)) = true then (if (!decide (e.1 = 6)) = true then (if (!decide (e.1 = 7)) = true then (some (false, ()) : Option (Bool × Unit)) else some (true, ())) else some (true, ())) else some (true, ())) else some (true, ())) = some (true, ()) := by
            by_cases a1 : n = 6
            · by_cases a2 : s = 6
              · simp [a2]
              · rcases q3 a1 a2 with a3 | a3 <;> simp [a3]
            · simp [a1]
          simp only [n1, n2, decide_false, Bool.false_eq_true, if_false]
          rcases q2 with rfl | ⟨rfl, rfl⟩
          · simp only [decide_true, Bool.not_true, Bool.false_eq_true, if_false, last]
            exact mid
          · simp only [decide_true, Bool.not_true, Bool.false_eq_true, if_false, last, ite_self]
            exact mid
        · rw [if_neg (by simpa using hj)]
abbrev tE : Ty := .cons (.int .i64) (.cons .bool (.cons .bool .nil))
theorem nbrAllW {P : Program} {x : dens (List.map K.v [.int .u8])} (h : WfA P [.int .u8] x) : ∃ y, law16_NbrAll.p x = some y ∧ y.1 = true := ⟨_, nbrAll x.1, rfl⟩
theorem nbrStepsW {P : Program} {x : dens (List.map K.v [.int .i64, .int .i64, .cons .bool (.cons .bool .nil)])} (h : WfA P [.int .i64, .int .i64, .cons .bool (.cons .bool .nil)] x) : ∃ y, law16_NbrSteps.p x = some y ∧ y.1 = true := ⟨_, nbrSteps x.1 x.2.1 x.2.2.1.1 x.2.2.1.2.1, rfl⟩
theorem nbrRunsW {P : Program} {x : dens (List.map K.v [.int .i64, .sl 29 tE])} (h : WfA P [.int .i64, .sl 29 tE] x) : ∃ y, law16_NbrRuns.p x = some y ∧ y.1 = true := ⟨_, nbrRuns x.1 x.2.1, rfl⟩
theorem nbrFullW {P : Program} {x : dens (List.map K.v [.int .i64, .sl 29 tE])} (h : WfA P [.int .i64, .sl 29 tE] x) : ∃ y, law16_NbrFull.p x = some y ∧ y.1 = true := ⟨_, nbrFull x.1 x.2.1, rfl⟩
end Go.Proofs.Ytldhdedlhfafjaa.F
