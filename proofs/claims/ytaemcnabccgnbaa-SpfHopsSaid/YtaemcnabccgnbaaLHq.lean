/- Heaps: made, pushed to, popped; rows in order. -/
import Derived.Test.YtaemcnabccgnbaaLHp
set_option maxRecDepth 100000
set_option linter.unusedVariables false
set_option linter.unusedSimpArgs false
open Go Go.Proofs.Fr
namespace Go.Proofs.Ytaemcnabccgnbaa.F
theorem copy_self (l : List It) : copyL (List.replicate l.length zI) l = l := by
  unfold copyL
  rw [List.length_replicate, List.take_length, List.drop_eq_nil_of_le (by simp), List.append_nil]
theorem new_ex (l : List It) (hl : l.length ≤ 1000) : ∃ h : List It, heap_New.p (l, ()) = some (h, ()) ∧ h.Perm l ∧ H h 0 := by
  unfold heap_New.p
  simp only [jn_eq]
  rw [if_pos (by simp only [maxBytes]; omega), tdiv_pos (by omega), w64 (x := (l.length : Int) / 2) (by omega), w64 (x := (l.length : Int) / 2 - 1) (by omega), Int.toNat_natCast, copy_self]
  have conv : ∀ o : Option (List It × Unit), (∃ v : List It × Unit, o = some v ∧ (v.1.Perm l ∧ H v.1 0)) → ∃ l' : List It, o = some (l', ()) ∧ l'.Perm l ∧ H l' 0 := by
    rintro o ⟨⟨l', _⟩, h1, h2⟩
    exact ⟨l', h1, h2⟩
  refine conv _ (iterK_ex (fun v : List It × Unit => v.1.Perm l ∧ H v.1 0) (fun s : Int × List It × Unit => (s.1 + 1).toNat)
    (fun s => -1 ≤ s.1 ∧ s.1 < l.length / 2 ∧ s.2.1.Perm l ∧ H s.2.1 (s.1 + 1).toNat) ?_ _ _ ⟨by first | omega | (dsimp only; omega) | (simp only [List.length_cons, List.length_nil, List.length_append, List.length_drop, List.length_take, maxBytes]; omega) | (simp; omega), by simp only; omega, List.Perm.refl _, ?_⟩ (by simp only; omega))
  · rintro ⟨i, s, _⟩ r ⟨h0, h1, h2, h3⟩ hr
    simp only at h0 h1 h2 h3 ⊢
    have hlen := h2.length_eq
    by_cases hi : i ≥ 0
    · obtain ⟨j, rfl⟩ := Int.eq_ofNat_of_zero_le hi
      rw [if_pos (by simp)]
      obtain ⟨s', e1, e2, e3, e4⟩ := down_ex s j (by omega) (by omega) (by rw [show j + 1 = ((j : Int) + 1).toNat by omega]; exact h3)
      rw [e1]
      simp only [bind_eq]
      rw [w64 (by omega)]
      refine hr _ ⟨by simp only; omega, by simp only; omega, e3.trans h2, ?_⟩ (by simp only; omega)
      show H s' ((j : Int) - 1 + 1).toNat
      rw [show ((j : Int) - 1 + 1).toNat = j by omega]
      exact e4
    · have : i = -1 := by omega
      subst this
      rw [if_neg (by simp)]
      exact ⟨_, rfl, h2, h3⟩
  · intro j h1 h2 h3
    simp only at h2 h3
    omega
theorem push_ex (l : List It) (x : It) (hl : l.length ≤ 1000) (hh : H l 0) : ∃ h : List It, heap_Heap_Push.p (l, x, ()) = some (h, ()) ∧ h.Perm (x :: l) ∧ H h 0 := by
  unfold heap_Heap_Push.p
  simp only [jn_eq]
  have hlen : (l ++ [x]).length = l.length + 1 := by simp
  rw [if_pos (by simp only [List.length_cons, List.length_nil, maxBytes]; omega), hlen, w64 (x := ((l.length + 1 : Nat) : Int) - 1) (by omega)]
  have conv : ∀ o : Option (List It × Unit), (∃ v : List It × Unit, o = some v ∧ (v.1.Perm (x :: l) ∧ H v.1 0)) → ∃ l' : List It, o = some (l', ()) ∧ l'.Perm (x :: l) ∧ H l' 0 := by
    rintro o ⟨⟨l', _⟩, h1, h2⟩
    exact ⟨l', h1, h2⟩
  refine conv _ (iterK_ex (fun v : List It × Unit => v.1.Perm (x :: l) ∧ H v.1 0) (fun s : Int × List It × Unit => s.1.toNat)
    (fun s => ∃ p : Nat, s.1 = p ∧ p < l.length + 1 ∧ s.2.1.length = l.length + 1 ∧ (s.2.1.set p x).Perm (x :: l) ∧
      (∀ j, 0 < j → j < l.length + 1 → j ≠ p → ¬ LTi (g (s.2.1.set p x) j) (g (s.2.1.set p x) ((j - 1) / 2))) ∧
      (0 < p → ∀ j, 0 < j → j < l.length + 1 → (j - 1) / 2 = p → ¬ LTi (g (s.2.1.set p x) j) (g (s.2.1.set p x) ((p - 1) / 2)))) ?_ _ _ ⟨l.length, by simp only; omega, by omega, hlen, ?_, ?_, ?_⟩ (by simp only; omega))
  rotate_left
  · show ((l ++ [x]).set l.length x).Perm (x :: l)
    have e : (l ++ [x]).set l.length x = l ++ [x] := by rw [List.set_append_right _ _ (Nat.le_refl _), Nat.sub_self]; rfl
    rw [e]
    exact List.perm_append_singleton x l
  · intro j h1 h2 h3
    show ¬ LTi (g ((l ++ [x]).set l.length x) j) (g ((l ++ [x]).set l.length x) ((j - 1) / 2))
    rw [g_set _ _ _ _ (by omega), g_set _ _ _ _ (by omega), if_neg (fun e => h3 e.symm), if_neg (show ¬ l.length = (j - 1) / 2 by omega)]
    have ga : ∀ k, k < l.length → g (l ++ [x]) k = g l k := by
      intro k hk
      rw [g_at (by omega), g_at hk, List.getElem_append_left hk]
    rw [ga j (by omega), ga _ (by omega)]
    exact hh j h1 (by omega) (by omega)
  · intro h1 j h2 h3 h4
    omega
  · rintro ⟨q, s, _⟩ r ⟨p, hp, hpl, hsl, hperm, hA, hB⟩ hr
    simp only at hp hsl hperm hA hB
    subst hp
    have hps : p < s.length := by omega
    have gm : ∀ j, g (s.set p x) j = if p = j then x else g s j := fun j => g_set s p j x hps
    simp only [Int.toNat_natCast]
    have done : (0 < p → ¬ LTi x (g s ((p - 1) / 2))) → ∃ v : List It × Unit, (if (0 : Int) ≤ (p : Int) ∧ (p : Int) < (s.length : Int) then some (s.set p x, ()) else none) = some v ∧ (v.1.Perm (x :: l) ∧ H v.1 0) := by
      intro hch
      rw [if_pos (by omega)]
      refine ⟨_, rfl, hperm, ?_⟩
      intro j h1 h2 h3
      simp only [List.length_set] at h2
      by_cases hc : j = p
      · subst hc
        show ¬ LTi (g (s.set j x) j) (g (s.set j x) ((j - 1) / 2))
        rw [gm, gm, if_pos rfl, if_neg (by omega)]
        exact hch h1
      · exact hA j h1 (by omega) hc
    by_cases h0 : p > 0
    · have wi : IntKind.i64.wrap (Int.tdiv (IntKind.i64.wrap ((p : Int) - 1)) 2) = (((p - 1) / 2 : Nat) : Int) := by
        rw [w64 (x := (p : Int) - 1) (by omega), tdiv_pos (by omega), w64 (by omega)]; omega
      rw [if_pos (by simp only [decide_eq_true_eq]; omega), wi, if_pos (by omega), Int.toNat_natCast, ahead_eq]
      simp only [bind_eq]
      by_cases hlt : LTi x (rdZ zI s ((p - 1) / 2))
      · simp only [hlt, decide_true, if_true]
        rw [if_pos (by omega), if_pos (by omega)]
        obtain ⟨c, hc⟩ : ∃ c, c = (p - 1) / 2 := ⟨_, rfl⟩
        have hcl : c < s.length := by omega
        have hpc : p ≠ c := by omega
        rw [← hc] at hlt ⊢
        have gm' : ∀ j, g ((s.set p (g s c)).set c x) j = if c = j then x else if p = j then g s c else g s j := by
          intro j
          rw [g_set _ _ _ _ (by rw [List.length_set]; omega), g_set _ _ _ _ hps]
        refine hr _ ⟨c, rfl, by omega, by simp [hsl], (swap_perm s p c x hps hcl hpc).trans hperm, ?_, ?_⟩ (by simp only; omega)
        · intro j h1 h2 h3
          show ¬ LTi (g ((s.set p (g s c)).set c x) j) (g ((s.set p (g s c)).set c x) ((j - 1) / 2))
          rw [gm', gm', if_neg (fun e => h3 e.symm)]
          by_cases j1 : p = j
          · rw [if_pos j1, if_pos (show c = (j - 1) / 2 by omega)]
            exact lt_asym hlt
          · rw [if_neg j1]
            have hAj := hA j h1 h2 fun e => j1 e.symm
            by_cases j2 : c = (j - 1) / 2
            · rw [if_pos j2]
              rw [gm, gm, if_neg j1, if_neg (show ¬ p = (j - 1) / 2 by omega), ← j2] at hAj
              exact fun q => hAj (by unfold LTi at *; change x.1 < (g s c).1 ∨ x.1 = (g s c).1 ∧ x.2.1 < (g s c).2.1 at hlt; omega)
            · rw [if_neg j2]
              by_cases j3 : p = (j - 1) / 2
              · rw [if_pos j3]
                have := hB h0 j h1 h2 j3.symm
                rw [gm, gm, if_neg j1, if_neg (show ¬ p = (p - 1) / 2 by omega), ← hc] at this
                exact this
              · rw [if_neg j3]
                rw [gm, gm, if_neg j1, if_neg j3] at hAj
                exact hAj
        · intro hc0 j h1 h2 h3
          show ¬ LTi (g ((s.set p (g s c)).set c x) j) (g ((s.set p (g s c)).set c x) ((c - 1) / 2))
          have hAc := hA c hc0 (by omega) (fun e => hpc e.symm)
          rw [gm, gm, if_neg hpc, if_neg (show ¬ p = (c - 1) / 2 by omega)] at hAc
          rw [gm', gm', if_neg (show ¬ c = j by omega), if_neg (show ¬ c = (c - 1) / 2 by omega), if_neg (show ¬ p = (c - 1) / 2 by omega)]
          by_cases j1 : p = j
          · rw [if_pos j1]; exact hAc
          · rw [if_neg j1]
            have hAj := hA j h1 h2 fun e => j1 e.symm
            rw [gm, gm, if_neg j1, if_neg (show ¬ p = (j - 1) / 2 by omega), h3] at hAj
            exact le_tr hAc hAj
      · simp only [hlt, decide_false, Bool.false_eq_true, if_false]
        exact done fun _ => hlt
    · rw [if_neg (by simp only [decide_eq_true_eq]; omega)]
      simp only [Bool.false_eq_true, if_false]
      exact done fun h => absurd h h0
theorem top_eq (l : List It) : heap_Heap_Top.p (l, ()) = some (if l.length = 0 then (zI, false, l, ()) else (g l 0, true, l, ())) := by
  unfold heap_Heap_Top.p heap_Heap_Len.p
  simp only [bind_eq]
  by_cases h : l.length = 0
  · have h' : l = [] := List.eq_nil_of_length_eq_zero h
    subst h'
    simp
  · have h' : ¬ (l.length : Int) = 0 := by omega
    simp only [h', h, decide_false, Bool.false_eq_true, if_false]
    rw [if_pos (by omega)]
    rfl
theorem pop_nil : heap_Heap_Pop.p (([] : List It), ()) = some (zI, false, [], ()) := by
  unfold heap_Heap_Pop.p
  rw [top_eq]
  simp
theorem pop_ex (l : List It) (hl : l.length ≤ 1000) (h0 : l.length ≠ 0) (hh : H l 0) : ∃ h : List It, heap_Heap_Pop.p (l, ()) = some (g l 0, true, h, ()) ∧ l.Perm (g l 0 :: h) ∧ H h 0 ∧ ∀ y ∈ l, ¬ LTi y (g l 0) := by
  have hmin : ∀ y ∈ l, ¬ LTi y (g l 0) := by
    intro y hy
    obtain ⟨j, hj, rfl⟩ := List.mem_iff_getElem.1 hy
    rw [← g_at hj]
    exact H_min hh j hj
  obtain ⟨a, t, rfl⟩ : ∃ a t, l = a :: t := by
    cases l with
    | nil => exact absurd rfl h0
    | cons a t => exact ⟨a, t, rfl⟩
  unfold heap_Heap_Pop.p
  rw [top_eq, if_neg h0]
  simp only [bind_eq, jn_eq, Bool.not_true, Bool.false_eq_true, if_false]
  have hlen : ((a :: t).length : Int) - 1 = (t.length : Int) := by simp
  have ht : t.length ≤ 1000 := by simp only [List.length_cons] at hl; omega
  rw [hlen, w64 (x := (t.length : Int)) (by omega)]
  simp only [Int.toNat_natCast, show (0 : Int).toNat = 0 from rfl, List.set_cons_zero, List.length_cons]
  rw [if_pos (by omega), if_pos (by omega), if_pos (by omega)]
  have ga : g (a :: t) 0 = a := rfl
  rw [ga] at hmin ⊢
  by_cases h1 : (t.length : Int) > 0
  · rw [if_pos (by simpa using h1)]
    obtain ⟨b, t', rfl⟩ : ∃ b t', t = t' ++ [b] := ⟨t.getLast (by intro e; rw [e] at h1; simp at h1), t.dropLast, (List.dropLast_concat_getLast _).symm⟩
    have e1 : rdZ zI (a :: (t' ++ [b])) (t' ++ [b]).length = b := by
      have : (t' ++ [b]).length < (a :: (t' ++ [b])).length := by simp
      rw [rdZ_get zI _ _ this]
      simp
    have e2 : ((b : It).1, b.2.1, ()) = b := rfl
    have e3 : List.take (t' ++ [b]).length (b :: (t' ++ [b])) = b :: t' := by
      rw [show (t' ++ [b]).length = t'.length + 1 by simp, List.take_succ_cons, List.take_left' rfl]
    simp only [e1, e2, e3]
    have hH : H (b :: t') (0 + 1) := by
      intro j j1 j2 j3
      have hg : ∀ k, 0 < k → k < (b :: t').length → g (b :: t') k = g (a :: (t' ++ [b])) k := by
        intro k k1 k2
        simp only [List.length_cons] at k2
        obtain ⟨k', rfl⟩ : ∃ k', k = k' + 1 := ⟨k - 1, by omega⟩
        rw [g_at (by simp; omega), g_at (by simp; omega)]
        simp only [List.getElem_cons_succ]
        rw [List.getElem_append_left (by omega)]
      have j2' := j2
      simp only [List.length_cons] at j2'
      rw [hg j j1 j2, hg _ (by omega) (by simp only [List.length_cons]; omega)]
      exact hh j j1 (by simp; omega) (by omega)
    obtain ⟨h, q1, q2, q3, q4⟩ := down_ex (b :: t') 0 (by simp) (by simp at ht ⊢; omega) hH
    have q1' : heap_Heap_down.p (b :: t', 0, ()) = some (h, ()) := q1
    rw [q1']
    refine ⟨h, rfl, ?_, q4, hmin⟩
    exact List.Perm.cons a ((List.perm_append_singleton b t').trans q3.symm)
  · have h2 : t = [] := List.eq_nil_of_length_eq_zero (by omega)
    subst h2
    rw [if_neg (by simp)]
    refine ⟨[], rfl, List.Perm.refl _, ?_, hmin⟩
    intro j j1 j2
    simp at j2
/-- An item let into a row in order. -/
def ins (x : It) : List It → List It
  | [] => [x]
  | y :: l => if LTi x y then x :: y :: l else y :: ins x l
def Srt (l : List It) : Prop := l.Pairwise fun x y => ¬ LTi y x
theorem ins_perm (x : It) (l : List It) : (ins x l).Perm (x :: l) := by
  induction l with
  | nil => exact List.Perm.refl _
  | cons y l ih =>
    unfold ins
    split
    · exact List.Perm.refl _
    · exact (List.Perm.cons y ih).trans (List.Perm.swap x y l)
theorem ins_srt (x : It) (l : List It) (h : Srt l) : Srt (ins x l) := by
  induction l with
  | nil => exact List.pairwise_singleton _ _
  | cons y l ih =>
    unfold Srt at h ih ⊢
    rw [List.pairwise_cons] at h
    unfold ins
    split
    · rename_i c
      rw [List.pairwise_cons, List.pairwise_cons]
      refine ⟨?_, h⟩
      intro z hz
      rcases List.mem_cons.1 hz with rfl | hz
      · exact lt_asym c
      · exact le_tr (lt_asym c) (h.1 z hz)
    · rename_i c
      rw [List.pairwise_cons]
      refine ⟨?_, ih h.2⟩
      intro z hz
      have := (ins_perm x l).mem_iff.1 hz
      rcases List.mem_cons.1 this with rfl | hz
      · exact c
      · exact h.1 z hz
def isort (l : List It) : List It := l.foldl (fun m x => ins x m) []
theorem fold_perm (l : List It) : ∀ m : List It, (l.foldl (fun m x => ins x m) m).Perm (m ++ l) := by
  induction l with
  | nil => intro m; simp
  | cons x l ih =>
    intro m
    refine (ih (ins x m)).trans ?_
    refine ((ins_perm x m).append_right l).trans ?_
    exact List.perm_middle.symm
theorem fold_srt (l : List It) : ∀ m : List It, Srt m → Srt (l.foldl (fun m x => ins x m) m) := by
  induction l with
  | nil => intro m h; exact h
  | cons x l ih => intro m h; exact ih _ (ins_srt x m h)
theorem isort_perm (l : List It) : (isort l).Perm l := fold_perm l []
theorem isort_srt (l : List It) : Srt (isort l) := fold_srt l [] List.Pairwise.nil
theorem srt_uniq : ∀ (a b : List It), Srt a → Srt b → a.Perm b → a = b := by
  intro a
  induction a with
  | nil => intro b _ _ h; exact (List.Perm.nil_eq h)
  | cons x a ih =>
    intro b ha hb h
    cases b with
    | nil => exact absurd h.length_eq (by simp)
    | cons y b =>
      unfold Srt at ha hb
      rw [List.pairwise_cons] at ha hb
      have h1 : ¬ LTi x y := by
        rcases List.mem_cons.1 (h.mem_iff.1 (.head _)) with e | e
        · rw [e]; exact lt_irr _
        · exact hb.1 x e
      have h2 : ¬ LTi y x := by
        rcases List.mem_cons.1 (h.mem_iff.2 (.head _)) with e | e
        · rw [e]; exact lt_irr _
        · exact ha.1 y e
      have e := le_anti h1 h2
      subst e
      rw [ih b ha.2 hb.2 h.cons_inv]
/-- The least one, and the rest. -/
theorem isort_pop {l h : List It} {x : It} (hp : l.Perm (x :: h)) (hm : ∀ y ∈ l, ¬ LTi y x) : isort l = x :: isort h := by
  refine srt_uniq _ _ (isort_srt l) ?_ ?_
  · unfold Srt
    rw [List.pairwise_cons]
    refine ⟨?_, isort_srt h⟩
    intro y hy
    exact hm y (hp.mem_iff.2 (.tail _ ((isort_perm h).mem_iff.1 hy)))
  · exact (isort_perm l).trans (hp.trans (List.Perm.cons x (isort_perm h).symm))
end Go.Proofs.Ytaemcnabccgnbaa.F
