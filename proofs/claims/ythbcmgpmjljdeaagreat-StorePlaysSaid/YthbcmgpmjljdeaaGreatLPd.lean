/- Any script of a store is answered as the document says: the law. -/
import Derived.Test.YthbcmgpmjljdeaaGreatLPc
import Derived.Test.YthbcmgpmjljdeaaGreatFrd
set_option maxRecDepth 100000
set_option linter.unusedVariables false
set_option linter.unusedSimpArgs false
open Go Go.Proofs.Fr
namespace Go.Proofs.YthbcmgpmjljdeaaGreat.F
theorem into_at (s : St) (hJ : J s) (m : Nat) (hm : m < s.2.1.length) (a : Ad) (hk : keyA (rdZ zA s.2.1 m) = keyA a) : ref14_into.p (s, a, ()) = some ((s.1, s.2.1.set m a, s.2.2.1, ()), ()) := by
  have m4 := hJ.1.2.2.2.1
  have hn : s.2.1.length ≤ 10000 := by have := J_len hJ; omega
  have hno := noK_at s.2.1 m hm m4
  rw [hk] at hno
  have hlt : (s.2.1.take m).length = m := by rw [List.length_take]; omega
  have hset : (s.2.1.take m ++ s.2.1.drop (m + 1)).take m ++ [a] ++ (s.2.1.take m ++ s.2.1.drop (m + 1)).drop m = s.2.1.set m a := by
    have e1 : (s.2.1.take m ++ s.2.1.drop (m + 1)).take m = s.2.1.take m := by rw [List.take_append_of_le_length (by omega), List.take_take, Nat.min_self]
    have e2 : (s.2.1.take m ++ s.2.1.drop (m + 1)).drop m = s.2.1.drop (m + 1) := by rw [List.drop_append_of_le_length (by omega), List.drop_eq_nil_of_le (by omega), List.nil_append]
    rw [e1, e2, List.set_eq_take_append_cons_drop, if_pos hm, List.append_assoc]
    rfl
  have hin := into_eq s a hn m (by rw [hno, List.length_append, hlt]; omega) (fun j hj => by
    rw [hno, del_at s.2.1 m hm, if_pos hj, ← hk]
    intro h
    exact ltK_irr _ (ltK_trans h (m4 j m hm hj))) (fun hj => by
    rw [hno] at hj ⊢
    rw [del_at s.2.1 m hm, if_neg (by omega), ← hk]
    refine m4 m (m + 1) ?_ (by omega)
    rw [List.length_append, hlt, List.length_drop] at hj
    omega)
  rw [hno, hset] at hin
  exact hin
theorem flush_both (s : St) (hJ : J s) (k : Ky) : ∃ (t : St) (e : Int), store_Flush.p (s, k, ()) = some (t, e, ()) ∧ ref14_Flush.p (s, k, ()) = some (t, e, ()) ∧ J t := by
  have m4 := hJ.1.2.2.2.1
  have hn : s.2.1.length ≤ 10000 := by have := J_len hJ; omega
  by_cases hk : ∃ m, m < s.2.1.length ∧ keyA (rdZ zA s.2.1 m) = k
  · obtain ⟨m, hm, rfl⟩ := hk
    have hg := whole_age (hJ.1.2.2.2.2 m hm).1
    obtain ⟨t, t1, t2, t3, t4⟩ := older_any (rdZ zA s.2.1 m) 3600 hg
    have t5 := t3 rfl
    subst t5
    have hin := into_at s hJ m hm ((3600, (rdZ zA s.2.1 m).1.2), (rdZ zA s.2.1 m).2.1, ()) rfl
    refine ⟨(s.1, s.2.1.set m ((3600, (rdZ zA s.2.1 m).1.2), (rdZ zA s.2.1 m).2.1, ()), s.2.2.1, ()), 0, ?_, ?_, ?_⟩
    · unfold store_Flush.p
      simp only [at_there s m4 hn m hm, Option.bind_some, Bool.not_true, Bool.false_eq_true, if_false, Int.toNat_natCast, t4, set_eq s m _ hn hm]
      rw [if_pos ⟨Int.natCast_nonneg _, Int.ofNat_lt.2 hm⟩]
    · unfold ref14_Flush.p
      simp only [rfind_there s m4 hn m hm, Option.bind_some, Bool.not_true, Bool.false_eq_true, if_false]
      have e : (((3600, (rdZ zA s.2.1 m).1.2.1, (rdZ zA s.2.1 m).1.2.2.1, (rdZ zA s.2.1 m).1.2.2.2.1, (rdZ zA s.2.1 m).1.2.2.2.2.1, (rdZ zA s.2.1 m).1.2.2.2.2.2.1, (rdZ zA s.2.1 m).1.2.2.2.2.2.2.1, (rdZ zA s.2.1 m).1.2.2.2.2.2.2.2.1, ()), (rdZ zA s.2.1 m).2.1, ()) : Ad) = ((3600, (rdZ zA s.2.1 m).1.2), (rdZ zA s.2.1 m).2.1, ()) := rfl
      rw [e, hin]
      rfl
    · refine J_map s hJ (fun x => ((3600, x.1.2), x.2.1, ())) (fun j hj => ⟨3600, by omega, by omega, rfl⟩) _ List.length_set fun j hj => ?_
      rw [set_at _ m _ hm]
      by_cases hjm : j = m
      · rw [if_pos hjm, hjm]; exact .inr rfl
      · rw [if_neg hjm]; exact .inl rfl
  · have hk2 : ∀ j, j < s.2.1.length → keyA (rdZ zA s.2.1 j) ≠ k := fun j hj e => hk ⟨j, hj, e⟩
    obtain ⟨i, _, _, _, h4⟩ := at_not s k m4 hn hk2
    refine ⟨s, 6, ?_, ?_, hJ⟩
    · unfold store_Flush.p
      rw [h4]
      rfl
    · unfold ref14_Flush.p
      rw [rfind_not s k hn hk2]
      rfl
theorem may_store (s : St) (hJ : J s) : store_May.p (s, ()) = some (true, ()) := by
  obtain ⟨⟨m1, m2, m3, m4, m5⟩, hA⟩ := hJ
  unfold store_May.p
  simp only [jn_eq]
  refine iterK_fix (F := fun _ => some (true, ())) (m := fun x => s.2.1.length - x.1.toNat) (I := fun x => ∃ i : Nat, x = ((i : Int), ()) ∧ i ≤ s.2.1.length) ?_ _ _ ⟨0, rfl, by omega⟩ (by simp only [Int.toNat_zero]; omega)
  rintro x r ⟨i, rfl, hi⟩ ih
  simp only [Int.toNat_natCast]
  by_cases hil : i < s.2.1.length
  · have hil2 : (i : Int) < (s.2.1.length : Int) := Int.ofNat_lt.2 hil
    obtain ⟨hw, hr⟩ := m5 i hil
    have hsh := whole_short hw
    have ha := hA i hil
    simp only [hil2, decide_true, if_true, wholeS _ ha hsh, right_eq _ ha.2 hsh, hw, hr, Option.bind_some, Bool.not_true, Bool.false_eq_true, if_false, keyS, less]
    rw [if_pos ⟨Int.natCast_nonneg _, trivial⟩, w64 (x := (i : Int) + 1) (by omega)]
    by_cases h0 : (i : Int) > 0
    · have hlt := m4 (i - 1) i hil (by omega)
      simp only [h0, decide_true, if_true]
      rw [w64 (x := (i : Int) - 1) (by omega), if_pos (by omega), show ((i : Int) - 1).toNat = i - 1 by omega]
      simp only [hlt, decide_true, Bool.not_true, Bool.false_eq_true, if_false]
      exact ih _ ⟨i + 1, rfl, hil⟩ (by simp only; omega)
    · simp only [h0, decide_false, Bool.false_eq_true, if_false]
      exact ih _ ⟨i + 1, rfl, hil⟩ (by simp only; omega)
  · have hil2 : ¬ (i : Int) < (s.2.1.length : Int) := fun h => hil (Int.ofNat_lt.1 h)
    have hmx : store_isMax.p (s.1, ()) = some (true, ()) := by
      unfold store_isMax.p
      have h1 : s.1 ≥ 1 := m1
      simp only [jn_eq, h1, m2, decide_true, if_true]
    simp only [hil2, decide_false, Bool.false_eq_true, if_false, hmx, Option.bind_some, if_true, m3, decide_true]
theorem may_ref (s : St) (hJ : J s) : ref14_May.p (s, ()) = some (true, ()) := by
  obtain ⟨⟨m1, m2, m3, m4, m5⟩, hA⟩ := hJ
  unfold ref14_May.p
  have n1 : ¬ s.1 < 1 := by omega
  have n2 : ¬ s.1 > 2000 := by omega
  have n3 : ¬ (s.2.1.length : Int) > s.1 := by omega
  simp only [jn_eq, n1, n2, n3, decide_false, Bool.false_eq_true, if_false]
  refine iterK_fix (F := fun _ => some (true, ())) (m := fun x => s.2.1.length - x.1.toNat) (I := fun x => ∃ i : Nat, x = ((i : Int), ()) ∧ i ≤ s.2.1.length) ?_ _ _ ⟨0, rfl, by omega⟩ (by simp only [Int.toNat_zero]; omega)
  rintro x r ⟨i, rfl, hi⟩ ih
  simp only [Int.toNat_natCast]
  by_cases hil : i < s.2.1.length
  · have hil2 : (i : Int) < (s.2.1.length : Int) := Int.ofNat_lt.2 hil
    obtain ⟨hw, hr⟩ := m5 i hil
    have hsh := whole_short hw
    have ha := hA i hil
    simp only [hil2, decide_true, if_true, rwholeS _ ha (by omega), rrightS _ ha.2 hsh, hw, hr, Option.bind_some, Bool.not_true, Bool.false_eq_true, if_false, rkeyS, lessR]
    rw [if_pos ⟨Int.natCast_nonneg _, trivial⟩, if_pos ⟨Int.natCast_nonneg _, trivial⟩, w64 (x := (i : Int) + 1) (by omega)]
    by_cases h0 : (i : Int) > 0
    · have hlt := m4 (i - 1) i hil (by omega)
      simp only [h0, decide_true, if_true]
      rw [w64 (x := (i : Int) - 1) (by omega), if_pos (by omega), if_pos ⟨Int.natCast_nonneg _, trivial⟩, show ((i : Int) - 1).toNat = i - 1 by omega]
      simp only [hlt, decide_true, Bool.not_true, Bool.false_eq_true, if_false]
      exact ih _ ⟨i + 1, rfl, hil⟩ (by simp only; omega)
    · simp only [h0, decide_false, Bool.false_eq_true, if_false]
      exact ih _ ⟨i + 1, rfl, hil⟩ (by simp only; omega)
  · have hil2 : ¬ (i : Int) < (s.2.1.length : Int) := fun h => hil (Int.ofNat_lt.1 h)
    simp only [hil2, decide_false, Bool.false_eq_true, if_false]
theorem keys_self (l : List Ky) (hl : l.length ≤ 10000) : ref13_Keys.p (l, l, ()) = some (true, ()) := by
  unfold ref13_Keys.p
  simp only [jn_eq, decide_true, Bool.not_true, Bool.false_eq_true, if_false]
  refine iterK_fix (F := fun _ => some (true, ())) (m := fun x => l.length - x.1.toNat) (I := fun x => ∃ i : Nat, x = ((i : Int), ()) ∧ i ≤ l.length) ?_ _ _ ⟨0, rfl, by omega⟩ (by simp only [Int.toNat_zero]; omega)
  rintro x r ⟨i, rfl, hi⟩ ih
  simp only [Int.toNat_natCast]
  by_cases hil : i < l.length
  · have hil2 : (i : Int) < (l.length : Int) := Int.ofNat_lt.2 hil
    simp only [hil2, decide_true, if_true, Bool.and_self, Bool.not_true, Bool.false_eq_true, if_false]
    rw [if_pos ⟨Int.natCast_nonneg _, trivial⟩, if_pos ⟨Int.natCast_nonneg _, trivial⟩, w64 (x := (i : Int) + 1) (by omega)]
    exact ih _ ⟨i + 1, rfl, hil⟩ (by simp only; omega)
  · have hil2 : ¬ (i : Int) < (l.length : Int) := fun h => hil (Int.ofNat_lt.1 h)
    simp only [hil2, decide_false, Bool.false_eq_true, if_false]
theorem heads_self (l : List Hd) (hl : l.length ≤ 10000) : ref13_Heads.p (l, l, ()) = some (true, ()) := by
  unfold ref13_Heads.p
  simp only [jn_eq, decide_true, Bool.not_true, Bool.false_eq_true, if_false]
  refine iterK_fix (F := fun _ => some (true, ())) (m := fun x => l.length - x.1.toNat) (I := fun x => ∃ i : Nat, x = ((i : Int), ()) ∧ i ≤ l.length) ?_ _ _ ⟨0, rfl, by omega⟩ (by simp only [Int.toNat_zero]; omega)
  rintro x r ⟨i, rfl, hi⟩ ih
  simp only [Int.toNat_natCast]
  by_cases hil : i < l.length
  · have hil2 : (i : Int) < (l.length : Int) := Int.ofNat_lt.2 hil
    simp only [hil2, decide_true, if_true, Bool.and_self, Bool.not_true, Bool.false_eq_true, if_false]
    rw [if_pos ⟨Int.natCast_nonneg _, trivial⟩, if_pos ⟨Int.natCast_nonneg _, trivial⟩, w64 (x := (i : Int) + 1) (by omega)]
    exact ih _ ⟨i + 1, rfl, hil⟩ (by simp only; omega)
  · have hil2 : ¬ (i : Int) < (l.length : Int) := fun h => hil (Int.ofNat_lt.1 h)
    simp only [hil2, decide_false, Bool.false_eq_true, if_false]
theorem heads_eq (s : St) (hn : s.2.1.length ≤ 10000) : store_Heads.p (s, ()) = some (s.2.1.map (·.1), ()) := by
  unfold store_Heads.p
  simp only [jn_eq]
  refine iterK_fix (F := fun _ => some (s.2.1.map (·.1), ())) (m := fun x => s.2.1.length - x.2.1.toNat) (I := fun x => ∃ i : Nat, x = ((s.2.1.take i).map (·.1), (i : Int), ()) ∧ i ≤ s.2.1.length) ?_ _ _ ⟨0, rfl, by omega⟩ (by simp only [Int.toNat_zero]; omega)
  rintro x r ⟨i, rfl, hi⟩ ih
  simp only [Int.toNat_natCast]
  by_cases hil : i < s.2.1.length
  · have hil2 : (i : Int) < (s.2.1.length : Int) := Int.ofNat_lt.2 hil
    have l1 : ((s.2.1.take i).map (·.1)).length ≤ 10000 := by rw [List.length_map, List.length_take]; omega
    have e : (s.2.1.take (i + 1)).map (·.1) = (s.2.1.take i).map (·.1) ++ [(rdZ zA s.2.1 i).1] := by
      rw [List.take_succ_eq_append_getElem hil, List.map_append, rdZ_get zA s.2.1 i hil]; rfl
    simp only [hil2, decide_true, if_true]
    rw [if_pos ⟨Int.natCast_nonneg _, trivial⟩, if_pos (by simp only [List.length_cons, List.length_nil, maxBytes]; omega), w64 (x := (i : Int) + 1) (by omega)]
    exact ih _ ⟨i + 1, by rw [e]; rfl, hil⟩ (by simp only; omega)
  · have hil2 : ¬ (i : Int) < (s.2.1.length : Int) := fun h => hil (Int.ofNat_lt.1 h)
    have e : s.2.1.take i = s.2.1 := List.take_of_length_le (by omega)
    simp only [hil2, decide_false, Bool.false_eq_true, if_false, e]
theorem digest_any (s : St) (hn : s.2.1.length ≤ 10000) : ∃ v : Int × Unit, store_Digest.p (s, ()) = some v ∧ True := by
  unfold store_Digest.p
  simp only [jn_eq]
  refine iterK_ex (fun v : Int × Unit => True) (fun x : Int × Int × Unit => s.2.1.length - x.2.1.toNat) (fun x => ∃ (i : Nat) (n : Int), x = (n, (i : Int), ()) ∧ i ≤ s.2.1.length) ?_ _ _ ⟨0, 0, rfl, by omega⟩ (by simp only [Int.toNat_zero]; omega)
  rintro x r ⟨i, n, rfl, hi⟩ ih
  simp only [Int.toNat_natCast]
  by_cases hil : i < s.2.1.length
  · have hil2 : (i : Int) < (s.2.1.length : Int) := Int.ofNat_lt.2 hil
    simp only [hil2, decide_true, if_true]
    rw [if_pos ⟨Int.natCast_nonneg _, trivial⟩, w64 (x := (i : Int) + 1) (by omega)]
    exact ih _ ⟨i + 1, _, rfl, hil⟩ (by simp only; omega)
  · have hil2 : ¬ (i : Int) < (s.2.1.length : Int) := fun h => hil (Int.ofNat_lt.1 h)
    simp only [hil2, decide_false, Bool.false_eq_true, if_false]
    exact ⟨_, rfl, trivial⟩
def dueB (v : Int) (h : Hd) : Bool := decide (h.2.2.2.2.1 = v) && (decide (h.1 ≥ 1800) && decide (h.1 < 3600))
def dueK (v : Int) (l : List Ad) : List Ky := (l.filter fun x => dueB v x.1).map keyA
theorem dueK_succ (v : Int) (l : List Ad) (i : Nat) (h : i < l.length) : dueK v (l.take (i + 1)) = dueK v (l.take i) ++ (if dueB v (rdZ zA l i).1 = true then [keyA (rdZ zA l i)] else []) := by
  unfold dueK
  rw [List.take_succ_eq_append_getElem h, List.filter_append, List.map_append, rdZ_get zA l i h]
  congr 1
  cases hk : dueB v l[i].1 <;> simp [hk]
theorem dueK_le (v : Int) (l : List Ad) : (dueK v l).length ≤ l.length := by
  unfold dueK
  rw [List.length_map]
  exact List.length_filter_le _ _
theorem due_if {R : Type} (v : Int) (h : Hd) (X Y : R) : (if decide (h.2.2.2.2.1 = v) = true then (if decide (h.1 ≥ 1800) = true then (if decide (h.1 < 3600) = true then X else Y) else Y) else Y) = if dueB v h = true then X else Y := by
  unfold dueB
  cases decide (h.2.2.2.2.1 = v) <;> cases decide (h.1 ≥ 1800) <;> cases decide (h.1 < 3600) <;> rfl
abbrev zH : Hd := (0, 0, 0, 0, 0, 0, 0, 0, ())
theorem hd_at (l : List Ad) (i : Nat) (h : i < l.length) : rdZ zH (l.map (·.1)) i = (rdZ zA l i).1 := by
  rw [rdZ_get zH _ i (by rw [List.length_map]; exact h), List.getElem_map, rdZ_get zA l i h]
theorem due_eq (s : St) (hn : s.2.1.length ≤ 10000) (v : Int) : store_Due.p (s, v, ()) = some (dueK v s.2.1, ()) ∧ ref14_Due.p (s, v, ()) = some (dueK v s.2.1, ()) := by
  have hkh : ∀ h : Hd, lsa_Key.p (h, ()) = some ((h.2.2.1, h.2.2.2.1, h.2.2.2.2.1, ()), ()) := fun h => rfl
  constructor
  · unfold store_Due.p
    have hml : (s.2.1.map (·.1)).length = s.2.1.length := List.length_map _
    simp only [heads_eq s hn, Option.bind_some, jn_eq, Bool.false_eq_true, if_false]
    refine iterK_fix (F := fun _ => some (dueK v s.2.1, ())) (m := fun x => s.2.1.length - x.2.1.toNat) (I := fun x => ∃ i : Nat, x = (dueK v (s.2.1.take i), (i : Int), ()) ∧ i ≤ s.2.1.length) ?_ _ _ ⟨0, rfl, by omega⟩ (by simp only [Int.toNat_zero]; omega)
    rintro x r ⟨i, rfl, hi⟩ ih
    simp only [Int.toNat_natCast]
    by_cases hil : i < s.2.1.length
    · have hil2 : (i : Int) < ((s.2.1.map (·.1)).length : Int) := by rw [hml]; exact Int.ofNat_lt.2 hil
      have l2 : (dueK v (s.2.1.take i)).length ≤ 10000 := Nat.le_trans (dueK_le _ _) (by rw [List.length_take]; omega)
      have hks := dueK_succ v s.2.1 i hil
      simp only [hil2, decide_true, if_true, hd_at s.2.1 i hil, due_if, keyS, Option.bind_some]
      rw [if_pos ⟨Int.natCast_nonneg _, trivial⟩, w64 (x := (i : Int) + 1) (by omega)]
      cases hd : dueB v (rdZ zA s.2.1 i).1 with
      | true =>
        rw [hd] at hks
        simp only [if_true] at hks ⊢
        rw [if_pos (by simp only [List.length_cons, List.length_nil, maxBytes]; omega)]
        exact ih _ ⟨i + 1, by rw [hks]; rfl, hil⟩ (by simp only; omega)
      | false =>
        rw [hd] at hks
        simp only [Bool.false_eq_true, if_false, List.append_nil] at hks ⊢
        exact ih _ ⟨i + 1, by rw [hks]; rfl, hil⟩ (by simp only; omega)
    · have hil2 : ¬ (i : Int) < ((s.2.1.map (·.1)).length : Int) := by rw [hml]; exact fun h => hil (Int.ofNat_lt.1 h)
      have e : s.2.1.take i = s.2.1 := List.take_of_length_le (by omega)
      simp only [hil2, decide_false, Bool.false_eq_true, if_false, e]
  · unfold ref14_Due.p
    simp only [jn_eq, Bool.false_eq_true, if_false]
    refine iterK_fix (F := fun _ => some (dueK v s.2.1, ())) (m := fun x => s.2.1.length - x.2.1.toNat) (I := fun x => ∃ i : Nat, x = (dueK v (s.2.1.take i), (i : Int), ()) ∧ i ≤ s.2.1.length) ?_ _ _ ⟨0, rfl, by omega⟩ (by simp only [Int.toNat_zero]; omega)
    rintro x r ⟨i, rfl, hi⟩ ih
    simp only [Int.toNat_natCast]
    by_cases hil : i < s.2.1.length
    · have hil2 : (i : Int) < (s.2.1.length : Int) := Int.ofNat_lt.2 hil
      have l2 : (dueK v (s.2.1.take i)).length ≤ 10000 := Nat.le_trans (dueK_le _ _) (by rw [List.length_take]; omega)
      have hks := dueK_succ v s.2.1 i hil
      simp only [hil2, decide_true, if_true, due_if, rkeyS, Option.bind_some]
      rw [if_pos ⟨Int.natCast_nonneg _, trivial⟩, w64 (x := (i : Int) + 1) (by omega)]
      cases hd : dueB v (rdZ zA s.2.1 i).1 with
      | true =>
        rw [hd] at hks
        simp only [if_true] at hks ⊢
        rw [if_pos (by simp only [List.length_cons, List.length_nil, maxBytes]; omega)]
        exact ih _ ⟨i + 1, by rw [hks]; rfl, hil⟩ (by simp only; omega)
      | false =>
        rw [hd] at hks
        simp only [Bool.false_eq_true, if_false, List.append_nil] at hks ⊢
        exact ih _ ⟨i + 1, by rw [hks]; rfl, hil⟩ (by simp only; omega)
    · have hil2 : ¬ (i : Int) < (s.2.1.length : Int) := fun h => hil (Int.ofNat_lt.1 h)
      have e : s.2.1.take i = s.2.1 := List.take_of_length_le (by omega)
      simp only [hil2, decide_false, Bool.false_eq_true, if_false, e]
end Go.Proofs.YthbcmgpmjljdeaaGreat.F
