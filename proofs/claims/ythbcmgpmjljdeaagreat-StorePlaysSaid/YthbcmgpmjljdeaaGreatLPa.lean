/- The document's stores: they answer as the program's do. -/
import Derived.Test.YthbcmgpmjljdeaaGreatLMay
set_option maxRecDepth 100000
set_option linter.unusedVariables false
set_option linter.unusedSimpArgs false
open Go Go.Proofs.Fr
namespace Go.Proofs.YthbcmgpmjljdeaaGreat.F
theorem keq (x y : Ky) : (decide (x.1 = y.1) && (decide (x.2.1 = y.2.1) && (decide (x.2.2.1 = y.2.2.1) && true))) = decide (x = y) := by
  obtain ⟨a, b, c, _⟩ := x
  obtain ⟨d, e, f, _⟩ := y
  by_cases h1 : a = d <;> by_cases h2 : b = e <;> by_cases h3 : c = f <;> simp [h1, h2, h3]
theorem compareR (a b : Hd) (ha : 0 ≤ a.1 ∧ a.1 ≤ 3600) (hb : 0 ≤ b.1 ∧ b.1 ≤ 3600) : ref11_Compare.p (a, b, ()) = some (cmpH a b, ()) := by
  unfold ref11_Compare.p cmpH cmp
  simp only [ref11_more.p, jn_eq, w64 (x := b.1 + 900) (by omega), w64 (x := a.1 + 900) (by omega)]
  generalize IntKind.i32.wrap a.2.2.2.2.2.1 = s
  generalize IntKind.i32.wrap b.2.2.2.2.2.1 = t
  generalize a.2.2.2.2.2.2.1 = p
  generalize b.2.2.2.2.2.2.1 = q
  generalize a.1 = x at *
  generalize b.1 = y at *
  unfold f4 c3
  by_cases h1 : s = t
  · subst h1
    by_cases h2 : p = q
    · subst h2
      by_cases h3 : x = 3600 <;> by_cases h4 : y = 3600 <;> by_cases h5 : x > y + 900 <;> by_cases h6 : y > x + 900 <;> by_cases h7 : x < y <;> by_cases h8 : -900 ≤ x - y ∧ x - y ≤ 900 <;> simp [h3, h4, h5, h6, h7, h8] <;> omega
    · by_cases h3 : p < q
      · have h4 : ¬ q < p := by omega
        simp [h2, h3, h4]
      · have h4 : q < p := by omega
        simp [h2, h3, h4]
  · by_cases h3 : s < t
    · have h4 : ¬ t < s := by omega
      simp [h1, h3, h4]
    · have h4 : t < s := by omega
      simp [h1, h3, h4]
theorem rfind_there (s : St) (hr : Rise s.2.1) (hl : s.2.1.length ≤ 10000) (m : Nat) (hm : m < s.2.1.length) : ref14_Find.p (s, keyA (rdZ zA s.2.1 m), ()) = some (rdZ zA s.2.1 m, true, ()) := by
  unfold ref14_Find.p
  simp only [jn_eq]
  refine iterK_fix (F := fun _ => some (rdZ zA s.2.1 m, true, ())) (m := fun x => s.2.1.length - x.1.toNat) (I := fun x => ∃ i : Nat, x = ((i : Int), ()) ∧ i ≤ m) ?_ _ _ ⟨0, rfl, by omega⟩ (by simp only [Int.toNat_zero]; omega)
  rintro x r ⟨i, rfl, hi⟩ ih
  have hil : i < s.2.1.length := Nat.lt_of_le_of_lt hi hm
  have hil2 : (i : Int) < (s.2.1.length : Int) := Int.ofNat_lt.2 hil
  simp only [Int.toNat_natCast, hil2, decide_true, if_true, rkeyS, Option.bind_some, keq]
  rw [if_pos ⟨Int.natCast_nonneg _, trivial⟩]
  by_cases hk : keyA (rdZ zA s.2.1 i) = keyA (rdZ zA s.2.1 m)
  · have e := rise_uniq hr hil hm hk
    subst e
    simp only [decide_true, if_true]
    rw [if_pos ⟨Int.natCast_nonneg _, trivial⟩]
  · have hne : i ≠ m := fun e => hk (by rw [e])
    simp only [hk, decide_false, Bool.false_eq_true, if_false]
    rw [w64 (x := (i : Int) + 1) (by omega)]
    exact ih _ ⟨i + 1, rfl, by omega⟩ (by simp only; omega)
theorem rfind_not (s : St) (k : Ky) (hl : s.2.1.length ≤ 10000) (hk : ∀ j, j < s.2.1.length → keyA (rdZ zA s.2.1 j) ≠ k) : ref14_Find.p (s, k, ()) = some (zA, false, ()) := by
  unfold ref14_Find.p
  simp only [jn_eq]
  refine iterK_fix (F := fun _ => some (zA, false, ())) (m := fun x => s.2.1.length - x.1.toNat) (I := fun x => ∃ i : Nat, x = ((i : Int), ()) ∧ i ≤ s.2.1.length) ?_ _ _ ⟨0, rfl, by omega⟩ (by simp only [Int.toNat_zero]; omega)
  rintro x r ⟨i, rfl, hi⟩ ih
  simp only [Int.toNat_natCast]
  by_cases hil : i < s.2.1.length
  · have hil2 : (i : Int) < (s.2.1.length : Int) := Int.ofNat_lt.2 hil
    have hki := hk i hil
    simp only [hil2, decide_true, if_true, rkeyS, Option.bind_some, keq, hki, decide_false, Bool.false_eq_true, if_false]
    rw [if_pos ⟨Int.natCast_nonneg _, trivial⟩, w64 (x := (i : Int) + 1) (by omega)]
    exact ih _ ⟨i + 1, rfl, hil⟩ (by simp only; omega)
  · have hil2 : ¬ (i : Int) < (s.2.1.length : Int) := fun h => hil (Int.ofNat_lt.1 h)
    simp only [hil2, decide_false, Bool.false_eq_true, if_false]
abbrev noK (k : Ky) (l : List Ad) : List Ad := l.filter (fun x => decide (¬ keyA x = k))
theorem take_noK (l : List Ad) (k : Ky) (i : Nat) (h : i < l.length) : noK k (l.take (i + 1)) = noK k (l.take i) ++ (if keyA (rdZ zA l i) = k then [] else [rdZ zA l i]) := by
  unfold noK
  rw [List.take_succ_eq_append_getElem h, List.filter_append, rdZ_get zA l i h]
  congr 1
  by_cases hk : keyA l[i] = k <;> simp [hk]
theorem rdrop_eq (s : St) (k : Ky) (hl : s.2.1.length ≤ 10000) : ref14_Drop.p (s, k, ()) = some ((s.1, noK k s.2.1, s.2.2.1, ()), decide (((noK k s.2.1).length : Int) < (s.2.1.length : Int)), ()) := by
  unfold ref14_Drop.p
  simp only [jn_eq]
  refine iterK_fix (F := fun _ => some ((s.1, noK k s.2.1, s.2.2.1, ()), decide (((noK k s.2.1).length : Int) < (s.2.1.length : Int)), ())) (m := fun x => s.2.1.length - x.2.1.toNat) (I := fun x => ∃ i : Nat, x = (noK k (s.2.1.take i), (i : Int), ()) ∧ i ≤ s.2.1.length) ?_ _ _ ⟨0, rfl, by omega⟩ (by simp only [Int.toNat_zero]; omega)
  rintro x r ⟨i, rfl, hi⟩ ih
  simp only [Int.toNat_natCast]
  by_cases hil : i < s.2.1.length
  · have hil2 : (i : Int) < (s.2.1.length : Int) := Int.ofNat_lt.2 hil
    have hte := take_noK s.2.1 k i hil
    have hle : (noK k (s.2.1.take i)).length ≤ 10000 := Nat.le_trans (List.length_filter_le _ _) (by rw [List.length_take]; omega)
    simp only [hil2, decide_true, if_true, rkeyS, Option.bind_some, keq]
    rw [if_pos ⟨Int.natCast_nonneg _, trivial⟩, w64 (x := (i : Int) + 1) (by omega)]
    by_cases hk : keyA (rdZ zA s.2.1 i) = k
    · rw [if_pos hk, List.append_nil] at hte
      simp only [hk, decide_true, Bool.not_true, Bool.false_eq_true, if_false]
      exact ih _ ⟨i + 1, by rw [hte]; rfl, hil⟩ (by simp only; omega)
    · rw [if_neg hk] at hte
      simp only [hk, decide_false, Bool.not_false, if_true]
      rw [if_pos ⟨Int.natCast_nonneg _, trivial⟩, if_pos (by simp only [List.length_cons, List.length_nil, maxBytes]; omega)]
      exact ih _ ⟨i + 1, by rw [hte]; rfl, hil⟩ (by simp only; omega)
  · have hil2 : ¬ (i : Int) < (s.2.1.length : Int) := fun h => hil (Int.ofNat_lt.1 h)
    have e : s.2.1.take i = s.2.1 := List.take_of_length_le (by omega)
    simp only [hil2, decide_false, Bool.false_eq_true, if_false, e]
theorem noK_self (l : List Ad) (k : Ky) (h : ∀ j, j < l.length → keyA (rdZ zA l j) ≠ k) : noK k l = l := by
  unfold noK
  rw [List.filter_eq_self]
  intro x hx
  obtain ⟨j, hj, he⟩ := List.mem_iff_getElem.1 hx
  have h2 := h j hj
  rw [rdZ_get zA l j hj, he] at h2
  simpa using h2
theorem noK_at (l : List Ad) (m : Nat) (hm : m < l.length) (hr : Rise l) : noK (keyA (rdZ zA l m)) l = l.take m ++ l.drop (m + 1) := by
  have h1 : l = l.take m ++ rdZ zA l m :: l.drop (m + 1) := by rw [← drop_rdZ zA l m hm, List.take_append_drop]
  have hlt : (l.take m).length = m := by rw [List.length_take]; omega
  have h2 : noK (keyA (rdZ zA l m)) (l.take m) = l.take m := noK_self _ _ fun j hj e => by
    have hj2 : j < m := by omega
    have e2 : rdZ zA (l.take m) j = rdZ zA l j := by simp only [rdZ, List.getD_eq_getElem?_getD, List.getElem?_take_of_lt hj2]
    rw [e2] at e
    have := rise_uniq hr (by omega) hm e
    omega
  have h3 : noK (keyA (rdZ zA l m)) (l.drop (m + 1)) = l.drop (m + 1) := noK_self _ _ fun j hj e => by
    rw [List.length_drop] at hj
    have e2 : rdZ zA (l.drop (m + 1)) j = rdZ zA l (m + 1 + j) := by simp only [rdZ, List.getD_eq_getElem?_getD, List.getElem?_drop]
    rw [e2] at e
    have := rise_uniq hr (by omega) hm e
    omega
  have h4 : noK (keyA (rdZ zA l m)) (rdZ zA l m :: l.drop (m + 1)) = l.drop (m + 1) := by
    unfold noK at h3 ⊢
    rw [List.filter_cons_of_neg (by simp), h3]
  calc noK (keyA (rdZ zA l m)) l = noK (keyA (rdZ zA l m)) (l.take m ++ rdZ zA l m :: l.drop (m + 1)) := by rw [← h1]
    _ = _ := by
      unfold noK at h2 h4 ⊢
      rw [List.filter_append, h2, h4]
/-- Where one more goes. -/
theorem into_eq (s : St) (a : Ad) (hl : s.2.1.length ≤ 10000) (i : Nat) (hi : i ≤ (noK (keyA a) s.2.1).length) (hlo : ∀ j, j < i → ¬ ltK (keyA a) (keyA (rdZ zA (noK (keyA a) s.2.1) j))) (hhi : i < (noK (keyA a) s.2.1).length → ltK (keyA a) (keyA (rdZ zA (noK (keyA a) s.2.1) i))) :
    ref14_into.p (s, a, ()) = some ((s.1, (noK (keyA a) s.2.1).take i ++ [a] ++ (noK (keyA a) s.2.1).drop i, s.2.2.1, ()), ()) := by
  have hrl : (noK (keyA a) s.2.1).length ≤ 10000 := Nat.le_trans (List.length_filter_le _ _) hl
  unfold ref14_into.p
  simp only [rkeyS, Option.bind_some, rdrop_eq s (keyA a) hl, jn_eq]
  generalize noK (keyA a) s.2.1 = l at *
  refine iterK_fix (F := fun _ => some ((s.1, l.take i ++ [a] ++ l.drop i, s.2.2.1, ()), ())) (m := fun x => l.length - x.2.2.1.toNat) (I := fun x => ∃ j : Nat, j ≤ l.length ∧ ((j ≤ i ∧ x = (l.take j, false, (j : Int), ())) ∨ (i < j ∧ x = (l.take i ++ [a] ++ (l.drop i).take (j - i), true, (j : Int), ())))) ?_ _ _ ⟨0, by omega, .inl ⟨by omega, rfl⟩⟩ (by simp only [Int.toNat_zero]; omega)
  rintro x r ⟨j, hj, hx⟩ ih
  have ht : ∀ n, (l.take n).length ≤ 10000 := fun n => by rw [List.length_take]; omega
  have ht2 : ∀ n, ((l.drop i).take n).length ≤ 10000 := fun n => by rw [List.length_take, List.length_drop]; omega
  rcases hx with ⟨hji, rfl⟩ | ⟨hji, rfl⟩
  · simp only [Int.toNat_natCast]
    by_cases hjl : j < l.length
    · have hj2 : (j : Int) < (l.length : Int) := Int.ofNat_lt.2 hjl
      simp only [hj2, decide_true, if_true, Bool.not_false, Option.bind_some, lessR]
      rw [if_pos ⟨Int.natCast_nonneg _, trivial⟩, w64 (x := (j : Int) + 1) (by omega)]
      have hd : l.take j ++ [rdZ zA l j] = l.take (j + 1) := by rw [List.take_succ_eq_append_getElem hjl, rdZ_get zA l j hjl]
      by_cases hlt : ltK (keyA a) (keyA (rdZ zA l j))
      · have hje : j = i := by
          by_cases h : j < i
          · exact absurd hlt (hlo j h)
          · omega
        simp only [hlt, decide_true, if_true]
        have h1 := ht j
        rw [if_pos (by simp only [List.length_cons, List.length_nil, maxBytes]; omega), if_pos ⟨Int.natCast_nonneg _, trivial⟩, if_pos (by simp only [List.length_append, List.length_cons, List.length_nil, maxBytes]; omega)]
        refine ih _ ⟨j + 1, hjl, .inr ⟨by omega, ?_⟩⟩ (by simp only; omega)
        subst hje
        have e : (l.drop j).take (j + 1 - j) = [rdZ zA l j] := by
          rw [show j + 1 - j = 1 by omega, drop_rdZ zA l j hjl]; rfl
        rw [e]
        rfl
      · have hne : j ≠ i := fun e => hlt (by rw [e] at hjl ⊢; exact hhi hjl)
        simp only [hlt, decide_false, Bool.false_eq_true, if_false]
        have h1 := ht j
        rw [if_pos ⟨Int.natCast_nonneg _, trivial⟩, if_pos (by simp only [List.length_cons, List.length_nil, maxBytes]; omega)]
        exact ih _ ⟨j + 1, hjl, .inl ⟨by omega, by rw [← hd]; rfl⟩⟩ (by simp only; omega)
    · have hj2 : ¬ (j : Int) < (l.length : Int) := fun h => hjl (Int.ofNat_lt.1 h)
      have hje : j = l.length := by omega
      have hie : i = l.length := by omega
      have h1 := ht j
      simp only [hj2, decide_false, Bool.false_eq_true, if_false, Bool.not_false, if_true]
      rw [if_pos (by simp only [List.length_cons, List.length_nil, maxBytes]; omega), hje, hie, List.take_length, List.drop_length, List.append_nil]
  · simp only [Int.toNat_natCast]
    by_cases hjl : j < l.length
    · have hj2 : (j : Int) < (l.length : Int) := Int.ofNat_lt.2 hjl
      have h1 := ht i
      have h2 := ht2 (j - i)
      simp only [hj2, decide_true, if_true, Bool.not_true, Bool.false_eq_true, if_false]
      rw [if_pos ⟨Int.natCast_nonneg _, trivial⟩, w64 (x := (j : Int) + 1) (by omega), if_pos (by simp only [List.length_append, List.length_cons, List.length_nil, maxBytes]; omega)]
      refine ih _ ⟨j + 1, hjl, .inr ⟨by omega, ?_⟩⟩ (by simp only; omega)
      have e : (l.drop i).take (j + 1 - i) = (l.drop i).take (j - i) ++ [rdZ zA l j] := by
        rw [show j + 1 - i = (j - i) + 1 by omega, List.take_succ_eq_append_getElem (by rw [List.length_drop]; omega), List.getElem_drop, rdZ_get zA l j hjl]
        congr 3
        omega
      rw [e, List.append_assoc (l.take i ++ [a])]
      rfl
    · have hj2 : ¬ (j : Int) < (l.length : Int) := fun h => hjl (Int.ofNat_lt.1 h)
      have e : (l.drop i).take (j - i) = l.drop i := List.take_of_length_le (by rw [List.length_drop]; omega)
      simp only [hj2, decide_false, Bool.false_eq_true, if_false, Bool.not_true, e]
end Go.Proofs.YthbcmgpmjljdeaaGreat.F
