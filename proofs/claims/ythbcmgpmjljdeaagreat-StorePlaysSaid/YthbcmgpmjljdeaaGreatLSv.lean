/- Stores: what is put, found and dropped; the law. -/
import Derived.Test.YthbcmgpmjljdeaaGreatLSt
import Derived.Test.YthbcmgpmjljdeaaGreatFrd
set_option maxRecDepth 100000
set_option linter.unusedVariables false
set_option linter.unusedSimpArgs false
open Go Go.Proofs.Fr
namespace Go.Proofs.YthbcmgpmjljdeaaGreat.F
def AdS (a : Ad) : Prop := HdOk a.1 ∧ By a.2.1
noncomputable def rightB (a : Ad) : Bool := match body_Right.p (a, ()) with
  | some v => v.1
  | none => false
theorem right_some (a : Ad) (hb : By a.2.1) (hl : a.2.1.length ≤ 1400) : ∃ v, body_Right.p (a, ()) = some (v, ()) := by
  obtain ⟨xs, hs⟩ := sum_eq a.2.1 hb hl
  obtain ⟨xe, he⟩ := ext_eq a.2.1 hb hl
  unfold body_Right.p
  simp only [jn_eq, readR_eq a.2.1 hb hl, net_eq a.2.1 hb hl, hs, he, Option.bind_some]
  repeat' split
  all_goals exact ⟨_, rfl⟩
theorem right_eq (a : Ad) (hb : By a.2.1) (hl : a.2.1.length ≤ 1400) : body_Right.p (a, ()) = some (rightB a, ()) := by
  obtain ⟨v, h⟩ := right_some a hb hl
  unfold rightB
  rw [h]
theorem wholeS (a : Ad) (ha : AdS a) (hl : a.2.1.length ≤ 1400) : lsa_Whole.p (a, ()) = some (whole a.1 a.2.1, ()) := whole_eq a.1 a.2.1 ha.1 ha.2 (by omega)
theorem whole_age {h : Hd} {l : List Int} (hw : whole h l = true) : 0 ≤ h.1 ∧ h.1 ≤ 3600 := ((mayH_iff h).1 (whole_len hw).1).2.1
theorem keyS (a : Ad) : lsa_Key.p (a.1, ()) = some (keyA a, ()) := rfl
theorem ins_at (l : List Ad) (i : Nat) (a : Ad) (hi : i ≤ l.length) (j : Nat) : rdZ zA (l.take i ++ [a] ++ l.drop i) j = if j < i then rdZ zA l j else if j = i then a else rdZ zA l (j - 1) := by
  have h1 : (l.take i).length = i := by rw [List.length_take]; omega
  simp only [rdZ, List.getD_eq_getElem?_getD]
  by_cases h : j < i
  · rw [if_pos h, List.append_assoc, List.getElem?_append_left (by omega), List.getElem?_take_of_lt h]
  · rw [if_neg h]
    by_cases h2 : j = i
    · subst h2
      rw [if_pos rfl, List.append_assoc, List.getElem?_append_right (by omega), h1, Nat.sub_self]
      rfl
    · rw [if_neg h2, List.getElem?_append_right (by rw [List.length_append, h1]; simp; omega), List.length_append, h1, List.getElem?_drop]
      congr 2
      simp
      omega
theorem set_at (l : List Ad) (m : Nat) (a : Ad) (hm : m < l.length) (j : Nat) : rdZ zA (l.set m a) j = if j = m then a else rdZ zA l j := by
  simp only [rdZ, List.getD_eq_getElem?_getD]
  by_cases h : j = m
  · subst h
    rw [if_pos rfl, List.getElem?_set_self hm]
    rfl
  · rw [if_neg h, List.getElem?_set_ne (fun e => h e.symm)]
theorem del_at (l : List Ad) (i : Nat) (hi : i < l.length) (j : Nat) : rdZ zA (l.take i ++ l.drop (i + 1)) j = if j < i then rdZ zA l j else rdZ zA l (j + 1) := by
  have h1 : (l.take i).length = i := by rw [List.length_take]; omega
  simp only [rdZ, List.getD_eq_getElem?_getD]
  by_cases h : j < i
  · rw [if_pos h, List.getElem?_append_left (by omega), List.getElem?_take_of_lt h]
  · rw [if_neg h, List.getElem?_append_right (by omega), h1, List.getElem?_drop]
    congr 2
    omega
theorem rise_ins (l : List Ad) (i : Nat) (a : Ad) (hi : i ≤ l.length) (hr : Rise l) (hlo : ∀ j, j < i → ltK (keyA (rdZ zA l j)) (keyA a)) (hhi : ∀ j, i ≤ j → j < l.length → ltK (keyA a) (keyA (rdZ zA l j))) : Rise (l.take i ++ [a] ++ l.drop i) := by
  have hlen : (l.take i ++ [a] ++ l.drop i).length = l.length + 1 := by simp; omega
  intro p q hq hp
  rw [hlen] at hq
  rw [ins_at l i a hi, ins_at l i a hi]
  by_cases h1 : q < i
  · rw [if_pos h1, if_pos (by omega)]; exact hr p q (by omega) hp
  · rw [if_neg h1]
    by_cases h2 : q = i
    · rw [if_pos h2, if_pos (by omega)]; exact hlo p (by omega)
    · rw [if_neg h2]
      by_cases h3 : p < i
      · rw [if_pos h3]; exact hr p (q - 1) (by omega) (by omega)
      · rw [if_neg h3]
        by_cases h4 : p = i
        · rw [if_pos h4]; exact hhi (q - 1) (by omega) (by omega)
        · rw [if_neg h4]; exact hr (p - 1) (q - 1) (by omega) (by omega)
theorem rise_set (l : List Ad) (m : Nat) (a : Ad) (hm : m < l.length) (hr : Rise l) (hk : keyA (rdZ zA l m) = keyA a) : Rise (l.set m a) := by
  intro p q hq hp
  rw [List.length_set] at hq
  have e : ∀ j, keyA (rdZ zA (l.set m a) j) = keyA (rdZ zA l j) := by
    intro j
    rw [set_at l m a hm]
    by_cases h : j = m
    · rw [if_pos h, h, hk]
    · rw [if_neg h]
  rw [e, e]
  exact hr p q hq hp
theorem rise_del (l : List Ad) (i : Nat) (hi : i < l.length) (hr : Rise l) : Rise (l.take i ++ l.drop (i + 1)) := by
  have hlen : (l.take i ++ l.drop (i + 1)).length = l.length - 1 := by simp; omega
  intro p q hq hp
  rw [hlen] at hq
  rw [del_at l i hi, del_at l i hi]
  by_cases h1 : q < i
  · rw [if_pos h1, if_pos (by omega)]; exact hr p q (by omega) hp
  · rw [if_neg h1]
    by_cases h2 : p < i
    · rw [if_pos h2]; exact hr p (q + 1) (by omega) (by omega)
    · rw [if_neg h2]; exact hr (p + 1) (q + 1) (by omega) (by omega)
theorem rise_uniq {l : List Ad} (hr : Rise l) {i j : Nat} (hi : i < l.length) (hj : j < l.length) (h : keyA (rdZ zA l i) = keyA (rdZ zA l j)) : i = j := by
  rcases Nat.lt_trichotomy i j with h1 | h1 | h1
  · exact absurd (h ▸ hr i j hj h1) (ltK_irr _)
  · exact h1
  · exact absurd (h ▸ hr j i hi h1) (ltK_irr _)
theorem insert_eq (l : List Ad) (i : Nat) (a : Ad) (hi : i ≤ l.length) (hl : l.length ≤ 10000) : slices_Insert_api_Ad_api_Ad.p (l, (i : Int), [a], ()) = some (l.take i ++ [a] ++ l.drop i, ()) := by
  unfold slices_Insert_api_Ad_api_Ad.p
  rw [if_pos ⟨Int.natCast_nonneg _, Int.ofNat_le.2 hi, by simp, by show l.length + 1 ≤ _; omega⟩]
  rfl
theorem delete_eq (l : List Ad) (i : Nat) (hi : i < l.length) (hl : l.length ≤ 10000) : slices_Delete_api_Ad_api_Ad.p (l, (i : Int), (i : Int) + 1, ()) = some (l.take i ++ l.drop (i + 1), ()) := by
  unfold slices_Delete_api_Ad_api_Ad.p
  have e1 : ((i : Int) + 1).toNat = i + 1 := by omega
  have e2 : ¬ ((i : Int) = (i : Int) + 1) := by omega
  have e3 : (l.drop (i + 1)).length = l.length - (i + 1) := List.length_drop
  have e4 : i + (List.drop (i + 1) l).length ≤ l.length := by omega
  have e5 : (l.take i).length = i := by rw [List.length_take]; omega
  have e6 : putAtL l i (l.drop (i + 1)) = (l.take i ++ l.drop (i + 1)) ++ l.drop (l.length - 1) := by
    unfold putAtL
    congr 2
    omega
  have e7 : (l.take i ++ l.drop (i + 1)).length = l.length - 1 := by rw [List.length_append, e5, e3]; omega
  have e8 : (putAtL l i (l.drop (i + 1))).length = l.length := by rw [e6, List.length_append, e7, List.length_drop]; omega
  simp only [Int.toNat_natCast, List.take_length, e1, e2, decide_false, Bool.false_eq_true, if_false, e8]
  rw [if_pos (by omega), if_pos (by omega), if_pos (by omega)]
  rw [if_pos ⟨trivial, e4⟩, if_pos ⟨Int.natCast_nonneg _, Int.ofNat_le.2 e4, Int.le_refl _⟩, e6]
  congr 2
  have e9 : i + (List.drop (i + 1) l).length = (l.take i ++ l.drop (i + 1)).length := by rw [e7, e3]; omega
  rw [e9]
  unfold putAtL
  rw [List.take_append_of_le_length (Nat.le_refl _), List.take_length, List.append_assoc, List.take_append_of_le_length (Nat.le_refl _), List.take_length]
end Go.Proofs.YthbcmgpmjljdeaaGreat.F
