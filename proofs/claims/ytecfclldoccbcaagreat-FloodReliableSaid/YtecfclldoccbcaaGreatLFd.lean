/- Neighbours: what is heard, got rid of and owed; one that came. -/
import Derived.Test.YtecfclldoccbcaaGreatLMay
set_option maxRecDepth 100000
set_option linter.unusedVariables false
set_option linter.unusedSimpArgs false
open Go Go.Proofs.Fr
namespace Go.Proofs.YtecfclldoccbcaaGreat.F
abbrev Pr := Int × List Ky × List Ad × Unit
abbrev Fd := St × Int × List Pr × Unit
abbrev zP : Pr := (0, [], [], ())
abbrev zK : Ky := (0, 0, 0, ())
theorem keq (x y : Ky) : (decide (x.1 = y.1) && (decide (x.2.1 = y.2.1) && (decide (x.2.2.1 = y.2.2.1) && true))) = decide (x = y) := by
  obtain ⟨a, b, c, _⟩ := x
  obtain ⟨d, e, f, _⟩ := y
  by_cases h1 : a = d <;> by_cases h2 : b = e <;> by_cases h3 : c = f <;> simp [h1, h2, h3]
theorem rid1 (x : Ad) (k : Ky) : flood_Peer_rid_1.p (x, k, ()) = some (decide (keyA x = k), k, ()) := by
  unfold flood_Peer_rid_1.p
  simp only [keyS, Option.bind_some, keq]
def keyK (k : Ky) : Ky := k
theorem heard1 (x : Ky) (k : Ky) : flood_Peer_heard_1.p (x, k, ()) = some (decide (keyK x = k), k, ()) := by
  unfold flood_Peer_heard_1.p keyK
  simp only [keq]
theorem clonePK (l : List Ky) (h : l.length ≤ 10000) : slices_Clone_api_Key_api_Key.p (l, ()) = some (l, ()) := by
  unfold slices_Clone_api_Key_api_Key.p
  have h2 : ([] : List Ky).length + l.length ≤ maxBytes / 16 := by simp only [List.length_nil, maxBytes]; omega
  by_cases h0 : l.length = 0
  · have e := List.eq_nil_of_length_eq_zero h0
    subst e
    simp only [h0, h2, if_true, List.nil_append]
    exact both_same _
  · simp only [h0, h2, if_true, if_false, List.nil_append]
theorem clonePP (l : List Pr) (h : l.length ≤ 10000) : slices_Clone_flood_Peer_flood_Peer.p (l, ()) = some (l, ()) := by
  unfold slices_Clone_flood_Peer_flood_Peer.p
  have h2 : ([] : List Pr).length + l.length ≤ maxBytes / 56 := by simp only [List.length_nil, maxBytes]; omega
  by_cases h0 : l.length = 0
  · have e := List.eq_nil_of_length_eq_zero h0
    subst e
    simp only [h0, h2, if_true, List.nil_append]
    exact both_same _
  · simp only [h0, h2, if_true, if_false, List.nil_append]
theorem indexA (l : List Ad) (k : Ky) (hl : l.length ≤ 10000) : ∃ v : Int × List Ad × Ky × Unit, slices_IndexFunc_api_Ad_api_Ad_2.p (l, k, ()) = some v ∧ ((v = (-1, l, k, ()) ∧ ∀ j, j < l.length → ¬ keyA (rdZ zA l j) = k) ∨ ∃ i : Nat, i < l.length ∧ v = ((i : Int), l, k, ()) ∧ (∀ j, j < i → ¬ keyA (rdZ zA l j) = k) ∧ keyA (rdZ zA l i) = k) := by
  unfold slices_IndexFunc_api_Ad_api_Ad_2.p
  simp only [jn_eq]
  refine iterK_ex (fun v : Int × List Ad × Ky × Unit => (v = (-1, l, k, ()) ∧ ∀ j, j < l.length → ¬ keyA (rdZ zA l j) = k) ∨ ∃ i : Nat, i < l.length ∧ v = ((i : Int), l, k, ()) ∧ (∀ j, j < i → ¬ keyA (rdZ zA l j) = k) ∧ keyA (rdZ zA l i) = k) (fun x : Int × Ky × Unit => l.length - x.1.toNat) (fun x => ∃ i : Nat, x = ((i : Int), k, ()) ∧ i ≤ l.length ∧ ∀ j, j < i → ¬ keyA (rdZ zA l j) = k) ?_ _ _ ⟨0, rfl, by omega, fun j hj => absurd hj (by omega)⟩ (by simp only [Int.toNat_zero]; omega)
  rintro x r ⟨i, rfl, hi, hj⟩ ih
  simp only [Int.toNat_natCast]
  by_cases hil : i < l.length
  · have hil2 : (i : Int) < (l.length : Int) := Int.ofNat_lt.2 hil
    simp only [hil2, decide_true, if_true, rid1, Option.bind_some]
    rw [if_pos ⟨Int.natCast_nonneg _, trivial⟩]
    by_cases hk : keyA (rdZ zA l i) = k
    · simp only [hk, decide_true, if_true]
      exact ⟨_, rfl, .inr ⟨i, hil, rfl, hj, hk⟩⟩
    · simp only [hk, decide_false, Bool.false_eq_true, if_false]
      rw [w64 (x := (i : Int) + 1) (by omega)]
      refine ih _ ⟨i + 1, rfl, hil, fun j hj2 => ?_⟩ (by simp only; omega)
      by_cases hji : j = i
      · rw [hji]; exact hk
      · exact hj j (by omega)
  · have hil2 : ¬ (i : Int) < (l.length : Int) := fun h => hil (Int.ofNat_lt.1 h)
    simp only [hil2, decide_false, Bool.false_eq_true, if_false]
    exact ⟨_, rfl, .inl ⟨rfl, fun j hj2 => hj j (by omega)⟩⟩
theorem take_filterA (l : List Ad) (k : Ky) (i : Nat) (h : i < l.length) : (l.take (i + 1)).filter (fun x => decide (¬ keyA x = k)) = (l.take i).filter (fun x => decide (¬ keyA x = k)) ++ (if keyA (rdZ zA l i) = k then [] else [rdZ zA l i]) := by
  rw [List.take_succ_eq_append_getElem h, List.filter_append, rdZ_get zA l i h]
  congr 1
  by_cases hk : keyA l[i] = k <;> simp [hk]
theorem none_filterA (l : List Ad) (k : Ky) (i : Nat) (hi : i ≤ l.length) (h : ∀ j, j < i → ¬ keyA (rdZ zA l j) = k) : (l.take i).filter (fun x => decide (¬ keyA x = k)) = l.take i := by
  rw [List.filter_eq_self]
  intro x hx
  obtain ⟨j, hj, he⟩ := List.mem_iff_getElem.1 hx
  rw [List.length_take] at hj
  have h2 := h j (by omega)
  rw [rdZ_get zA l j (by omega)] at h2
  rw [List.getElem_take] at he
  rw [← he]
  simpa using h2
theorem deleteA (l : List Ad) (k : Ky) (hl : l.length ≤ 10000) : slices_DeleteFunc_api_Ad_api_Ad.p (l, k, ()) = some (l.filter (fun x => decide (¬ keyA x = k)), k, ()) := by
  unfold slices_DeleteFunc_api_Ad_api_Ad.p
  obtain ⟨v, hv, h⟩ := indexA l k hl
  rw [hv]
  rcases h with ⟨rfl, hn⟩ | ⟨i, hi, rfl, hlo, hk⟩
  · have e := none_filterA l k l.length (Nat.le_refl _) hn
    rw [List.take_length] at e
    simp only [Option.bind_some, decide_true, if_true, e]
  · have hne : ¬ (i : Int) = -1 := by omega
    simp only [Option.bind_some, hne, decide_false, Bool.false_eq_true, if_false, jn_eq]
    rw [w64 (x := (i : Int) + 1) (by omega)]
    refine iterK_fix (F := fun _ => some (l.filter (fun x => decide (¬ keyA x = k)), k, ())) (m := fun x : Int × Int × List Ad × Ky × Unit => l.length - x.2.1.toNat) (I := fun x => ∃ (p q : Nat) (xs : List Ad), x = ((p : Int), (q : Int), xs, k, ()) ∧ xs.length = l.length ∧ p < q ∧ q ≤ l.length ∧ xs.take p = (l.take q).filter (fun x => decide (¬ keyA x = k)) ∧ ∀ n, q ≤ n → rdZ zA xs n = rdZ zA l n) ?_ _ _ ⟨i, i + 1, l, rfl, rfl, by omega, hi, ?_, fun n hn => rfl⟩ (by simp only; omega)
    · rintro x r ⟨p, q, xs, rfl, hlen, hpq, hql, htk, hsame⟩ ih
      simp only [Int.toNat_natCast]
      by_cases hq : q < xs.length
      · have hq2 : (q : Int) < (xs.length : Int) := Int.ofNat_lt.2 hq
        simp only [hq2, decide_true, if_true, rid1, Option.bind_some, hsame q (Nat.le_refl _)]
        rw [if_pos ⟨Int.natCast_nonneg _, trivial⟩, w64 (x := (q : Int) + 1) (by omega)]
        have htf := take_filterA l k q (by omega)
        by_cases hkq : keyA (rdZ zA l q) = k
        · rw [if_pos hkq, List.append_nil] at htf
          simp only [hkq, decide_true, Bool.not_true, Bool.false_eq_true, if_false]
          exact ih _ ⟨p, q + 1, xs, rfl, hlen, by omega, by omega, by rw [htf, htk], fun n hn => hsame n (by omega)⟩ (by simp only; omega)
        · rw [if_neg hkq] at htf
          simp only [hkq, decide_false, Bool.not_false, if_true]
          rw [if_pos ⟨Int.natCast_nonneg _, Int.ofNat_lt.2 (by omega)⟩, w64 (x := (p : Int) + 1) (by omega)]
          refine ih _ ⟨p + 1, q + 1, xs.set p (rdZ zA l q), rfl, by rw [List.length_set]; exact hlen, by omega, by omega, ?_, fun n hn => ?_⟩ (by simp only; omega)
          · rw [htf, ← htk, List.take_set, List.take_succ_eq_append_getElem (by omega : p < xs.length)]
            have hl1 : (xs.take p).length = p := by rw [List.length_take]; omega
            rw [List.set_append, if_neg (by omega), hl1, Nat.sub_self]
            rfl
          · rw [← hsame n (by omega)]
            simp only [rdZ, List.getD_eq_getElem?_getD]
            rw [List.getElem?_set_ne (by omega)]
      · have hq2 : ¬ (q : Int) < (xs.length : Int) := fun h => hq (Int.ofNat_lt.1 h)
        simp only [hq2, decide_false, Bool.false_eq_true, if_false]
        have hqe : q = l.length := by omega
        have hpl : p ≤ xs.length := by omega
        have e1 : (xs.take p).length = p := by rw [List.length_take]; omega
        have e2 : putAtL xs p (List.replicate (xs.length - p) ((0, 0, 0, 0, 0, 0, 0, 0, ()), [], ())) = xs.take p ++ List.replicate (xs.length - p) ((0, 0, 0, 0, 0, 0, 0, 0, ()), [], ()) := by
          unfold putAtL
          rw [List.length_replicate, List.drop_eq_nil_of_le (by omega), List.append_nil]
        have e3 : (xs.take p ++ List.replicate (xs.length - p) ((0, 0, 0, 0, 0, 0, 0, 0, ()), [], ())).length = xs.length := by rw [List.length_append, e1, List.length_replicate]; omega
        have e4 : (xs.take p ++ List.replicate (xs.length - p) ((0, 0, 0, 0, 0, 0, 0, 0, ()), [], ())).take p = xs.take p := by
          rw [List.take_append_of_le_length (by omega), List.take_take, Nat.min_self]
        rw [if_pos ⟨Int.natCast_nonneg _, Int.ofNat_le.2 hpl, Int.le_refl _⟩, e2, e3, if_pos ⟨Int.natCast_nonneg _, Int.ofNat_le.2 hpl⟩, e4, htk, hqe, List.take_length]
    · have htf := take_filterA l k i hi
      rw [if_pos hk, List.append_nil] at htf
      rw [htf, none_filterA l k i (by omega) hlo]
theorem indexK (l : List Ky) (k : Ky) (hl : l.length ≤ 10000) : ∃ v : Int × List Ky × Ky × Unit, slices_IndexFunc_api_Key_api_Key_2.p (l, k, ()) = some v ∧ ((v = (-1, l, k, ()) ∧ ∀ j, j < l.length → ¬ keyK (rdZ zK l j) = k) ∨ ∃ i : Nat, i < l.length ∧ v = ((i : Int), l, k, ()) ∧ (∀ j, j < i → ¬ keyK (rdZ zK l j) = k) ∧ keyK (rdZ zK l i) = k) := by
  unfold slices_IndexFunc_api_Key_api_Key_2.p
  simp only [jn_eq]
  refine iterK_ex (fun v : Int × List Ky × Ky × Unit => (v = (-1, l, k, ()) ∧ ∀ j, j < l.length → ¬ keyK (rdZ zK l j) = k) ∨ ∃ i : Nat, i < l.length ∧ v = ((i : Int), l, k, ()) ∧ (∀ j, j < i → ¬ keyK (rdZ zK l j) = k) ∧ keyK (rdZ zK l i) = k) (fun x : Int × Ky × Unit => l.length - x.1.toNat) (fun x => ∃ i : Nat, x = ((i : Int), k, ()) ∧ i ≤ l.length ∧ ∀ j, j < i → ¬ keyK (rdZ zK l j) = k) ?_ _ _ ⟨0, rfl, by omega, fun j hj => absurd hj (by omega)⟩ (by simp only [Int.toNat_zero]; omega)
  rintro x r ⟨i, rfl, hi, hj⟩ ih
  simp only [Int.toNat_natCast]
  by_cases hil : i < l.length
  · have hil2 : (i : Int) < (l.length : Int) := Int.ofNat_lt.2 hil
    simp only [hil2, decide_true, if_true, heard1, Option.bind_some]
    rw [if_pos ⟨Int.natCast_nonneg _, trivial⟩]
    by_cases hk : keyK (rdZ zK l i) = k
    · simp only [hk, decide_true, if_true]
      exact ⟨_, rfl, .inr ⟨i, hil, rfl, hj, hk⟩⟩
    · simp only [hk, decide_false, Bool.false_eq_true, if_false]
      rw [w64 (x := (i : Int) + 1) (by omega)]
      refine ih _ ⟨i + 1, rfl, hil, fun j hj2 => ?_⟩ (by simp only; omega)
      by_cases hji : j = i
      · rw [hji]; exact hk
      · exact hj j (by omega)
  · have hil2 : ¬ (i : Int) < (l.length : Int) := fun h => hil (Int.ofNat_lt.1 h)
    simp only [hil2, decide_false, Bool.false_eq_true, if_false]
    exact ⟨_, rfl, .inl ⟨rfl, fun j hj2 => hj j (by omega)⟩⟩
theorem take_filterK (l : List Ky) (k : Ky) (i : Nat) (h : i < l.length) : (l.take (i + 1)).filter (fun x => decide (¬ keyK x = k)) = (l.take i).filter (fun x => decide (¬ keyK x = k)) ++ (if keyK (rdZ zK l i) = k then [] else [rdZ zK l i]) := by
  rw [List.take_succ_eq_append_getElem h, List.filter_append, rdZ_get zK l i h]
  congr 1
  by_cases hk : keyK l[i] = k <;> simp [hk]
theorem none_filterK (l : List Ky) (k : Ky) (i : Nat) (hi : i ≤ l.length) (h : ∀ j, j < i → ¬ keyK (rdZ zK l j) = k) : (l.take i).filter (fun x => decide (¬ keyK x = k)) = l.take i := by
  rw [List.filter_eq_self]
  intro x hx
  obtain ⟨j, hj, he⟩ := List.mem_iff_getElem.1 hx
  rw [List.length_take] at hj
  have h2 := h j (by omega)
  rw [rdZ_get zK l j (by omega)] at h2
  rw [List.getElem_take] at he
  rw [← he]
  simpa using h2
theorem deleteK (l : List Ky) (k : Ky) (hl : l.length ≤ 10000) : slices_DeleteFunc_api_Key_api_Key.p (l, k, ()) = some (l.filter (fun x => decide (¬ keyK x = k)), k, ()) := by
  unfold slices_DeleteFunc_api_Key_api_Key.p
  obtain ⟨v, hv, h⟩ := indexK l k hl
  rw [hv]
  rcases h with ⟨rfl, hn⟩ | ⟨i, hi, rfl, hlo, hk⟩
  · have e := none_filterK l k l.length (Nat.le_refl _) hn
    rw [List.take_length] at e
    simp only [Option.bind_some, decide_true, if_true, e]
  · have hne : ¬ (i : Int) = -1 := by omega
    simp only [Option.bind_some, hne, decide_false, Bool.false_eq_true, if_false, jn_eq]
    rw [w64 (x := (i : Int) + 1) (by omega)]
    refine iterK_fix (F := fun _ => some (l.filter (fun x => decide (¬ keyK x = k)), k, ())) (m := fun x : Int × Int × List Ky × Ky × Unit => l.length - x.2.1.toNat) (I := fun x => ∃ (p q : Nat) (xs : List Ky), x = ((p : Int), (q : Int), xs, k, ()) ∧ xs.length = l.length ∧ p < q ∧ q ≤ l.length ∧ xs.take p = (l.take q).filter (fun x => decide (¬ keyK x = k)) ∧ ∀ n, q ≤ n → rdZ zK xs n = rdZ zK l n) ?_ _ _ ⟨i, i + 1, l, rfl, rfl, by omega, hi, ?_, fun n hn => rfl⟩ (by simp only; omega)
    · rintro x r ⟨p, q, xs, rfl, hlen, hpq, hql, htk, hsame⟩ ih
      simp only [Int.toNat_natCast]
      by_cases hq : q < xs.length
      · have hq2 : (q : Int) < (xs.length : Int) := Int.ofNat_lt.2 hq
        simp only [hq2, decide_true, if_true, heard1, Option.bind_some, hsame q (Nat.le_refl _)]
        rw [if_pos ⟨Int.natCast_nonneg _, trivial⟩, w64 (x := (q : Int) + 1) (by omega)]
        have htf := take_filterK l k q (by omega)
        by_cases hkq : keyK (rdZ zK l q) = k
        · rw [if_pos hkq, List.append_nil] at htf
          simp only [hkq, decide_true, Bool.not_true, Bool.false_eq_true, if_false]
          exact ih _ ⟨p, q + 1, xs, rfl, hlen, by omega, by omega, by rw [htf, htk], fun n hn => hsame n (by omega)⟩ (by simp only; omega)
        · rw [if_neg hkq] at htf
          simp only [hkq, decide_false, Bool.not_false, if_true]
          rw [if_pos ⟨Int.natCast_nonneg _, Int.ofNat_lt.2 (by omega)⟩, w64 (x := (p : Int) + 1) (by omega)]
          refine ih _ ⟨p + 1, q + 1, xs.set p (rdZ zK l q), rfl, by rw [List.length_set]; exact hlen, by omega, by omega, ?_, fun n hn => ?_⟩ (by simp only; omega)
          · rw [htf, ← htk, List.take_set, List.take_succ_eq_append_getElem (by omega : p < xs.length)]
            have hl1 : (xs.take p).length = p := by rw [List.length_take]; omega
            rw [List.set_append, if_neg (by omega), hl1, Nat.sub_self]
            rfl
          · rw [← hsame n (by omega)]
            simp only [rdZ, List.getD_eq_getElem?_getD]
            rw [List.getElem?_set_ne (by omega)]
      · have hq2 : ¬ (q : Int) < (xs.length : Int) := fun h => hq (Int.ofNat_lt.1 h)
        simp only [hq2, decide_false, Bool.false_eq_true, if_false]
        have hqe : q = l.length := by omega
        have hpl : p ≤ xs.length := by omega
        have e1 : (xs.take p).length = p := by rw [List.length_take]; omega
        have e2 : putAtL xs p (List.replicate (xs.length - p) (0, 0, 0, ())) = xs.take p ++ List.replicate (xs.length - p) (0, 0, 0, ()) := by
          unfold putAtL
          rw [List.length_replicate, List.drop_eq_nil_of_le (by omega), List.append_nil]
        have e3 : (xs.take p ++ List.replicate (xs.length - p) (0, 0, 0, ())).length = xs.length := by rw [List.length_append, e1, List.length_replicate]; omega
        have e4 : (xs.take p ++ List.replicate (xs.length - p) (0, 0, 0, ())).take p = xs.take p := by
          rw [List.take_append_of_le_length (by omega), List.take_take, Nat.min_self]
        rw [if_pos ⟨Int.natCast_nonneg _, Int.ofNat_le.2 hpl, Int.le_refl _⟩, e2, e3, if_pos ⟨Int.natCast_nonneg _, Int.ofNat_le.2 hpl⟩, e4, htk, hqe, List.take_length]
    · have htf := take_filterK l k i hi
      rw [if_pos hk, List.append_nil] at htf
      rw [htf, none_filterK l k i (by omega) hlo]
end Go.Proofs.YtecfclldoccbcaaGreat.F
