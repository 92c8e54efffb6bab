/- Graphs: two rows joined: concat, sort, compact. -/
import Derived.Test.YtaemcnabccgnbaaLSh
set_option maxRecDepth 100000
set_option linter.unusedVariables false
set_option linter.unusedSimpArgs false
open Go Go.Proofs.Fr
namespace Go.Proofs.Ytaemcnabccgnbaa.F
theorem grow_eq (n : Int) (h0 : 0 ≤ n) (h1 : n ≤ 100000) : slices_Grow_int_int.p ((), n, ()) = some ([], ()) := by
  unfold slices_Grow_int_int.p
  have hz : IntKind.i64.wrap (0 - 0) = 0 := w64 (by omega)
  have hw : IntKind.i64.wrap (n - 0) = n := (w64 (by omega)).trans (by omega)
  have c1 : ¬ n < 0 := by omega
  simp only [jn_eq, hz, hw, c1, decide_false, Bool.false_eq_true, if_false]
  by_cases c : n > 0
  · rw [if_pos (decide_eq_true c), if_pos ⟨Int.le_refl _, Int.le_refl _, Int.le_refl _⟩, if_pos (by unfold maxBytes; omega), if_pos ⟨Int.le_refl _, Int.natCast_nonneg _⟩]
    rfl
  · rw [if_neg (by simp only [decide_eq_true_eq]; exact c)]
theorem concat_eq (a b : List Int) (ha : a.length ≤ 2000) (hb : b.length ≤ 2000) : slices_Concat_int_int.p (([a, b] : List (List Int)), ()) = some (a ++ b, ()) := by
  unfold slices_Concat_int_int.p
  simp only [jn_eq]
  obtain ⟨n, hn⟩ : ∃ n, (4611686018427387904 : Nat) = n + 3 := ⟨4611686018427387901, by decide⟩
  rw [hn]
  have w0 : IntKind.i64.wrap (0 + (a.length : Int)) = (a.length : Int) := (w64 (by omega)).trans (by omega)
  have w1 : IntKind.i64.wrap (0 + 1) = 1 := w64 (by omega)
  have w2 : IntKind.i64.wrap (1 + 1) = 2 := w64 (by omega)
  have w3 : IntKind.i64.wrap ((a.length : Int) + (b.length : Int)) = (a.length : Int) + (b.length : Int) := w64 (by omega)
  have c1 : ¬ (a.length : Int) < 0 := by omega
  have c2 : ¬ (a.length : Int) + (b.length : Int) < 0 := by omega
  have r0 : rdZ ([] : List Int) [a, b] (Int.toNat 0) = a := rfl
  have r1 : rdZ ([] : List Int) [a, b] (Int.toNat 1) = b := rfl
  have l2 : (([a, b] : List (List Int)).length : Int) = 2 := rfl
  have g0 : ((0 : Int) < 2) = True := by decide
  have g1 : ((1 : Int) < 2) = True := by decide
  have g2 : ((2 : Int) < 2) = False := by decide
  have g3 : ((0 : Int) ≤ 0) = True := by decide
  have g4 : ((0 : Int) ≤ 1) = True := by decide
  have hgr := grow_eq ((a.length : Int) + (b.length : Int)) (by omega) (by omega)
  have m1 : ([] : List Int).length + a.length ≤ maxBytes / 8 := by simp only [List.length_nil, maxBytes]; omega
  have m2 : a.length + b.length ≤ maxBytes / 8 := by simp only [maxBytes]; omega
  simp only [iterK, l2, g0, g1, g2, g3, g4, decide_true, decide_false, if_true, and_self, Bool.false_eq_true, if_false, r0, r1, w0, w1, w2, w3, c1, c2, hgr, bind_eq, m1, List.nil_append]
  rw [if_pos m2]
abbrev sIns := slices_Sort_int_int.p_ins
theorem sIns_perm (x : Int) : ∀ l, (sIns x l).Perm (x :: l)
  | [] => .refl _
  | y :: l => by
    unfold sIns slices_Sort_int_int.p_ins
    split
    · exact .refl _
    · exact ((sIns_perm x l).cons y).trans (List.Perm.swap x y l)
theorem sIns_srt (x : Int) : ∀ l : List Int, l.Pairwise (· ≤ ·) → (sIns x l).Pairwise (· ≤ ·)
  | [], _ => List.pairwise_singleton _ _
  | y :: l, h => by
    unfold sIns slices_Sort_int_int.p_ins
    have h' := List.pairwise_cons.1 h
    split
    · rename_i hxy
      refine List.pairwise_cons.2 ⟨fun z hz => ?_, h⟩
      rcases List.mem_cons.1 hz with rfl | hz
      · exact hxy
      · exact Int.le_trans hxy (h'.1 z hz)
    · rename_i hxy
      refine List.pairwise_cons.2 ⟨fun z hz => ?_, sIns_srt x l h'.2⟩
      rcases List.mem_cons.1 ((sIns_perm x l).mem_iff.1 hz) with rfl | hz
      · omega
      · exact h'.1 z hz
theorem sort_ex (l : List Int) (hl : l.length ≤ 1000000) : ∃ s, slices_Sort_int_int.p (l, ()) = some (s, ()) ∧ s.Pairwise (· ≤ ·) ∧ s.Perm l := by
  refine ⟨_, if_pos (by simp only; omega), ?_⟩
  unfold slices_Sort_int_int.p_sort
  induction l with
  | nil => exact ⟨.nil, .refl _⟩
  | cons x l ih =>
    have ih := ih (by simp only [List.length_cons] at hl; omega)
    exact ⟨sIns_srt x _ ih.1, (sIns_perm x _).trans (ih.2.cons x)⟩
theorem srt_rd {s : List Int} (h : s.Pairwise (· ≤ ·)) {i j : Nat} (hij : i < j) (hj : j < s.length) : rd s i ≤ rd s j := by
  rw [rd_get s i (by omega), rd_get s j hj]
  exact List.pairwise_iff_getElem.1 h i j (by omega) hj hij
theorem take_rd (s : List Int) (k : Nat) (hk : k < s.length) : s.take (k + 1) = s.take k ++ [rd s k] := by
  rw [List.take_succ_eq_append_getElem hk, rd_get s k hk]
theorem put_take (arr z : List Int) (w : Nat) (hw : w ≤ arr.length) : (putAtL arr w z).take w = arr.take w := by
  unfold putAtL
  rw [List.append_assoc, List.take_append_of_le_length (by rw [List.length_take]; omega), List.take_take, Nat.min_self]
theorem compact_ex (s : List Int) (hl : s.length ≤ 100000) (hs : s.Pairwise (· ≤ ·)) : ∃ c, slices_Compact_int_int.p (s, ()) = some (c, ()) ∧ Ri c ∧ ∀ y, y ∈ c ↔ y ∈ s := by
  unfold slices_Compact_int_int.p
  by_cases hshort : (s.length : Int) < 2
  · rw [if_pos (decide_eq_true hshort)]
    refine ⟨s, rfl, ?_, fun _ => Iff.rfl⟩
    match s, hshort with
    | [], _ => exact List.Pairwise.nil
    | [x], _ => exact List.pairwise_singleton _ _
    | _ :: _ :: _, h => exact absurd h (by simp; omega)
  · rw [if_neg (by simp only [decide_eq_true_eq]; exact hshort)]
    simp only [jn_eq]
    have conv : ∀ o : Option (List Int × Unit), (∃ v : List Int × Unit, o = some v ∧ (Ri v.1 ∧ ∀ y, y ∈ v.1 ↔ y ∈ s)) → ∃ c, o = some (c, ()) ∧ Ri c ∧ ∀ y, y ∈ c ↔ y ∈ s := by
      rintro o ⟨⟨c, _⟩, h1, h2⟩
      exact ⟨c, h1, h2⟩
    refine conv _ (iterK_ex (fun v : List Int × Unit => Ri v.1 ∧ ∀ y, y ∈ v.1 ↔ y ∈ s) (fun x : Int × Unit => s.length - x.1.toNat) (fun x => ∃ k : Nat, x.1 = (k : Int) ∧ 1 ≤ k ∧ k ≤ s.length ∧ Ri (s.take k)) ?_ _ _ ⟨1, rfl, by omega, by omega, ?_⟩ (by simp only; omega))
    rotate_left
    · match s with
      | [] => exact List.Pairwise.nil
      | x :: _ => exact List.pairwise_singleton _ _
    rintro ⟨q, _⟩ r1 ⟨k, hk, hk1, hkl, hR⟩ ih1
    simp only at hk
    subst hk
    simp only [Int.toNat_natCast]
    by_cases hkn : k < s.length
    · have hkn2 : (k : Int) < (s.length : Int) := Int.ofNat_lt.2 hkn
      have hw : IntKind.i64.wrap ((k : Int) - 1) = ((k - 1 : Nat) : Int) := (w64 (by omega)).trans (by omega)
      have hw1 : IntKind.i64.wrap ((k : Int) + 1) = (k : Int) + 1 := w64 (by omega)
      have hkm : ((k - 1 : Nat) : Int) < (s.length : Int) := by omega
      simp only [hkn2, decide_true, if_true, hw, Int.toNat_natCast, hw1]
      rw [if_pos ⟨Int.natCast_nonneg _, trivial⟩, if_pos ⟨Int.natCast_nonneg _, hkm⟩]
      have hle := srt_rd hs (show k - 1 < k by omega) hkn
      have hlast : rd s (k - 1) ∈ s.take k := by
        have := take_rd s (k - 1) (by omega)
        rw [show k - 1 + 1 = k by omega] at this
        rw [this]
        simp
      have hmax : ∀ (m : Nat) (y : Int), m < s.length → y ∈ s.take (m + 1) → y ≤ rd s m := by
        intro m y hm hy
        obtain ⟨i, hi, rfl⟩ := List.getElem_of_mem hy
        have hi' : i < m + 1 := by rw [List.length_take] at hi; omega
        rw [List.getElem_take, ← rd_get s i (by omega)]
        by_cases e : i = m
        · subst e; exact Int.le_refl _
        · exact srt_rd hs (by omega) hm
      by_cases c : rd s k = rd s (k - 1)
      · rw [if_pos (decide_eq_true c), if_pos ⟨Int.natCast_nonneg _, by omega, Int.le_refl _⟩]
        refine iterK_ex (fun v : List Int × Unit => Ri v.1 ∧ ∀ y, y ∈ v.1 ↔ y ∈ s) (fun x : Int × Int × List Int × Unit => s.length - k - x.2.1.toNat) (fun x => ∃ w p : Nat, x.1 = (w : Int) ∧ x.2.1 = (p : Int) ∧ 1 ≤ p ∧ k + p ≤ s.length ∧ w + 1 ≤ k + p ∧ x.2.2.1.length = s.length ∧ Ri (x.2.2.1.take w) ∧ (∀ y, y ∈ x.2.2.1.take w ↔ y ∈ s.take (k + p)) ∧ ∀ j, k + p - 1 ≤ j → rd x.2.2.1 j = rd s j) ?_ _ _ ⟨k, 1, rfl, rfl, by omega, by omega, by omega, rfl, hR, fun y => ?_, fun _ _ => rfl⟩ (by simp only; omega)
        rotate_left
        · simp only
          rw [take_rd s k hkn, List.mem_append, c]
          constructor
          · exact .inl
          · rintro (h | h)
            · exact h
            · have : y = rd s (k - 1) := by simpa using h
              rw [this]; exact hlast
        rintro ⟨w0, p0, arr, _⟩ r2 ⟨w, p, hw0, hp0, hp1, hkp, hwk, hal, hRi, hmem, hrd⟩ ih2
        simp only at hw0 hp0 hal hRi hmem hrd
        subst hw0 hp0
        simp only [Int.toNat_natCast]
        by_cases hpn : p < s.length - k
        · have hpn2 : (p : Int) < ((s.length - k : Nat) : Int) := Int.ofNat_lt.2 hpn
          have hv : IntKind.i64.wrap ((p : Int) - 1) = ((p - 1 : Nat) : Int) := (w64 (by omega)).trans (by omega)
          have hv1 : IntKind.i64.wrap ((p : Int) + 1) = (p : Int) + 1 := w64 (by omega)
          have hv2 : IntKind.i64.wrap ((w : Int) + 1) = (w : Int) + 1 := w64 (by omega)
          have hpm : ((p - 1 : Nat) : Int) < ((s.length - k : Nat) : Int) := by omega
          have e1 : rd arr (k + p) = rd s (k + p) := hrd _ (by omega)
          have e2 : rd arr (k + (p - 1)) = rd s (k + p - 1) := by rw [show k + (p - 1) = k + p - 1 by omega]; exact hrd _ (by omega)
          simp only [hpn2, decide_true, if_true, hv, hv1, hv2, Int.toNat_natCast, e1, e2]
          rw [if_pos ⟨Int.natCast_nonneg _, trivial⟩, if_pos ⟨Int.natCast_nonneg _, hpm⟩]
          have hle2 := srt_rd hs (show k + p - 1 < k + p by omega) (by omega)
          have htk := take_rd s (k + p) (by omega)
          have hprev : rd s (k + p - 1) ∈ s.take (k + p) := by
            have := take_rd s (k + p - 1) (by omega)
            rw [show k + p - 1 + 1 = k + p by omega] at this
            rw [this]
            simp
          by_cases c2 : rd s (k + p) = rd s (k + p - 1)
          · simp only [c2, decide_true, Bool.not_true, Bool.false_eq_true, if_false]
            refine ih2 _ ⟨w, p + 1, rfl, rfl, by omega, by omega, by omega, hal, hRi, fun y => ?_, fun j hj => hrd j (by omega)⟩ (by simp only; omega)
            simp only
            rw [hmem, ← Nat.add_assoc, htk, List.mem_append, c2]
            constructor
            · exact .inl
            · rintro (h | h)
              · exact h
              · have : y = rd s (k + p - 1) := by simpa using h
                rw [this]; exact hprev
          · simp only [c2, decide_false, Bool.not_false, if_true]
            have hwl : w < arr.length := by omega
            rw [if_pos ⟨Int.natCast_nonneg _, trivial⟩, if_pos ⟨Int.natCast_nonneg _, Int.ofNat_lt.2 hwl⟩]
            have htw : (arr.set w (rd s (k + p))).take (w + 1) = arr.take w ++ [rd s (k + p)] := by
              rw [take_rd _ w (by rw [List.length_set]; exact hwl), rd_set _ _ _ _ hwl, if_pos rfl, List.take_set_of_le (Nat.le_refl _)]
            refine ih2 _ ⟨w + 1, p + 1, rfl, rfl, by omega, by omega, by omega, by rw [List.length_set]; exact hal, ?_, fun y => ?_, fun j hj => ?_⟩ (by simp only; omega)
            · simp only
              rw [htw]
              refine List.pairwise_append.2 ⟨hRi, List.pairwise_singleton _ _, fun a ha b hb => ?_⟩
              have : b = rd s (k + p) := by simpa using hb
              subst this
              have h1 := (hmem a).1 ha
              have h2 := hmax (k + p - 1) a (by omega) (by rw [show k + p - 1 + 1 = k + p by omega]; exact h1)
              omega
            · simp only
              rw [htw, ← Nat.add_assoc, htk, List.mem_append, List.mem_append, hmem]
            · simp only
              rw [rd_set _ _ _ _ hwl, if_neg (by omega)]
              exact hrd j (by omega)
        · have hpn2 : ¬ (p : Int) < ((s.length - k : Nat) : Int) := fun h => hpn (Int.ofNat_lt.1 h)
          have hlw : ((putAtL arr w (List.replicate (arr.length - w) (0 : Int))).length : Int) = (arr.length : Int) := by
            unfold putAtL
            simp only [List.length_append, List.length_take, List.length_replicate, List.length_drop]
            omega
          simp only [hpn2, decide_false, Bool.false_eq_true, if_false]
          rw [if_pos (by omega), hlw, if_pos (by omega), put_take arr _ w (by omega)]
          have e : s.take (k + p) = s := List.take_of_length_le (by omega)
          rw [e] at hmem
          exact ⟨_, rfl, hRi, hmem⟩
      · rw [if_neg (by simp only [decide_eq_true_eq]; exact c)]
        refine ih1 _ ⟨k + 1, rfl, by omega, hkn, ?_⟩ (by simp only; omega)
        rw [take_rd s k hkn]
        refine List.pairwise_append.2 ⟨hR, List.pairwise_singleton _ _, fun a ha b hb => ?_⟩
        have : b = rd s k := by simpa using hb
        subst this
        have := hmax (k - 1) a (by omega) (by rw [show k - 1 + 1 = k by omega]; exact ha)
        omega
    · have hkn2 : ¬ (k : Int) < (s.length : Int) := fun h => hkn (Int.ofNat_lt.1 h)
      simp only [hkn2, decide_false, Bool.false_eq_true, if_false]
      have e : s.take k = s := List.take_of_length_le (by omega)
      rw [e] at hR
      exact ⟨_, rfl, hR, fun _ => Iff.rfl⟩
theorem join_ex (a b : List Int) (ha : a.length ≤ 2000) (hb : b.length ≤ 2000) : ∃ c, spf_join.p (a, b, ()) = some (c, ()) ∧ Ri c ∧ ∀ y, y ∈ c ↔ y ∈ a ∨ y ∈ b := by
  unfold spf_join.p
  have h1 := concat_eq a b ha hb
  obtain ⟨s, s1, s2, s3⟩ := sort_ex (a ++ b) (by rw [List.length_append]; omega)
  have hsl := s3.length_eq
  rw [List.length_append] at hsl
  obtain ⟨c, c1, c2, c3⟩ := compact_ex s (by omega) s2
  refine ⟨c, ?_, c2, fun y => by rw [c3, s3.mem_iff, List.mem_append]⟩
  rw [h1]
  simp only [bind_eq]
  rw [s1]
  simp only [bind_eq]
  rw [c1]
  simp only [bind_eq]
end Go.Proofs.Ytaemcnabccgnbaa.F
