/- Stores: a store never has more than it may, once over it is so for ever; what is put twice is the same: the laws. -/
import Derived.Test.YthbcmgpmjljdeaaGreatLSv
set_option maxRecDepth 100000
set_option linter.unusedVariables false
set_option linter.unusedSimpArgs false
open Go Go.Proofs.Fr
namespace Go.Proofs.YthbcmgpmjljdeaaGreat.F
theorem put_bad (s : St) (a : Ad) (ha : AdS a) (hl : a.2.1.length ≤ 1400) (h : ¬ (whole a.1 a.2.1 = true ∧ rightB a = true)) : ∃ e : Int, e ≠ 0 ∧ e ≠ 8 ∧ store_Put.p (s, a, ()) = some (s, 0, e, ()) := by
  unfold store_Put.p
  simp only [wholeS a ha hl, right_eq a ha.2 hl, Option.bind_some]
  cases hw : whole a.1 a.2.1 with
  | false => exact ⟨4, by decide, by decide, rfl⟩
  | true =>
    cases hr : rightB a with
    | false => exact ⟨3, by decide, by decide, rfl⟩
    | true => exact absurd ⟨hw, hr⟩ h
theorem put_there (s : St) (a : Ad) (ha : AdS a) (hl : a.2.1.length ≤ 1400) (hw : whole a.1 a.2.1 = true) (hr : rightB a = true) (hs : Rise s.2.1) (hn : s.2.1.length ≤ 10000)
    (hg : ∀ j, j < s.2.1.length → 0 ≤ (rdZ zA s.2.1 j).1.1 ∧ (rdZ zA s.2.1 j).1.1 ≤ 3600) (m : Nat) (hm : m < s.2.1.length) (hk : keyA (rdZ zA s.2.1 m) = keyA a) :
    store_Put.p (s, a, ()) = some (if cmpH a.1 (rdZ zA s.2.1 m).1 = 1 then (s.1, s.2.1.set m a, s.2.2.1, ()) else s, 1 + cmpH a.1 (rdZ zA s.2.1 m).1, 0, ()) := by
  unfold store_Put.p
  have hc := cmpH_range a.1 (rdZ zA s.2.1 m).1
  simp only [wholeS a ha hl, right_eq a ha.2 hl, Option.bind_some, hw, hr, keyS, ← hk, at_there s hs hn m hm, Bool.not_true, Bool.false_eq_true, if_false, Int.toNat_natCast, jn_eq, compare a.1 _ (whole_age hw) (hg m hm), set_eq s m a hn hm]
  rw [if_pos ⟨Int.natCast_nonneg _, Int.ofNat_lt.2 hm⟩, w64 (x := 1 + cmpH a.1 (rdZ zA s.2.1 m).1) (by omega)]
  by_cases h : cmpH a.1 (rdZ zA s.2.1 m).1 = 1
  · have h2 : 1 + cmpH a.1 (rdZ zA s.2.1 m).1 = 2 := by omega
    simp only [h, if_true, show (1 : Int) + 1 = 2 from rfl, decide_true]
  · have h2 : ¬ 1 + cmpH a.1 (rdZ zA s.2.1 m).1 = 2 := by omega
    simp only [h, h2, if_false, decide_false, Bool.false_eq_true]
theorem put_full (s : St) (a : Ad) (ha : AdS a) (hl : a.2.1.length ≤ 1400) (hw : whole a.1 a.2.1 = true) (hr : rightB a = true) (hs : Rise s.2.1) (hn : s.2.1.length ≤ 10000)
    (hk : ∀ j, j < s.2.1.length → keyA (rdZ zA s.2.1 j) ≠ keyA a) (hf : (s.2.1.length : Int) ≥ s.1) : store_Put.p (s, a, ()) = some ((s.1, s.2.1, true, ()), 0, 8, ()) := by
  unfold store_Put.p
  obtain ⟨i, _, _, _, h4⟩ := at_not s (keyA a) hs hn hk
  simp only [wholeS a ha hl, right_eq a ha.2 hl, Option.bind_some, hw, hr, keyS, h4, Bool.not_true, Bool.not_false, Bool.false_eq_true, if_false, if_true, hf, decide_true, store_Store_over.p]
theorem put_new (s : St) (a : Ad) (ha : AdS a) (hl : a.2.1.length ≤ 1400) (hw : whole a.1 a.2.1 = true) (hr : rightB a = true) (hs : Rise s.2.1) (hn : s.2.1.length ≤ 10000)
    (hk : ∀ j, j < s.2.1.length → keyA (rdZ zA s.2.1 j) ≠ keyA a) (hf : (s.2.1.length : Int) < s.1) : ∃ i : Nat, i ≤ s.2.1.length ∧ Rise (s.2.1.take i ++ [a] ++ s.2.1.drop i) ∧
    store_Put.p (s, a, ()) = some ((s.1, s.2.1.take i ++ [a] ++ s.2.1.drop i, s.2.2.1, ()), 3, 0, ()) := by
  unfold store_Put.p
  obtain ⟨i, h1, h2, h3, h4⟩ := at_not s (keyA a) hs hn hk
  have hf2 : ¬ (s.2.1.length : Int) ≥ s.1 := by omega
  refine ⟨i, h1, rise_ins s.2.1 i a h1 hs h2 h3, ?_⟩
  simp only [wholeS a ha hl, right_eq a ha.2 hl, Option.bind_some, hw, hr, keyS, h4, Bool.not_true, Bool.not_false, Bool.false_eq_true, if_false, if_true, hf2, decide_false, clone_eq _ hn, insert_eq s.2.1 i a h1 hn, store_Store_with.p]
/-- What always holds of a store that may have so many. -/
def Inv (c : Int) (s : St) : Prop := s.1 = c ∧ (s.2.1.length : Int) ≤ c ∧ Rise s.2.1 ∧ ∀ j, j < s.2.1.length → 0 ≤ (rdZ zA s.2.1 j).1.1 ∧ (rdZ zA s.2.1 j).1.1 ≤ 3600
theorem inv_new (c : Int) (hc : 0 ≤ c) : Inv c (c, [], false, ()) := ⟨rfl, by simpa using hc, fun p q hq => absurd hq (by simp), fun j hj => absurd hj (by simp)⟩
theorem len_ins (l : List Ad) (i : Nat) (a : Ad) (h : i ≤ l.length) : (l.take i ++ [a] ++ l.drop i).length = l.length + 1 := by simp; omega
/-- What is put, whatever it is. -/
theorem put_any (c : Int) (hc : c ≤ 2000) (s : St) (hI : Inv c s) (a : Ad) (ha : AdS a) (hl : a.2.1.length ≤ 1400) :
    ∃ (t : St) (n e : Int), store_Put.p (s, a, ()) = some (t, n, e, ()) ∧ Inv c t ∧ s.2.1.length ≤ t.2.1.length ∧ t.2.1.length ≤ s.2.1.length + 1 ∧ t.2.2.1 = (s.2.2.1 || decide (e = 8)) ∧ (e ≠ 0 → e ≠ 8 → t = s) ∧ (e = 8 → (s.2.1.length : Int) ≥ c) ∧
      (∀ j, j < s.2.1.length → ∃ m, m < t.2.1.length ∧ keyA (rdZ zA t.2.1 m) = keyA (rdZ zA s.2.1 j) ∧ cmpH (rdZ zA s.2.1 j).1 (rdZ zA t.2.1 m).1 ≤ 0) ∧
      (e = 0 → whole a.1 a.2.1 = true ∧ rightB a = true ∧ ∃ m, m < t.2.1.length ∧ keyA (rdZ zA t.2.1 m) = keyA a ∧ (n ≥ 2 ∧ rdZ zA t.2.1 m = a ∨ (n = 0 ∨ n = 1) ∧ n = 1 + cmpH a.1 (rdZ zA t.2.1 m).1)) := by
  obtain ⟨h1, h2, h3, h4⟩ := hI
  have hn : s.2.1.length ≤ 10000 := by omega
  have hold : ∀ j, j < s.2.1.length → ∃ m, m < s.2.1.length ∧ keyA (rdZ zA s.2.1 m) = keyA (rdZ zA s.2.1 j) ∧ cmpH (rdZ zA s.2.1 j).1 (rdZ zA s.2.1 m).1 ≤ 0 := fun j hj => ⟨j, hj, rfl, by rw [cmpH_same]; omega⟩
  by_cases hb : whole a.1 a.2.1 = true ∧ rightB a = true
  · obtain ⟨hw, hr⟩ := hb
    by_cases hk : ∃ m, m < s.2.1.length ∧ keyA (rdZ zA s.2.1 m) = keyA a
    · obtain ⟨m, hm, hk⟩ := hk
      have hp := put_there s a ha hl hw hr h3 hn h4 m hm hk
      by_cases hcm : cmpH a.1 (rdZ zA s.2.1 m).1 = 1
      · rw [if_pos hcm, hcm] at hp
        have hsl : (s.2.1.set m a).length = s.2.1.length := List.length_set
        refine ⟨_, _, _, hp, ⟨h1, by show ((s.2.1.set m a).length : Int) ≤ c; rw [hsl]; exact h2, rise_set s.2.1 m a hm h3 hk, fun j hj => ?_⟩, by show _ ≤ (s.2.1.set m a).length; rw [hsl]; omega, by show (s.2.1.set m a).length ≤ _; rw [hsl]; omega, by simp, fun h => absurd rfl h, fun h => absurd h (by decide), fun j hj => ⟨j, by show _ < (s.2.1.set m a).length; rw [hsl]; exact hj, ?_⟩, fun _ => ⟨hw, hr, m, by show _ < (s.2.1.set m a).length; rw [hsl]; exact hm, ?_, .inl ⟨by decide, ?_⟩⟩⟩
        · show 0 ≤ (rdZ zA (s.2.1.set m a) j).1.1 ∧ (rdZ zA (s.2.1.set m a) j).1.1 ≤ 3600
          rw [set_at _ m a hm]
          by_cases hj2 : j = m
          · rw [if_pos hj2]; exact whole_age hw
          · rw [if_neg hj2]; exact h4 j (by have hj3 : j < (s.2.1.set m a).length := hj; rw [hsl] at hj3; exact hj3)
        · show keyA (rdZ zA (s.2.1.set m a) j) = _ ∧ cmpH _ (rdZ zA (s.2.1.set m a) j).1 ≤ 0
          rw [set_at _ m a hm]
          by_cases hj2 : j = m
          · rw [if_pos hj2, hj2, cmpH_anti, hcm]; exact ⟨hk.symm, by omega⟩
          · rw [if_neg hj2, cmpH_same]; exact ⟨rfl, by omega⟩
        · show keyA (rdZ zA (s.2.1.set m a) m) = _
          rw [set_at _ m a hm, if_pos rfl]
        · show rdZ zA (s.2.1.set m a) m = _
          rw [set_at _ m a hm, if_pos rfl]
      · rw [if_neg hcm] at hp
        have hcr := cmpH_range a.1 (rdZ zA s.2.1 m).1
        exact ⟨_, _, _, hp, ⟨h1, h2, h3, h4⟩, Nat.le_refl _, Nat.le_succ _, by simp, fun h => absurd rfl h, fun h => absurd h (by decide), hold, fun _ => ⟨hw, hr, m, hm, hk, .inr ⟨by omega, rfl⟩⟩⟩
    · have hk2 : ∀ j, j < s.2.1.length → keyA (rdZ zA s.2.1 j) ≠ keyA a := fun j hj e => hk ⟨j, hj, e⟩
      by_cases hf : (s.2.1.length : Int) ≥ s.1
      · have hp := put_full s a ha hl hw hr h3 hn hk2 hf
        exact ⟨_, _, _, hp, ⟨h1, h2, h3, h4⟩, Nat.le_refl _, Nat.le_succ _, by simp, fun _ h => absurd rfl h, fun _ => h1 ▸ hf, hold, fun h => absurd h (by decide)⟩
      · obtain ⟨i, hi, hri, hp⟩ := put_new s a ha hl hw hr h3 hn hk2 (by omega)
        have hle := len_ins s.2.1 i a hi
        refine ⟨_, _, _, hp, ⟨h1, by show ((s.2.1.take i ++ [a] ++ s.2.1.drop i).length : Int) ≤ c; rw [hle]; omega, hri, fun j hj => ?_⟩, by show _ ≤ (s.2.1.take i ++ [a] ++ s.2.1.drop i).length; rw [hle]; omega, by show (s.2.1.take i ++ [a] ++ s.2.1.drop i).length ≤ _; rw [hle]; omega, by simp, fun h => absurd rfl h, fun h => absurd h (by decide), fun j hj => ?_, fun _ => ⟨hw, hr, i, by show _ < (s.2.1.take i ++ [a] ++ s.2.1.drop i).length; rw [hle]; omega, ?_, .inl ⟨by decide, ?_⟩⟩⟩
        · have hj2 : j < (s.2.1.take i ++ [a] ++ s.2.1.drop i).length := hj
          rw [hle] at hj2
          show 0 ≤ (rdZ zA (s.2.1.take i ++ [a] ++ s.2.1.drop i) j).1.1 ∧ (rdZ zA (s.2.1.take i ++ [a] ++ s.2.1.drop i) j).1.1 ≤ 3600
          rw [ins_at _ i a hi]
          by_cases c1 : j < i
          · rw [if_pos c1]; exact h4 j (by omega)
          · rw [if_neg c1]
            by_cases c2 : j = i
            · rw [if_pos c2]; exact whole_age hw
            · rw [if_neg c2]; exact h4 (j - 1) (by omega)
        · by_cases c1 : j < i
          · refine ⟨j, by show _ < (s.2.1.take i ++ [a] ++ s.2.1.drop i).length; rw [hle]; omega, ?_⟩
            show keyA (rdZ zA (s.2.1.take i ++ [a] ++ s.2.1.drop i) j) = _ ∧ cmpH _ (rdZ zA (s.2.1.take i ++ [a] ++ s.2.1.drop i) j).1 ≤ 0
            rw [ins_at _ i a hi, if_pos c1, cmpH_same]
            exact ⟨rfl, by omega⟩
          · refine ⟨j + 1, by show _ < (s.2.1.take i ++ [a] ++ s.2.1.drop i).length; rw [hle]; omega, ?_⟩
            show keyA (rdZ zA (s.2.1.take i ++ [a] ++ s.2.1.drop i) (j + 1)) = _ ∧ cmpH _ (rdZ zA (s.2.1.take i ++ [a] ++ s.2.1.drop i) (j + 1)).1 ≤ 0
            rw [ins_at _ i a hi, if_neg (by omega), if_neg (by omega), Nat.add_sub_cancel, cmpH_same]
            exact ⟨rfl, by omega⟩
        · show keyA (rdZ zA (s.2.1.take i ++ [a] ++ s.2.1.drop i) i) = _
          rw [ins_at _ i a hi, if_neg (by omega), if_pos rfl]
        · show rdZ zA (s.2.1.take i ++ [a] ++ s.2.1.drop i) i = _
          rw [ins_at _ i a hi, if_neg (by omega), if_pos rfl]
  · obtain ⟨e, he, he8, hp⟩ := put_bad s a ha hl hb
    exact ⟨_, _, _, hp, ⟨h1, h2, h3, h4⟩, Nat.le_refl _, Nat.le_succ _, by simp [he8], fun _ _ => rfl, fun h => absurd h he8, hold, fun h => absurd h he⟩
theorem All_same (l : List Ad) (hl : l.length ≤ 1000000) : ref11_All.p (l, l, ()) = some (true, ()) := by
  unfold ref11_All.p
  simp only [jn_eq, decide_true, Bool.not_true, Bool.false_eq_true, if_false]
  refine iterK_fix (F := fun x => some (true, ())) (m := fun x => l.length - x.1.toNat) (I := fun x => 0 ≤ x.1 ∧ x.1 ≤ (l.length : Int)) ?_ _ _ (by simp) (by simp; omega)
  rintro ⟨i, _⟩ r ⟨h0, h1⟩ hr
  obtain ⟨j, rfl⟩ := Int.eq_ofNat_of_zero_le h0
  simp only [Int.toNat_natCast] at *
  by_cases hj : j < l.length
  · rw [if_pos (by simpa using hj), if_pos (by omega), if_pos (by omega)]
    have := same_eq (rdZ zA l j).1 (rdZ zA l j).2.1
    have e : (((rdZ zA l j).1, (rdZ zA l j).2.1, ()) : Ad) = rdZ zA l j := rfl
    rw [e] at this
    rw [this]
    simp only [bind_eq, Bool.not_true, Bool.false_eq_true, if_false]
    rw [w64 (by omega), hr _ ⟨by first | omega | (dsimp only; omega) | (simp only [List.length_cons, List.length_nil, List.length_append, List.length_drop, List.length_take, maxBytes]; omega) | (simp; omega), by first | omega | (dsimp only; omega) | (simp only [List.length_cons, List.length_nil, List.length_append, List.length_drop, List.length_take, maxBytes]; omega) | (simp; omega)⟩ (by first | omega | (dsimp only; omega) | (simp only [List.length_cons, List.length_nil, List.length_append, List.length_drop, List.length_take, maxBytes]; omega) | (simp; omega))]
  · rw [if_neg (by simpa using hj)]
theorem St_same (s : St) (h : s.2.1.length ≤ 1000000) : law14_same.p (s, s, ()) = some (true, ()) := by
  unfold law14_same.p law14_plain.p ref14_Same.p
  simp only [bind_eq, jn_eq, decide_true, if_true, beq_self_eq_true, All_same s.2.1 h]
end Go.Proofs.YthbcmgpmjljdeaaGreat.F
