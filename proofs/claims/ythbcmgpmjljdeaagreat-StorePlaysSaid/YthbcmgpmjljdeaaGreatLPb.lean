/- Acts on a store and on the document's: they answer alike. -/
import Derived.Test.YthbcmgpmjljdeaaGreatLPa
set_option maxRecDepth 100000
set_option linter.unusedVariables false
set_option linter.unusedSimpArgs false
open Go Go.Proofs.Fr
namespace Go.Proofs.YthbcmgpmjljdeaaGreat.F
/-- A store that may be, of advertisements. -/
def J (s : St) : Prop := MayS s ∧ ∀ j, j < s.2.1.length → AdS (rdZ zA s.2.1 j)
theorem J_len {s : St} (h : J s) : s.2.1.length ≤ 2000 := by have := h.1.2.2.1; have := h.1.2.1; omega
theorem rput_eq (s : St) (hJ : J s) (a : Ad) (ha : AdS a) (hl : a.2.1.length ≤ 1400) : ∃ (t : St) (n e : Int), store_Put.p (s, a, ()) = some (t, n, e, ()) ∧ ref14_Put.p (s, a, ()) = some (t, n, e, ()) ∧ J t := by
  obtain ⟨⟨m1, m2, m3, m4, m5⟩, hA⟩ := id hJ
  have hn : s.2.1.length ≤ 10000 := by omega
  have hg : ∀ j, j < s.2.1.length → 0 ≤ (rdZ zA s.2.1 j).1.1 ∧ (rdZ zA s.2.1 j).1.1 ≤ 3600 := fun j hj => whole_age (m5 j hj).1
  have hrw := rwholeS a ha (by omega)
  have hrr := rrightS a ha.2 hl
  cases hw : whole a.1 a.2.1 with
  | false =>
    refine ⟨s, 0, 4, ?_, ?_, hJ⟩
    · unfold store_Put.p
      simp only [wholeS a ha hl, Option.bind_some, hw, Bool.not_false, if_true]
    · unfold ref14_Put.p
      simp only [hrw, Option.bind_some, hw, Bool.not_false, if_true]
  | true =>
    cases hr : rightB a with
    | false =>
      refine ⟨s, 0, 3, ?_, ?_, hJ⟩
      · unfold store_Put.p
        simp only [wholeS a ha hl, right_eq a ha.2 hl, Option.bind_some, hw, hr, Bool.not_false, Bool.not_true, Bool.false_eq_true, if_false, if_true]
      · unfold ref14_Put.p
        simp only [hrw, hrr, Option.bind_some, hw, hr, Bool.not_false, Bool.not_true, Bool.false_eq_true, if_false, if_true]
    | true =>
      by_cases hk : ∃ m, m < s.2.1.length ∧ keyA (rdZ zA s.2.1 m) = keyA a
      · obtain ⟨m, hm, hk⟩ := hk
        have hp := put_there s a ha hl hw hr m4 hn hg m hm hk
        have hf := rfind_there s m4 hn m hm
        rw [hk] at hf
        have hcr := cmpH_range a.1 (rdZ zA s.2.1 m).1
        have hno := noK_at s.2.1 m hm m4
        rw [hk] at hno
        have hlt : (s.2.1.take m).length = m := by rw [List.length_take]; omega
        have hset : (s.2.1.take m ++ s.2.1.drop (m + 1)).take m ++ [a] ++ (s.2.1.take m ++ s.2.1.drop (m + 1)).drop m = s.2.1.set m a := by
          have e1 : (s.2.1.take m ++ s.2.1.drop (m + 1)).take m = s.2.1.take m := by rw [List.take_append_of_le_length (by omega), List.take_take, Nat.min_self]
          have e2 : (s.2.1.take m ++ s.2.1.drop (m + 1)).drop m = s.2.1.drop (m + 1) := by rw [List.drop_append_of_le_length (by omega), List.drop_eq_nil_of_le (by omega), List.nil_append]
          rw [e1, e2, List.set_eq_take_append_cons_drop, if_pos hm, List.append_assoc]
          rfl
        have hin := into_eq s a hn m (by rw [hno, List.length_append, hlt]; omega) (fun j hj => by
          rw [hno, del_at s.2.1 m hm, if_pos hj, ← hk]
          intro h
          exact ltK_irr _ (ltK_trans h (m4 j m hm hj))) (fun hj => by
          rw [hno] at hj ⊢
          rw [del_at s.2.1 m hm, if_neg (by omega), ← hk]
          refine m4 m (m + 1) ?_ (by omega)
          rw [List.length_append, hlt, List.length_drop] at hj
          omega)
        rw [hno, hset] at hin
        by_cases hc : cmpH a.1 (rdZ zA s.2.1 m).1 = 1
        · rw [if_pos hc, hc] at hp
          refine ⟨_, _, _, hp, ?_, ⟨m1, m2, by show ((s.2.1.set m a).length : Int) ≤ _; rw [List.length_set]; exact m3, rise_set s.2.1 m a hm m4 hk, fun j hj => ?_⟩, fun j hj => ?_⟩
          · unfold ref14_Put.p
            have h0 : (1 : Int) > 0 := by omega
            simp only [hrw, hrr, Option.bind_some, hw, hr, Bool.not_true, Bool.false_eq_true, if_false, rkeyS, hf, compareR a.1 _ (whole_age hw) (hg m hm), hc, h0, decide_true, if_true, hin]
            rfl
          · show whole (rdZ zA (s.2.1.set m a) j).1 (rdZ zA (s.2.1.set m a) j).2.1 = true ∧ rightB (rdZ zA (s.2.1.set m a) j) = true
            have hj2 : j < (s.2.1.set m a).length := hj
            rw [List.length_set] at hj2
            rw [set_at _ m a hm]
            by_cases hjm : j = m
            · rw [if_pos hjm]; exact ⟨hw, hr⟩
            · rw [if_neg hjm]; exact m5 j hj2
          · show AdS (rdZ zA (s.2.1.set m a) j)
            have hj2 : j < (s.2.1.set m a).length := hj
            rw [List.length_set] at hj2
            rw [set_at _ m a hm]
            by_cases hjm : j = m
            · rw [if_pos hjm]; exact ha
            · rw [if_neg hjm]; exact hA j hj2
        · rw [if_neg hc] at hp
          refine ⟨_, _, _, hp, ?_, hJ⟩
          unfold ref14_Put.p
          have h0 : ¬ cmpH a.1 (rdZ zA s.2.1 m).1 > 0 := by omega
          simp only [hrw, hrr, Option.bind_some, hw, hr, Bool.not_true, Bool.false_eq_true, if_false, rkeyS, hf, compareR a.1 _ (whole_age hw) (hg m hm), h0, decide_false]
          rw [w64 (x := cmpH a.1 (rdZ zA s.2.1 m).1 + 1) (by omega), Int.add_comm]
      · have hk2 : ∀ j, j < s.2.1.length → keyA (rdZ zA s.2.1 j) ≠ keyA a := fun j hj e => hk ⟨j, hj, e⟩
        have hf := rfind_not s (keyA a) hn hk2
        by_cases hfu : (s.2.1.length : Int) ≥ s.1
        · refine ⟨_, _, _, put_full s a ha hl hw hr m4 hn hk2 hfu, ?_, hJ⟩
          unfold ref14_Put.p
          simp only [hrw, hrr, Option.bind_some, hw, hr, Bool.not_true, Bool.not_false, Bool.false_eq_true, if_false, if_true, rkeyS, hf, hfu, decide_true]
        · obtain ⟨i, h1, h2, h3, h4⟩ := at_not s (keyA a) m4 hn hk2
          have hno := noK_self s.2.1 (keyA a) hk2
          have hin := into_eq s a hn i (by rw [hno]; exact h1) (fun j hj => by
            rw [hno]
            intro h
            exact ltK_irr _ (ltK_trans h (h2 j hj))) (fun hj => by
            rw [hno] at hj ⊢
            exact h3 i (Nat.le_refl _) hj)
          rw [hno] at hin
          have hle := len_ins s.2.1 i a h1
          have hri := rise_ins s.2.1 i a h1 m4 h2 h3
          refine ⟨(s.1, s.2.1.take i ++ [a] ++ s.2.1.drop i, s.2.2.1, ()), 3, 0, ?_, ?_, ⟨m1, m2, by show ((s.2.1.take i ++ [a] ++ s.2.1.drop i).length : Int) ≤ s.1; rw [hle]; omega, hri, fun j hj => ?_⟩, fun j hj => ?_⟩
          · unfold store_Put.p
            simp only [wholeS a ha hl, right_eq a ha.2 hl, Option.bind_some, hw, hr, keyS, h4, Bool.not_true, Bool.not_false, Bool.false_eq_true, if_false, if_true, hfu, decide_false, clone_eq _ hn, insert_eq s.2.1 i a h1 hn, store_Store_with.p]
          · unfold ref14_Put.p
            simp only [hrw, hrr, Option.bind_some, hw, hr, Bool.not_true, Bool.not_false, Bool.false_eq_true, if_false, if_true, rkeyS, hf, hfu, decide_false, hin]
          · have hj2 : j < (s.2.1.take i ++ [a] ++ s.2.1.drop i).length := hj
            rw [hle] at hj2
            show whole (rdZ zA (s.2.1.take i ++ [a] ++ s.2.1.drop i) j).1 (rdZ zA (s.2.1.take i ++ [a] ++ s.2.1.drop i) j).2.1 = true ∧ rightB (rdZ zA (s.2.1.take i ++ [a] ++ s.2.1.drop i) j) = true
            rw [ins_at _ i a h1]
            by_cases c1 : j < i
            · rw [if_pos c1]; exact m5 j (by omega)
            · rw [if_neg c1]
              by_cases c2 : j = i
              · rw [if_pos c2]; exact ⟨hw, hr⟩
              · rw [if_neg c2]; exact m5 (j - 1) (by omega)
          · have hj2 : j < (s.2.1.take i ++ [a] ++ s.2.1.drop i).length := hj
            rw [hle] at hj2
            show AdS (rdZ zA (s.2.1.take i ++ [a] ++ s.2.1.drop i) j)
            rw [ins_at _ i a h1]
            by_cases c1 : j < i
            · rw [if_pos c1]; exact hA j (by omega)
            · rw [if_neg c1]
              by_cases c2 : j = i
              · rw [if_pos c2]; exact ha
              · rw [if_neg c2]; exact hA (j - 1) (by omega)
theorem drop_there (s : St) (hr : Rise s.2.1) (hl : s.2.1.length ≤ 10000) (m : Nat) (hm : m < s.2.1.length) : store_Drop.p (s, keyA (rdZ zA s.2.1 m), ()) = some ((s.1, s.2.1.take m ++ s.2.1.drop (m + 1), s.2.2.1, ()), true, ()) := by
  unfold store_Drop.p
  rw [at_there s hr hl m hm]
  simp only [Option.bind_some, Bool.not_true, Bool.false_eq_true, if_false]
  rw [w64 (x := (m : Int) + 1) (by omega)]
  simp only [clone_eq _ hl, Option.bind_some, delete_eq _ m hm hl, store_Store_with.p]
theorem rdrop_both (s : St) (hJ : J s) (k : Ky) : ∃ (t : St) (b : Bool), store_Drop.p (s, k, ()) = some (t, b, ()) ∧ ref14_Drop.p (s, k, ()) = some (t, b, ()) ∧ J t := by
  obtain ⟨⟨m1, m2, m3, m4, m5⟩, hA⟩ := id hJ
  have hn : s.2.1.length ≤ 10000 := by omega
  have hrd := rdrop_eq s k hn
  by_cases hk : ∃ m, m < s.2.1.length ∧ keyA (rdZ zA s.2.1 m) = k
  · obtain ⟨m, hm, rfl⟩ := hk
    have hno := noK_at s.2.1 m hm m4
    have hdl : (s.2.1.take m ++ s.2.1.drop (m + 1)).length = s.2.1.length - 1 := by simp; omega
    have hlt : (((s.2.1.take m ++ s.2.1.drop (m + 1)).length : Nat) : Int) < (s.2.1.length : Int) := by rw [hdl]; omega
    rw [hno] at hrd
    simp only [hlt, decide_true] at hrd
    refine ⟨_, _, drop_there s m4 hn m hm, hrd, ⟨m1, m2, by show (((s.2.1.take m ++ s.2.1.drop (m + 1)).length : Nat) : Int) ≤ s.1; omega, rise_del s.2.1 m hm m4, fun j hj => ?_⟩, fun j hj => ?_⟩
    · have hj2 : j < (s.2.1.take m ++ s.2.1.drop (m + 1)).length := hj
      rw [hdl] at hj2
      show whole (rdZ zA (s.2.1.take m ++ s.2.1.drop (m + 1)) j).1 (rdZ zA (s.2.1.take m ++ s.2.1.drop (m + 1)) j).2.1 = true ∧ rightB (rdZ zA (s.2.1.take m ++ s.2.1.drop (m + 1)) j) = true
      rw [del_at _ m hm]
      by_cases c : j < m
      · rw [if_pos c]; exact m5 j (by omega)
      · rw [if_neg c]; exact m5 (j + 1) (by omega)
    · have hj2 : j < (s.2.1.take m ++ s.2.1.drop (m + 1)).length := hj
      rw [hdl] at hj2
      show AdS (rdZ zA (s.2.1.take m ++ s.2.1.drop (m + 1)) j)
      rw [del_at _ m hm]
      by_cases c : j < m
      · rw [if_pos c]; exact hA j (by omega)
      · rw [if_neg c]; exact hA (j + 1) (by omega)
  · have hk2 : ∀ j, j < s.2.1.length → keyA (rdZ zA s.2.1 j) ≠ k := fun j hj e => hk ⟨j, hj, e⟩
    obtain ⟨i, _, _, _, h4⟩ := at_not s k m4 hn hk2
    rw [noK_self s.2.1 k hk2] at hrd
    simp only [Int.lt_irrefl, decide_false] at hrd
    refine ⟨s, false, ?_, hrd, hJ⟩
    unfold store_Drop.p
    rw [h4]
    rfl
end Go.Proofs.YthbcmgpmjljdeaaGreat.F
