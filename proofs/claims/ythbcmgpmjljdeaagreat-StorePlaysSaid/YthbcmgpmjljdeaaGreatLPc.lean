/- Acts on a store and on the document's: ticks, floods of age, and what is asked of both. -/
import Derived.Test.YthbcmgpmjljdeaaGreatLPb
set_option maxRecDepth 100000
set_option linter.unusedVariables false
set_option linter.unusedSimpArgs false
open Go Go.Proofs.Fr
namespace Go.Proofs.YthbcmgpmjljdeaaGreat.F
theorem older_same : ref11_Older.p = lsa_Older.p := rfl
theorem heads_same : ref14_Heads.p = store_Heads.p := rfl
theorem digest_same : ref14_Digest.p = store_Digest.p := rfl
theorem older_any (a : Ad) (b : Int) (h : 0 ≤ a.1.1 ∧ a.1.1 ≤ 3600) : ∃ t : Int, 0 ≤ t ∧ t ≤ 3600 ∧ (b = 3600 → t = 3600) ∧ lsa_Older.p (a, b, ()) = some (((t, a.1.2), a.2.1, ()), ()) := by
  unfold lsa_Older.p
  simp only [jn_eq]
  by_cases hb : b > 0
  · simp only [hb, decide_true, if_true]
    by_cases h1 : (3600 : Int) < b
    · simp only [h1, if_true]
      rw [w64 (x := a.1.1 + 3600) (by omega)]
      by_cases h2 : (3600 : Int) < a.1.1 + 3600
      · simp only [h2, if_true]
        exact ⟨3600, by omega, by omega, fun _ => rfl, rfl⟩
      · simp only [h2, if_false]
        exact ⟨a.1.1 + 3600, by omega, by omega, fun _ => by omega, rfl⟩
    · simp only [h1, if_false]
      rw [w64 (x := a.1.1 + b) (by omega)]
      by_cases h2 : (3600 : Int) < a.1.1 + b
      · simp only [h2, if_true]
        exact ⟨3600, by omega, by omega, fun _ => rfl, rfl⟩
      · simp only [h2, if_false]
        exact ⟨a.1.1 + b, by omega, by omega, fun _ => by omega, rfl⟩
  · simp only [hb, decide_false, Bool.false_eq_true, if_false]
    exact ⟨a.1.1, h.1, h.2, fun _ => by omega, rfl⟩
noncomputable def oldF (b : Int) (a : Ad) : Ad := match lsa_Older.p (a, b, ()) with
  | some v => v.1
  | none => a
theorem oldF_eq (b : Int) (a : Ad) (h : 0 ≤ a.1.1 ∧ a.1.1 ≤ 3600) : ∃ t : Int, 0 ≤ t ∧ t ≤ 3600 ∧ oldF b a = ((t, a.1.2), a.2.1, ()) ∧ lsa_Older.p (a, b, ()) = some (oldF b a, ()) := by
  obtain ⟨t, h1, h2, _, h3⟩ := older_any a b h
  have e : oldF b a = ((t, a.1.2), a.2.1, ()) := by unfold oldF; rw [h3]
  exact ⟨t, h1, h2, e, by rw [e]; exact h3⟩
theorem aged_ok (h : Hd) (l : List Int) (t : Int) (ht : 0 ≤ t ∧ t ≤ 3600) (hw : whole h l = true) : whole (t, h.2) l = true := by
  obtain ⟨hm, hlen, hf⟩ := whole_len hw
  obtain ⟨h1, h2⟩ := aged h l hm t ht
  unfold whole mayAd
  rw [Bool.and_eq_true, Bool.and_eq_true, h1, h2]
  exact ⟨⟨rfl, decide_eq_true hlen⟩, hf⟩
theorem right_aged (h : Hd) (l : List Int) (t : Int) : rightB ((t, h.2), l, ()) = rightB (h, l, ()) := by
  unfold rightB body_Right.p
  rfl
/-- A row of the same advertisements, of other ages. -/
theorem J_map (s : St) (hJ : J s) (f : Ad → Ad) (hf : ∀ j, j < s.2.1.length → ∃ t : Int, 0 ≤ t ∧ t ≤ 3600 ∧ f (rdZ zA s.2.1 j) = ((t, (rdZ zA s.2.1 j).1.2), (rdZ zA s.2.1 j).2.1, ())) (l : List Ad) (hl : l.length = s.2.1.length) (hat : ∀ j, j < s.2.1.length → rdZ zA l j = rdZ zA s.2.1 j ∨ rdZ zA l j = f (rdZ zA s.2.1 j)) : J (s.1, l, s.2.2.1, ()) := by
  obtain ⟨⟨m1, m2, m3, m4, m5⟩, hA⟩ := hJ
  have key : ∀ j, j < s.2.1.length → keyA (rdZ zA l j) = keyA (rdZ zA s.2.1 j) ∧ whole (rdZ zA l j).1 (rdZ zA l j).2.1 = true ∧ rightB (rdZ zA l j) = true ∧ AdS (rdZ zA l j) := by
    intro j hj
    rcases hat j hj with h | h
    · rw [h]; exact ⟨rfl, (m5 j hj).1, (m5 j hj).2, hA j hj⟩
    · obtain ⟨t, t1, t2, t3⟩ := hf j hj
      rw [h, t3]
      refine ⟨rfl, aged_ok _ _ t ⟨t1, t2⟩ (m5 j hj).1, ?_, hA j hj⟩
      rw [right_aged]
      exact (m5 j hj).2
  exact ⟨⟨m1, m2, by show (l.length : Int) ≤ s.1; rw [hl]; exact m3, fun i j hj hi => by
    have hj2 : j < l.length := hj
    rw [hl] at hj2
    show ltK (keyA (rdZ zA l i)) (keyA (rdZ zA l j))
    rw [(key i (by omega)).1, (key j hj2).1]
    exact m4 i j hj2 hi, fun j hj => by
    have hj2 : j < l.length := hj
    rw [hl] at hj2
    exact ⟨(key j hj2).2.1, (key j hj2).2.2.1⟩⟩, fun j hj => by
    have hj2 : j < l.length := hj
    rw [hl] at hj2
    exact (key j hj2).2.2.2⟩
def overB (b : Int) (x : Ad) (y : Ad) : Bool := decide (y.1.1 = 3600) && !decide (x.1.1 = 3600)
noncomputable def outT (b : Int) (l : List Ad) : List Ad := l.map (oldF b)
noncomputable def keyT (b : Int) (l : List Ad) : List Ky := (l.filter fun x => overB b x (oldF b x)).map keyA
theorem outT_succ (b : Int) (l : List Ad) (i : Nat) (h : i < l.length) : outT b (l.take (i + 1)) = outT b (l.take i) ++ [oldF b (rdZ zA l i)] := by
  unfold outT
  rw [List.take_succ_eq_append_getElem h, List.map_append, rdZ_get zA l i h]
  rfl
theorem keyT_succ (b : Int) (l : List Ad) (i : Nat) (h : i < l.length) : keyT b (l.take (i + 1)) = keyT b (l.take i) ++ (if overB b (rdZ zA l i) (oldF b (rdZ zA l i)) = true then [keyA (rdZ zA l i)] else []) := by
  unfold keyT
  rw [List.take_succ_eq_append_getElem h, List.filter_append, List.map_append, rdZ_get zA l i h]
  congr 1
  cases hk : overB b l[i] (oldF b l[i]) <;> simp [hk]
theorem keyT_le (b : Int) (l : List Ad) : (keyT b l).length ≤ l.length := by
  unfold keyT
  rw [List.length_map]
  exact List.length_filter_le _ _
theorem tick_eq (s : St) (hJ : J s) (b : Int) : store_Tick.p (s, b, ()) = some ((s.1, outT b s.2.1, s.2.2.1, ()), keyT b s.2.1, ()) ∧ ref14_Tick.p (s, b, ()) = some ((s.1, outT b s.2.1, s.2.2.1, ()), keyT b s.2.1, ()) := by
  have hn := J_len hJ
  have hg : ∀ j, j < s.2.1.length → 0 ≤ (rdZ zA s.2.1 j).1.1 ∧ (rdZ zA s.2.1 j).1.1 ≤ 3600 := fun j hj => whole_age (hJ.1.2.2.2.2 j hj).1
  constructor
  · unfold store_Tick.p
    simp only [jn_eq, store_Store_with.p, Option.bind_some]
    refine iterK_fix (F := fun _ => some ((s.1, outT b s.2.1, s.2.2.1, ()), keyT b s.2.1, ())) (m := fun x => s.2.1.length - x.2.2.1.toNat) (I := fun x => ∃ i : Nat, x = (outT b (s.2.1.take i), keyT b (s.2.1.take i), (i : Int), ()) ∧ i ≤ s.2.1.length) ?_ _ _ ⟨0, rfl, by omega⟩ (by simp only [Int.toNat_zero]; omega)
    rintro x r ⟨i, rfl, hi⟩ ih
    simp only [Int.toNat_natCast]
    by_cases hil : i < s.2.1.length
    · have hil2 : (i : Int) < (s.2.1.length : Int) := Int.ofNat_lt.2 hil
      obtain ⟨t, t1, t2, t3, t4⟩ := oldF_eq b (rdZ zA s.2.1 i) (hg i hil)
      have l1 : (outT b (s.2.1.take i)).length ≤ 10000 := by unfold outT; rw [List.length_map, List.length_take]; omega
      have l2 : (keyT b (s.2.1.take i)).length ≤ 10000 := Nat.le_trans (keyT_le _ _) (by rw [List.length_take]; omega)
      have hos := outT_succ b s.2.1 i hil
      have hks := keyT_succ b s.2.1 i hil
      simp only [hil2, decide_true, if_true, t4, Option.bind_some, keyS]
      rw [if_pos ⟨Int.natCast_nonneg _, trivial⟩, w64 (x := (i : Int) + 1) (by omega)]
      by_cases c1 : (oldF b (rdZ zA s.2.1 i)).1.1 = 3600
      · by_cases c2 : (rdZ zA s.2.1 i).1.1 = 3600
        · have ho : overB b (rdZ zA s.2.1 i) (oldF b (rdZ zA s.2.1 i)) = false := by unfold overB; simp [c1, c2]
          rw [ho] at hks
          simp only [Bool.false_eq_true, if_false, List.append_nil] at hks
          simp only [c1, c2, decide_true, if_true, Bool.not_true, Bool.false_eq_true, if_false]
          rw [if_pos (by simp only [List.length_cons, List.length_nil, maxBytes]; omega)]
          exact ih _ ⟨i + 1, by rw [hos, hks]; rfl, hil⟩ (by simp only; omega)
        · have ho : overB b (rdZ zA s.2.1 i) (oldF b (rdZ zA s.2.1 i)) = true := by unfold overB; simp [c1, c2]
          rw [ho] at hks
          simp only [if_true] at hks
          simp only [c1, c2, decide_true, decide_false, if_true, Bool.not_false]
          rw [if_pos (by simp only [List.length_cons, List.length_nil, maxBytes]; omega), if_pos (by simp only [List.length_cons, List.length_nil, maxBytes]; omega)]
          exact ih _ ⟨i + 1, by rw [hos, hks]; rfl, hil⟩ (by simp only; omega)
      · have ho : overB b (rdZ zA s.2.1 i) (oldF b (rdZ zA s.2.1 i)) = false := by unfold overB; simp [c1]
        rw [ho] at hks
        simp only [Bool.false_eq_true, if_false, List.append_nil] at hks
        simp only [c1, decide_false, Bool.false_eq_true, if_false]
        rw [if_pos (by simp only [List.length_cons, List.length_nil, maxBytes]; omega)]
        exact ih _ ⟨i + 1, by rw [hos, hks]; rfl, hil⟩ (by simp only; omega)
    · have hil2 : ¬ (i : Int) < (s.2.1.length : Int) := fun h => hil (Int.ofNat_lt.1 h)
      have e : s.2.1.take i = s.2.1 := List.take_of_length_le (by omega)
      simp only [hil2, decide_false, Bool.false_eq_true, if_false, e]
  · unfold ref14_Tick.p
    simp only [jn_eq, older_same]
    refine iterK_fix (F := fun _ => some ((s.1, outT b s.2.1, s.2.2.1, ()), keyT b s.2.1, ())) (m := fun x => s.2.1.length - x.2.2.1.toNat) (I := fun x => ∃ i : Nat, x = (outT b (s.2.1.take i), keyT b (s.2.1.take i), (i : Int), ()) ∧ i ≤ s.2.1.length) ?_ _ _ ⟨0, rfl, by omega⟩ (by simp only [Int.toNat_zero]; omega)
    rintro x r ⟨i, rfl, hi⟩ ih
    simp only [Int.toNat_natCast]
    by_cases hil : i < s.2.1.length
    · have hil2 : (i : Int) < (s.2.1.length : Int) := Int.ofNat_lt.2 hil
      obtain ⟨t, t1, t2, t3, t4⟩ := oldF_eq b (rdZ zA s.2.1 i) (hg i hil)
      have hgi := hg i hil
      have hkk : keyA (oldF b (rdZ zA s.2.1 i)) = keyA (rdZ zA s.2.1 i) := by rw [t3]; rfl
      have l1 : (outT b (s.2.1.take i)).length ≤ 10000 := by unfold outT; rw [List.length_map, List.length_take]; omega
      have l2 : (keyT b (s.2.1.take i)).length ≤ 10000 := Nat.le_trans (keyT_le _ _) (by rw [List.length_take]; omega)
      have hos := outT_succ b s.2.1 i hil
      have hks := keyT_succ b s.2.1 i hil
      simp only [hil2, decide_true, if_true, t4, Option.bind_some, rkeyS, hkk]
      rw [if_pos ⟨Int.natCast_nonneg _, trivial⟩, w64 (x := (i : Int) + 1) (by omega)]
      by_cases c1 : (oldF b (rdZ zA s.2.1 i)).1.1 = 3600
      · simp only [c1, decide_true, if_true]
        rw [if_pos ⟨Int.natCast_nonneg _, trivial⟩]
        by_cases c2 : (rdZ zA s.2.1 i).1.1 = 3600
        · have ho : overB b (rdZ zA s.2.1 i) (oldF b (rdZ zA s.2.1 i)) = false := by unfold overB; simp [c1, c2]
          have c3 : ¬ (rdZ zA s.2.1 i).1.1 < 3600 := by omega
          rw [ho] at hks
          simp only [Bool.false_eq_true, if_false, List.append_nil] at hks
          simp only [c3, decide_false, Bool.false_eq_true, if_false]
          rw [if_pos (by simp only [List.length_cons, List.length_nil, maxBytes]; omega)]
          exact ih _ ⟨i + 1, by rw [hos, hks]; rfl, hil⟩ (by simp only; omega)
        · have ho : overB b (rdZ zA s.2.1 i) (oldF b (rdZ zA s.2.1 i)) = true := by unfold overB; simp [c1, c2]
          have c3 : (rdZ zA s.2.1 i).1.1 < 3600 := by omega
          rw [ho] at hks
          simp only [if_true] at hks
          simp only [c3, decide_true, if_true]
          rw [if_pos (by simp only [List.length_cons, List.length_nil, maxBytes]; omega), if_pos (by simp only [List.length_cons, List.length_nil, maxBytes]; omega)]
          exact ih _ ⟨i + 1, by rw [hos, hks]; rfl, hil⟩ (by simp only; omega)
      · have ho : overB b (rdZ zA s.2.1 i) (oldF b (rdZ zA s.2.1 i)) = false := by unfold overB; simp [c1]
        rw [ho] at hks
        simp only [Bool.false_eq_true, if_false, List.append_nil] at hks
        simp only [c1, decide_false, Bool.false_eq_true, if_false]
        rw [if_pos (by simp only [List.length_cons, List.length_nil, maxBytes]; omega)]
        exact ih _ ⟨i + 1, by rw [hos, hks]; rfl, hil⟩ (by simp only; omega)
    · have hil2 : ¬ (i : Int) < (s.2.1.length : Int) := fun h => hil (Int.ofNat_lt.1 h)
      have e : s.2.1.take i = s.2.1 := List.take_of_length_le (by omega)
      simp only [hil2, decide_false, Bool.false_eq_true, if_false, e]
theorem J_tick (s : St) (hJ : J s) (b : Int) : J (s.1, outT b s.2.1, s.2.2.1, ()) := by
  have hg : ∀ j, j < s.2.1.length → 0 ≤ (rdZ zA s.2.1 j).1.1 ∧ (rdZ zA s.2.1 j).1.1 ≤ 3600 := fun j hj => whole_age (hJ.1.2.2.2.2 j hj).1
  refine J_map s hJ (oldF b) (fun j hj => ?_) _ (by unfold outT; rw [List.length_map]) fun j hj => .inr ?_
  · obtain ⟨t, t1, t2, t3, _⟩ := oldF_eq b (rdZ zA s.2.1 j) (hg j hj)
    exact ⟨t, t1, t2, t3⟩
  · unfold outT
    rw [rdZ_get zA _ j (by rw [List.length_map]; exact hj), List.getElem_map, rdZ_get zA _ j hj]
end Go.Proofs.YthbcmgpmjljdeaaGreat.F
