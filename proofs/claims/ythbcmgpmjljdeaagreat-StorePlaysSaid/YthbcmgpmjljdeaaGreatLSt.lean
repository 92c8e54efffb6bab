/- Stores: the search for a key, what is put, found and dropped; the law. -/
import Derived.Test.YthbcmgpmjljdeaaGreatLBr
import Derived.Test.YthbcmgpmjljdeaaGreatLLc
set_option maxRecDepth 100000
set_option linter.unusedVariables false
set_option linter.unusedSimpArgs false
open Go Go.Proofs.Fr
namespace Go.Proofs.YthbcmgpmjljdeaaGreat.F
abbrev Ky := Int × Int × Int × Unit
abbrev St := Int × List Ad × Bool × Unit
def c3 (x y : Int) : Int := if x < y then -1 else if x > y then 1 else 0
theorem cmpI (x y : Int) : cmp_Compare_int.p (x, y, ()) = some (c3 x y, ()) := by
  simp only [cmp_Compare_int.p, cmp_isNaN_int.p, c3, decide_true, Bool.not_true, Option.bind_some, Bool.false_eq_true, if_false, decide_eq_true_eq]
  split <;> (try split) <;> rfl
theorem cmpU (x y : Int) : cmp_Compare_uint32.p (x, y, ()) = some (c3 x y, ()) := by
  simp only [cmp_Compare_uint32.p, cmp_isNaN_uint32.p, c3, decide_true, Bool.not_true, Option.bind_some, Bool.false_eq_true, if_false, decide_eq_true_eq]
  split <;> (try split) <;> rfl
theorem cmpL (x y : Int) : cmp_Compare_int32.p (x, y, ()) = some (c3 x y, ()) := by
  simp only [cmp_Compare_int32.p, cmp_isNaN_int32.p, c3, decide_true, Bool.not_true, Option.bind_some, Bool.false_eq_true, if_false, decide_eq_true_eq]
  split <;> (try split) <;> rfl
def f4 (p q r s : Int) : Int := if p ≠ 0 then p else if q ≠ 0 then q else if r ≠ 0 then r else s
theorem w1 : IntKind.i64.wrap (0 + 1) = 1 ∧ IntKind.i64.wrap (1 + 1) = 2 ∧ IntKind.i64.wrap (2 + 1) = 3 ∧ IntKind.i64.wrap (3 + 1) = 4 := by decide
theorem first4 (p q r s : Int) : lsa_first.p ([p, q, r, s], ()) = some (f4 p q r s, ()) := by
  unfold lsa_first.p f4
  obtain ⟨n, hn⟩ : ∃ n, (4611686018427387904 : Nat) = n + 1 + 1 + 1 + 1 + 1 := ⟨4611686018427387899, rfl⟩
  rw [hn]
  simp only [iterK, jn, w1.1, w1.2.1, w1.2.2.1, w1.2.2.2]
  by_cases hp : p = 0 <;> by_cases hq : q = 0 <;> by_cases hr : r = 0 <;> by_cases hs : s = 0 <;> simp [hp, hq, hr, hs, rd]
def f3 (p q r : Int) : Int := if p ≠ 0 then p else if q ≠ 0 then q else r
theorem first3 (p q r : Int) : lsa_first.p ([p, q, r], ()) = some (f3 p q r, ()) := by
  unfold lsa_first.p f3
  obtain ⟨n, hn⟩ : ∃ n, (4611686018427387904 : Nat) = n + 1 + 1 + 1 + 1 := ⟨4611686018427387900, rfl⟩
  rw [hn]
  simp only [iterK, jn, w1.1, w1.2.1, w1.2.2.1, w1.2.2.2]
  by_cases hp : p = 0 <;> by_cases hq : q = 0 <;> by_cases hr : r = 0 <;> simp [hp, hq, hr, rd]
theorem younger (a b : Hd) (ha : 0 ≤ a.1 ∧ a.1 ≤ 3600) (hb : 0 ≤ b.1 ∧ b.1 ≤ 3600) : lsa_younger.p (a, b, ()) = some (if -900 ≤ a.1 - b.1 ∧ a.1 - b.1 ≤ 900 then 0 else c3 b.1 a.1, ()) := by
  unfold lsa_younger.p
  simp only [lIn, cmpI, w64 (x := a.1 - b.1) (by omega), Option.bind_some, decide_eq_true_eq]
  split <;> rfl
theorem old (a : Hd) : lsa_old.p (a, ()) = some (if a.1 = 3600 then 1 else 0, ()) := by
  unfold lsa_old.p
  simp only [decide_eq_true_eq]
  split <;> rfl
/-- What heads are compared by. -/
def cmp (s t p q x y : Int) : Int := f4 (c3 s t) (c3 p q) ((if x = 3600 then 1 else 0) - (if y = 3600 then 1 else 0)) (if -900 ≤ x - y ∧ x - y ≤ 900 then 0 else c3 y x)
def cmpH (a b : Hd) : Int := cmp (IntKind.i32.wrap a.2.2.2.2.2.1) (IntKind.i32.wrap b.2.2.2.2.2.1) a.2.2.2.2.2.2.1 b.2.2.2.2.2.2.1 a.1 b.1
theorem compare (a b : Hd) (ha : 0 ≤ a.1 ∧ a.1 ≤ 3600) (hb : 0 ≤ b.1 ∧ b.1 ≤ 3600) : lsa_Compare.p (a, b, ()) = some (cmpH a b, ()) := by
  unfold lsa_Compare.p cmpH cmp
  have h := younger a b ha hb
  have e : ∀ (u v : Int), (u = 0 ∨ u = 1) → (v = 0 ∨ v = 1) → IntKind.i64.wrap (u - v) = u - v := fun u v hu hv => w64 (by omega)
  simp only [cmpL, cmpI, old, h, first4, Option.bind_some]
  rw [e _ _ (by split <;> simp) (by split <;> simp)]
theorem c3_neg (x y : Int) : c3 y x = - c3 x y := by
  unfold c3
  by_cases h1 : x < y
  · have h2 : ¬ y < x := by omega
    simp [h1, h2]
  · by_cases h2 : y < x
    · simp [h1, h2]
    · simp [h1, h2]
theorem c3_range (x y : Int) : -1 ≤ c3 x y ∧ c3 x y ≤ 1 := by
  unfold c3
  split
  · omega
  · split <;> omega
theorem f4_neg (p q r s : Int) : f4 (-p) (-q) (-r) (-s) = - f4 p q r s := by
  unfold f4
  by_cases h1 : p = 0
  · by_cases h2 : q = 0
    · by_cases h3 : r = 0 <;> simp [h1, h2, h3]
    · simp [h1, h2]
  · simp [h1]
theorem f4_range (p q r s : Int) (h1 : -1 ≤ p ∧ p ≤ 1) (h2 : -1 ≤ q ∧ q ≤ 1) (h3 : -1 ≤ r ∧ r ≤ 1) (h4 : -1 ≤ s ∧ s ≤ 1) : -1 ≤ f4 p q r s ∧ f4 p q r s ≤ 1 := by
  unfold f4
  split
  · exact h1
  · split
    · exact h2
    · split
      · exact h3
      · exact h4
theorem cmpH_range (a b : Hd) : -1 ≤ cmpH a b ∧ cmpH a b ≤ 1 := by
  unfold cmpH cmp
  refine f4_range _ _ _ _ (c3_range _ _) (c3_range _ _) ?_ ?_
  · split <;> split <;> omega
  · split
    · omega
    · exact c3_range _ _
theorem cmpH_anti (a b : Hd) : cmpH b a = - cmpH a b := by
  unfold cmpH cmp
  generalize a.1 = x
  generalize b.1 = y
  have e1 : ((if y = 3600 then 1 else 0) - (if x = 3600 then 1 else 0) : Int) = -((if x = 3600 then 1 else 0) - (if y = 3600 then 1 else 0)) := by omega
  have e2 : (if -900 ≤ y - x ∧ y - x ≤ 900 then 0 else c3 x y) = -(if -900 ≤ x - y ∧ x - y ≤ 900 then 0 else c3 y x) := by
    by_cases h : -900 ≤ x - y ∧ x - y ≤ 900
    · rw [if_pos h, if_pos (by omega)]; rfl
    · rw [if_neg h, if_neg (by omega), c3_neg y x]
  rw [e1, e2, c3_neg (IntKind.i32.wrap a.2.2.2.2.2.1), c3_neg a.2.2.2.2.2.2.1, f4_neg]
theorem cmpH_same (a : Hd) : cmpH a a = 0 := by
  unfold cmpH cmp f4 c3
  simp
/-- Keys in order. -/
def ltK (a b : Ky) : Prop := a.1 < b.1 ∨ (a.1 = b.1 ∧ (a.2.1 < b.2.1 ∨ (a.2.1 = b.2.1 ∧ a.2.2.1 < b.2.2.1)))
instance (a b : Ky) : Decidable (ltK a b) := by unfold ltK; infer_instance
theorem ltK_irr (a : Ky) : ¬ ltK a a := by unfold ltK; omega
theorem ltK_trans {a b c : Ky} (h : ltK a b) (h' : ltK b c) : ltK a c := by unfold ltK at *; omega
theorem ltK_tri {a b : Ky} (h : ¬ ltK a b) (h' : ¬ ltK b a) : a = b := by
  obtain ⟨x, y, z, _⟩ := a
  obtain ⟨x', y', z', _⟩ := b
  unfold ltK at *
  simp only at h h'
  have e1 : x = x' := by omega
  have e2 : y = y' := by omega
  have e3 : z = z' := by omega
  rw [e1, e2, e3]
theorem less (a b : Ky) : lsa_Less.p (a, b, ()) = some (decide (ltK a b), ()) := by
  unfold lsa_Less.p
  simp only [cmpI, cmpU, first3, Option.bind_some]
  congr 2
  rw [decide_eq_decide]
  unfold f3 c3 ltK
  by_cases h1 : a.1 < b.1
  · simp [h1]
  · by_cases h2 : b.1 < a.1
    · have : ¬ a.1 = b.1 := by omega
      simp [h1, h2, this]
    · have e1 : a.1 = b.1 := by omega
      by_cases h3 : a.2.1 < b.2.1
      · simp [e1, h3]
      · by_cases h4 : b.2.1 < a.2.1
        · have : ¬ a.2.1 = b.2.1 := by omega
          simp [e1, h3, h4, this]
        · have e2 : a.2.1 = b.2.1 := by omega
          by_cases h5 : a.2.2.1 < b.2.2.1
          · simp [e1, e2, h5]
          · by_cases h6 : b.2.2.1 < a.2.2.1 <;> simp [e1, e2, h5, h6]
def keyA (a : Ad) : Ky := (a.1.2.2.1, a.1.2.2.2.1, a.1.2.2.2.2.1, ())
theorem key_eq (h : Hd) (l : List Int) : lsa_Key.p (h, ()) = some (keyA (h, l, ()), ()) := rfl
theorem at1 (x : Ad) (k : Ky) : store_Store_at_1.p (x, k, ()) = some (if ltK (keyA x) k then -1 else if ltK k (keyA x) then 1 else 0, ()) := by
  unfold store_Store_at_1.p
  rw [key_eq x.1 x.2.1]
  have e : ((x.1, x.2.1, ()) : Ad) = x := rfl
  simp only [less, Option.bind_some, e, decide_eq_true_eq]
  by_cases h : ltK (keyA x) k
  · simp only [h, if_true]
  · by_cases h2 : ltK k (keyA x) <;> simp only [h, h2, if_false, if_true]
abbrev zA : Ad := ((0, 0, 0, 0, 0, 0, 0, 0, ()), [], ())
theorem wu64 {x : Int} (h : 0 ≤ x ∧ x ≤ 9223372036854775807) : IntKind.u64.wrap x = x := by
  simp [IntKind.wrap, IntKind.signed, IntKind.bits]; omega
theorem mid_eq (i j : Nat) (h : i + j ≤ 100000) : IntKind.i64.wrap (Int.fdiv (IntKind.u64.wrap (IntKind.i64.wrap ((i : Int) + (j : Int)))) (2 ^ 1)) = (((i + j) / 2 : Nat) : Int) := by
  rw [w64 (x := (i : Int) + j) (by omega), wu64 (by omega), fdiv_pos (by omega), w64 (by omega)]
  omega
/-- Keys of rows rise. -/
def Rise (l : List Ad) : Prop := ∀ (i j : Nat) (hj : j < l.length) (hi : i < j), ltK (keyA (rdZ zA l i)) (keyA (rdZ zA l j))
theorem ex4 {R : Type} {X : Option R} {A B C : Nat → Prop} {w : Nat → R} (h : ∃ v, X = some v ∧ ∃ i, A i ∧ B i ∧ C i ∧ v = w i) : ∃ i, A i ∧ B i ∧ C i ∧ X = some (w i) := by
  obtain ⟨v, h1, i, h2, h3, h4, rfl⟩ := h
  exact ⟨i, h2, h3, h4, h1⟩
theorem search_eq (l : List Ad) (k : Ky) (hr : Rise l) (hl : l.length ≤ 10000) : ∃ i : Nat, i ≤ l.length ∧ (∀ j, j < i → ltK (keyA (rdZ zA l j)) k) ∧ (∀ j, i ≤ j → j < l.length → ¬ ltK (keyA (rdZ zA l j)) k) ∧
    slices_BinarySearchFunc_api_Ad_api_Ad_api_Key.p (l, k, (), ()) = some ((i : Int), decide (i < l.length ∧ keyA (rdZ zA l i) = k), ()) := by
  unfold slices_BinarySearchFunc_api_Ad_api_Ad_api_Key.p
  rw [jn_eq]
  refine ex4 (iterK_ex (R := Int × Bool × Unit) (Q := fun v => ∃ i : Nat, i ≤ l.length ∧ (∀ j, j < i → ltK (keyA (rdZ zA l j)) k) ∧ (∀ j, i ≤ j → j < l.length → ¬ ltK (keyA (rdZ zA l j)) k) ∧ v = ((i : Int), decide (i < l.length ∧ keyA (rdZ zA l i) = k), ()))
    (m := fun x : Int × Int × Unit => (x.2.1 - x.1).toNat) (I := fun x => ∃ i j : Nat, x = ((i : Int), (j : Int), ()) ∧ i ≤ j ∧ j ≤ l.length ∧ (∀ n, n < i → ltK (keyA (rdZ zA l n)) k) ∧ (∀ n, j ≤ n → n < l.length → ¬ ltK (keyA (rdZ zA l n)) k))
    ?_ 4611686018427387904 (0, (l.length : Int), ()) ⟨0, l.length, rfl, by omega, by omega, fun n h => absurd h (by omega), fun n h h' => absurd h (by omega)⟩ (by simp only; omega))
  · rintro x r ⟨i, j, rfl, hij, hj, hlo, hhi⟩ ih
    simp only [jn_eq]
    by_cases h : i < j
    · have hi : (i : Int) < (j : Int) := by omega
      simp only [hi, decide_true, if_true, mid_eq i j (by omega)]
      rw [if_pos (by omega)]
      simp only [Int.toNat_natCast, at1, Option.bind_some]
      by_cases hk : ltK (keyA (rdZ zA l ((i + j) / 2))) k
      · simp only [hk, if_true, show ((-1 : Int) < 0) = True by simp, decide_true]
        rw [w64 (x := (((i + j) / 2 : Nat) : Int) + 1) (by omega)]
        refine ih _ ⟨(i + j) / 2 + 1, j, rfl, by omega, hj, fun n hn => ?_, hhi⟩ (by simp only; omega)
        by_cases hn2 : n = (i + j) / 2
        · rw [hn2]; exact hk
        · exact ltK_trans (hr n ((i + j) / 2) (by omega) (by omega)) hk
      · have h0 : ¬ ((if ltK k (keyA (rdZ zA l ((i + j) / 2))) then (1 : Int) else 0) < 0) := by split <;> omega
        simp only [hk, if_false, h0, decide_false, Bool.false_eq_true]
        refine ih _ ⟨i, (i + j) / 2, rfl, by omega, by omega, hlo, fun n hn hn2 hn3 => ?_⟩ (by simp only; omega)
        by_cases he : n = (i + j) / 2
        · rw [he] at hn3; exact hk hn3
        · exact hk (ltK_trans (hr ((i + j) / 2) n hn2 (by omega)) hn3)
    · have hi : ¬ (i : Int) < (j : Int) := by omega
      have he : i = j := by omega
      subst he
      simp only [hi, decide_false, Bool.false_eq_true, if_false]
      refine ⟨_, ?_, i, hj, hlo, hhi, rfl⟩
      by_cases hl2 : i < l.length
      · have h2 : (i : Int) < (l.length : Int) := by omega
        simp only [h2, decide_true, if_true, Int.toNat_natCast, at1, Option.bind_some]
        rw [if_pos ⟨Int.natCast_nonneg _, trivial⟩]
        have hn := hhi i (Nat.le_refl _) hl2
        simp only [hn, if_false]
        congr 3
        rw [decide_eq_decide]
        constructor
        · intro e
          refine ⟨hl2, ltK_tri hn fun hh => ?_⟩
          rw [if_pos hh] at e
          exact absurd e (by decide)
        · rintro ⟨_, e⟩
          rw [e, if_neg (ltK_irr k)]
      · have h2 : ¬ (i : Int) < (l.length : Int) := by omega
        simp only [h2, hl2, decide_false, Bool.false_eq_true, if_false, false_and]
theorem at_eq (s : St) (k : Ky) (hr : Rise s.2.1) (hl : s.2.1.length ≤ 10000) : ∃ i : Nat, i ≤ s.2.1.length ∧ (∀ j, j < i → ltK (keyA (rdZ zA s.2.1 j)) k) ∧ (∀ j, i ≤ j → j < s.2.1.length → ¬ ltK (keyA (rdZ zA s.2.1 j)) k) ∧
    store_Store_at.p (s, k, ()) = some ((i : Int), decide (i < s.2.1.length ∧ keyA (rdZ zA s.2.1 i) = k), ()) := by
  obtain ⟨i, h1, h2, h3, h4⟩ := search_eq s.2.1 k hr hl
  refine ⟨i, h1, h2, h3, ?_⟩
  unfold store_Store_at.p
  rw [h4]
  rfl
theorem at_there (s : St) (hr : Rise s.2.1) (hl : s.2.1.length ≤ 10000) (m : Nat) (hm : m < s.2.1.length) : store_Store_at.p (s, keyA (rdZ zA s.2.1 m), ()) = some ((m : Int), true, ()) := by
  obtain ⟨i, h1, h2, h3, h4⟩ := at_eq s (keyA (rdZ zA s.2.1 m)) hr hl
  rw [h4]
  have e : i = m := by
    rcases Nat.lt_trichotomy i m with h | h | h
    · exact absurd (hr i m hm h) (h3 i (Nat.le_refl _) (by omega))
    · exact h
    · exact absurd (h2 m h) (ltK_irr _)
  subst e
  simp only [hm, true_and, decide_true]
theorem at_not (s : St) (k : Ky) (hr : Rise s.2.1) (hl : s.2.1.length ≤ 10000) (hk : ∀ j, j < s.2.1.length → keyA (rdZ zA s.2.1 j) ≠ k) : ∃ i : Nat, i ≤ s.2.1.length ∧ (∀ j, j < i → ltK (keyA (rdZ zA s.2.1 j)) k) ∧ (∀ j, i ≤ j → j < s.2.1.length → ltK k (keyA (rdZ zA s.2.1 j))) ∧
    store_Store_at.p (s, k, ()) = some ((i : Int), false, ()) := by
  obtain ⟨i, h1, h2, h3, h4⟩ := at_eq s k hr hl
  refine ⟨i, h1, h2, fun j hj hj2 => ?_, ?_⟩
  · by_cases hh : ltK k (keyA (rdZ zA s.2.1 j))
    · exact hh
    · exact absurd (ltK_tri (h3 j hj hj2) hh) (hk j hj2)
  · rw [h4]
    have : ¬ (i < s.2.1.length ∧ keyA (rdZ zA s.2.1 i) = k) := fun h => hk i h.1 h.2
    simp only [this, decide_false]
theorem find_there (s : St) (hr : Rise s.2.1) (hl : s.2.1.length ≤ 10000) (m : Nat) (hm : m < s.2.1.length) : store_Find.p (s, keyA (rdZ zA s.2.1 m), ()) = some (rdZ zA s.2.1 m, true, ()) := by
  unfold store_Find.p
  rw [at_there s hr hl m hm]
  simp only [Option.bind_some, Bool.not_true, Bool.false_eq_true, if_false, Int.toNat_natCast]
  rw [if_pos ⟨Int.natCast_nonneg _, Int.ofNat_lt.2 hm⟩]
theorem find_not (s : St) (k : Ky) (hr : Rise s.2.1) (hl : s.2.1.length ≤ 10000) (hk : ∀ j, j < s.2.1.length → keyA (rdZ zA s.2.1 j) ≠ k) : store_Find.p (s, k, ()) = some (zA, false, ()) := by
  unfold store_Find.p
  obtain ⟨i, _, _, _, h4⟩ := at_not s k hr hl hk
  rw [h4]
  rfl
theorem clone_eq (l : List Ad) (h : l.length ≤ 10000) : slices_Clone_api_Ad_api_Ad.p (l, ()) = some (l, ()) := by
  unfold slices_Clone_api_Ad_api_Ad.p
  have h2 : ([] : List Ad).length + l.length ≤ maxBytes / 80 := by simp only [List.length_nil, maxBytes]; omega
  by_cases h0 : l.length = 0
  · have e := List.eq_nil_of_length_eq_zero h0
    subst e
    simp only [h0, h2, if_true, List.nil_append]
    exact both_same _
  · simp only [h0, h2, if_true, if_false, List.nil_append]
theorem set_eq (s : St) (i : Nat) (a : Ad) (h : s.2.1.length ≤ 10000) (hi : i < s.2.1.length) : store_Store_set.p (s, (i : Int), a, ()) = some ((s.1, s.2.1.set i a, s.2.2.1, ()), ()) := by
  unfold store_Store_set.p
  simp only [clone_eq _ h, Option.bind_some, store_Store_with.p, Int.toNat_natCast]
  rw [if_pos ⟨Int.natCast_nonneg _, Int.ofNat_lt.2 hi⟩]
end Go.Proofs.YthbcmgpmjljdeaaGreat.F
