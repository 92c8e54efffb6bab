/- The program's functions as plain functions, and the plain law over them. -/
import Derived.Test.YtmeppheikmgoeaaP
import Derived.Test.YtmeppheikmgoeaaFrb
set_option maxRecDepth 100000
set_option linter.unusedVariables false
set_option linter.unusedSimpArgs false
open Go Go.Proofs.Fr
namespace Go.Proofs.Ytmeppheikmgoeaa.F
theorem alive : law11_alive.p () = some (true, ()) := by decide +kernel
def c3 (x y : Int) : Int := if x < y then -1 else if x > y then 1 else 0
theorem cmpI (x y : Int) : cmp_Compare_int.p (x, y, ()) = some (c3 x y, ()) := by
  simp only [cmp_Compare_int.p, cmp_isNaN_int.p, c3, decide_true, Bool.not_true, Option.bind_some, Bool.false_eq_true, if_false, decide_eq_true_eq]
  split <;> (try split) <;> rfl
theorem cmpU (x y : Int) : cmp_Compare_uint32.p (x, y, ()) = some (c3 x y, ()) := by
  simp only [cmp_Compare_uint32.p, cmp_isNaN_uint32.p, c3, decide_true, Bool.not_true, Option.bind_some, Bool.false_eq_true, if_false, decide_eq_true_eq]
  split <;> (try split) <;> rfl
theorem cmpL (x y : Int) : cmp_Compare_int32.p (x, y, ()) = some (c3 x y, ()) := by
  simp only [cmp_Compare_int32.p, cmp_isNaN_int32.p, c3, decide_true, Bool.not_true, Option.bind_some, Bool.false_eq_true, if_false, decide_eq_true_eq]
  split <;> (try split) <;> rfl
def f4 (p q r s : Int) : Int := if p ≠ 0 then p else if q ≠ 0 then q else if r ≠ 0 then r else s
theorem w1 : IntKind.i64.wrap (0 + 1) = 1 ∧ IntKind.i64.wrap (1 + 1) = 2 ∧ IntKind.i64.wrap (2 + 1) = 3 ∧ IntKind.i64.wrap (3 + 1) = 4 := by decide
theorem first4 (p q r s : Int) : lsa_first.p ([p, q, r, s], ()) = some (f4 p q r s, ()) := by
  unfold lsa_first.p f4
  obtain ⟨n, hn⟩ : ∃ n, (4611686018427387904 : Nat) = n + 1 + 1 + 1 + 1 + 1 := ⟨4611686018427387899, rfl⟩
  rw [hn]
  simp only [iterK, jn, w1.1, w1.2.1, w1.2.2.1, w1.2.2.2]
  by_cases hp : p = 0 <;> by_cases hq : q = 0 <;> by_cases hr : r = 0 <;> by_cases hs : s = 0 <;> simp [hp, hq, hr, hs, rdE]
def f3 (p q r : Int) : Int := if p ≠ 0 then p else if q ≠ 0 then q else r
theorem first3 (p q r : Int) : lsa_first.p ([p, q, r], ()) = some (f3 p q r, ()) := by
  unfold lsa_first.p f3
  obtain ⟨n, hn⟩ : ∃ n, (4611686018427387904 : Nat) = n + 1 + 1 + 1 + 1 := ⟨4611686018427387900, rfl⟩
  rw [hn]
  simp only [iterK, jn, w1.1, w1.2.1, w1.2.2.1, w1.2.2.2]
  by_cases hp : p = 0 <;> by_cases hq : q = 0 <;> by_cases hr : r = 0 <;> simp [hp, hq, hr, rdE]
theorem isIn (x l h : Int) : lsa_isIn.p (x, l, h, ()) = some (decide (l ≤ x ∧ x ≤ h), ()) := by
  unfold lsa_isIn.p
  by_cases h1 : l ≤ x <;> simp [jn, h1]
theorem wrap64 (x : Int) (h : -9223372036854775808 ≤ x) (h2 : x ≤ 9223372036854775807) : IntKind.i64.wrap x = x := by
  simp [IntKind.wrap, IntKind.signed, IntKind.bits, IntKind.min, IntKind.max]; omega
theorem younger (a b : Int × Int × Int × Int × Int × Int × Int × Int × Unit) (ha : 0 ≤ a.1 ∧ a.1 ≤ 3600) (hb : 0 ≤ b.1 ∧ b.1 ≤ 3600) : lsa_younger.p (a, b, ()) = some (if -900 ≤ a.1 - b.1 ∧ a.1 - b.1 ≤ 900 then 0 else c3 b.1 a.1, ()) := by
  unfold lsa_younger.p
  simp only [isIn, cmpI, wrap64 (a.1 - b.1) (by omega) (by omega), Option.bind_some, decide_eq_true_eq]
  split <;> rfl
theorem old (a : Int × Int × Int × Int × Int × Int × Int × Int × Unit) : lsa_old.p (a, ()) = some (if a.1 = 3600 then 1 else 0, ()) := by
  unfold lsa_old.p
  simp only [decide_eq_true_eq]
  split <;> rfl
/-- What both compare by. -/
def cmp (s t p q x y : Int) : Int := f4 (c3 s t) (c3 p q) ((if x = 3600 then 1 else 0) - (if y = 3600 then 1 else 0)) (if -900 ≤ x - y ∧ x - y ≤ 900 then 0 else c3 y x)
theorem compare (a b : Int × Int × Int × Int × Int × Int × Int × Int × Unit) (ha : 0 ≤ a.1 ∧ a.1 ≤ 3600) (hb : 0 ≤ b.1 ∧ b.1 ≤ 3600) :
    lsa_Compare.p (a, b, ()) = some (cmp (IntKind.i32.wrap a.2.2.2.2.2.1) (IntKind.i32.wrap b.2.2.2.2.2.1) a.2.2.2.2.2.2.1 b.2.2.2.2.2.2.1 a.1 b.1, ()) := by
  unfold lsa_Compare.p cmp
  have h := younger a b ha hb
  have e : ∀ (u v : Int), (u = 0 ∨ u = 1) → (v = 0 ∨ v = 1) → IntKind.i64.wrap (u - v) = u - v := fun u v hu hv => wrap64 _ (by omega) (by omega)
  simp only [cmpL, cmpI, old, h, first4, Option.bind_some]
  rw [e _ _ (by split <;> simp) (by split <;> simp)]
theorem compareR (a b : Int × Int × Int × Int × Int × Int × Int × Int × Unit) (ha : 0 ≤ a.1 ∧ a.1 ≤ 3600) (hb : 0 ≤ b.1 ∧ b.1 ≤ 3600) :
    ref11_Compare.p (a, b, ()) = some (cmp (IntKind.i32.wrap a.2.2.2.2.2.1) (IntKind.i32.wrap b.2.2.2.2.2.1) a.2.2.2.2.2.2.1 b.2.2.2.2.2.2.1 a.1 b.1, ()) := by
  unfold ref11_Compare.p cmp
  simp only [ref11_more.p, jn, wrap64 (b.1 + 900) (by omega) (by omega), wrap64 (a.1 + 900) (by omega) (by omega)]
  generalize IntKind.i32.wrap a.2.2.2.2.2.1 = s
  generalize IntKind.i32.wrap b.2.2.2.2.2.1 = t
  generalize a.2.2.2.2.2.2.1 = p
  generalize b.2.2.2.2.2.2.1 = q
  generalize a.1 = x at *
  generalize b.1 = y at *
  unfold f4 c3
  by_cases h1 : s = t
  · subst h1
    by_cases h2 : p = q
    · subst h2
      by_cases h3 : x = 3600 <;> by_cases h4 : y = 3600 <;> by_cases h5 : x > y + 900 <;> by_cases h6 : y > x + 900 <;> by_cases h7 : x < y <;> by_cases h8 : -900 ≤ x - y ∧ x - y ≤ 900 <;> simp [h3, h4, h5, h6, h7, h8] <;> omega
    · by_cases h3 : p < q
      · have h4 : ¬ q < p := by omega
        simp [h2, h3, h4]
      · have h4 : q < p := by omega
        simp [h2, h3, h4]
  · by_cases h3 : s < t
    · have h4 : ¬ t < s := by omega
      simp [h1, h3, h4]
    · have h4 : t < s := by omega
      simp [h1, h3, h4]
theorem c3_neg (x y : Int) : c3 y x = - c3 x y := by
  unfold c3
  by_cases h1 : x < y
  · have h2 : ¬ y < x := by omega
    simp [h1, h2]
  · by_cases h2 : y < x
    · simp [h1, h2]
    · simp [h1, h2]
theorem c3_range (x y : Int) : -1 ≤ c3 x y ∧ c3 x y ≤ 1 := by
  unfold c3
  split
  · omega
  · split <;> omega
theorem c3_zero {x y : Int} (h : c3 x y = 0) : x = y := by
  unfold c3 at h
  split at h
  · omega
  · split at h <;> omega
theorem f4_neg (p q r s : Int) : f4 (-p) (-q) (-r) (-s) = - f4 p q r s := by
  unfold f4
  by_cases h1 : p = 0
  · by_cases h2 : q = 0
    · by_cases h3 : r = 0 <;> simp [h1, h2, h3]
    · simp [h1, h2]
  · simp [h1]
theorem f4_range (p q r s : Int) (h1 : -1 ≤ p ∧ p ≤ 1) (h2 : -1 ≤ q ∧ q ≤ 1) (h3 : -1 ≤ r ∧ r ≤ 1) (h4 : -1 ≤ s ∧ s ≤ 1) : -1 ≤ f4 p q r s ∧ f4 p q r s ≤ 1 := by
  unfold f4
  split
  · exact h1
  · split
    · exact h2
    · split
      · exact h3
      · exact h4
theorem cmp_anti (s t p q x y : Int) : cmp t s q p y x = IntKind.i64.wrap (0 - cmp s t p q x y) := by
  have hg : -1 ≤ (if -900 ≤ x - y ∧ x - y ≤ 900 then 0 else c3 y x) ∧ (if -900 ≤ x - y ∧ x - y ≤ 900 then 0 else c3 y x) ≤ 1 := by
    split
    · omega
    · exact c3_range y x
  have he : -1 ≤ ((if x = 3600 then 1 else 0) - (if y = 3600 then 1 else 0) : Int) ∧ ((if x = 3600 then 1 else 0) - (if y = 3600 then 1 else 0) : Int) ≤ 1 := by
    split <;> split <;> omega
  have hr : -1 ≤ cmp s t p q x y ∧ cmp s t p q x y ≤ 1 := f4_range _ _ _ _ (c3_range _ _) (c3_range _ _) he hg
  rw [wrap64 _ (by omega) (by omega)]
  have e1 : ((if y = 3600 then 1 else 0) - (if x = 3600 then 1 else 0) : Int) = -((if x = 3600 then 1 else 0) - (if y = 3600 then 1 else 0)) := by omega
  have e2 : (if -900 ≤ y - x ∧ y - x ≤ 900 then 0 else c3 x y) = -(if -900 ≤ x - y ∧ x - y ≤ 900 then 0 else c3 y x) := by
    by_cases h : -900 ≤ x - y ∧ x - y ≤ 900
    · rw [if_pos h, if_pos (by omega)]; rfl
    · rw [if_neg h, if_neg (by omega), c3_neg y x]
  show f4 (c3 t s) (c3 q p) _ _ = 0 - f4 (c3 s t) (c3 p q) _ _
  rw [e1, e2, c3_neg s t, c3_neg p q, f4_neg]
  omega
theorem cmp_same (s p x : Int) : cmp s s p p x x = 0 := by
  unfold cmp f4 c3
  simp
theorem less (a b : Int × Int × Int × Unit) : lsa_Less.p (a, b, ()) = some (decide (f3 (c3 a.1 b.1) (c3 a.2.1 b.2.1) (c3 a.2.2.1 b.2.2.1) < 0), ()) := by
  unfold lsa_Less.p
  simp only [cmpI, cmpU, first3, Option.bind_some]
theorem lessR (a b : Int × Int × Int × Unit) : ref11_Less.p (a, b, ()) = some (decide (f3 (c3 a.1 b.1) (c3 a.2.1 b.2.1) (c3 a.2.2.1 b.2.2.1) < 0), ()) := by
  unfold ref11_Less.p f3 c3
  obtain ⟨x, y, z, _⟩ := a
  obtain ⟨x', y', z', _⟩ := b
  simp only [jn]
  by_cases h1 : x = x'
  · subst h1
    by_cases h2 : y = y'
    · subst h2
      by_cases h3 : z < z' <;> by_cases h4 : z' < z <;> simp [h3, h4] <;> omega
    · by_cases h3 : y < y'
      · have h4 : ¬ y' < y := by omega
        simp [h2, h3, h4]
      · have h4 : y' < y := by omega
        simp [h2, h3, h4]
  · by_cases h3 : x < x'
    · have h4 : ¬ x' < x := by omega
      simp [h1, h3, h4]
    · have h4 : x' < x := by omega
      simp [h1, h3, h4]
theorem f3_neg (p q r : Int) : f3 (-p) (-q) (-r) = - f3 p q r := by
  unfold f3
  by_cases h1 : p = 0
  · by_cases h2 : q = 0 <;> simp [h1, h2]
  · simp [h1]
theorem f3_zero {p q r : Int} (h : f3 p q r = 0) : p = 0 ∧ q = 0 ∧ r = 0 := by
  unfold f3 at h
  by_cases h1 : p = 0
  · by_cases h2 : q = 0
    · exact ⟨h1, h2, by simpa [h1, h2] using h⟩
    · simp [h1, h2] at h
  · simp [h1] at h
theorem less_total (x y z x' y' z' : Int) (h1 : ¬ f3 (c3 x x') (c3 y y') (c3 z z') < 0) (h2 : ¬ f3 (c3 x' x) (c3 y' y) (c3 z' z) < 0) : x = x' ∧ y = y' ∧ z = z' := by
  rw [c3_neg x x', c3_neg y y', c3_neg z z', f3_neg] at h2
  obtain ⟨q1, q2, q3⟩ := f3_zero (show f3 (c3 x x') (c3 y y') (c3 z z') = 0 by omega)
  exact ⟨c3_zero q1, c3_zero q2, c3_zero q3⟩
theorem LsaOrder_plain (a b : Int × Int × Int × Int × Int × Int × Int × Int × Unit) : law11_LsaOrder.p (a, b, ()) = some (true, ()) := by
  unfold law11_LsaOrder.p
  simp only [jn, alive, Option.bind_some, if_true]
  by_cases h1 : a.1 < 0
  · simp [h1]
  · by_cases h2 : a.1 > 3600
    · simp [h1, h2]
    · by_cases h3 : b.1 < 0
      · simp [h1, h2, h3]
      · by_cases h4 : b.1 > 3600
        · simp [h1, h2, h3, h4]
        · have ha : 0 ≤ a.1 ∧ a.1 ≤ 3600 := by omega
          have hb : 0 ≤ b.1 ∧ b.1 ≤ 3600 := by omega
          have k1 := compare a b ha hb
          have k2 := compareR a b ha hb
          have k3 := compare b a hb ha
          have k4 := compare a a ha ha
          rw [cmp_anti] at k3
          rw [cmp_same] at k4
          simp only [h1, h2, h3, h4, decide_false, Bool.false_eq_true, if_false, lsa_Key.p, less, lessR, k1, k2, k3, k4, Option.bind_some, decide_true, if_true, beq_self_eq_true, Bool.and_true]
          split
          · rfl
          · split
            · rfl
            · rename_i q1 q2
              obtain ⟨r1, r2, r3⟩ := less_total _ _ _ _ _ _ (by simpa using q1) (by simpa using q2)
              simp [r1, r2, r3]
end Go.Proofs.Ytmeppheikmgoeaa.F
