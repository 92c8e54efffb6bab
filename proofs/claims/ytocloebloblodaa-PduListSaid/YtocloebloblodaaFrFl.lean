/- Whole numbers below 2^53 as float64: sums are exact, and they come back. For the walk of sum's complex pairs. -/
import Derived.Laws.ComplexArith
import Derived.WalkLawsBesides
set_option linter.unusedVariables false
set_option linter.unusedSimpArgs false
set_option linter.unusedVariables false
namespace Go.Proofs.Fr.Fl
open Ieee

/-- The float64 of a natural number. -/
def fl (n : Nat) : Nat := double.nearest false n 0

theorem word_false (r : Nat) : double.word false r = r := by simp [Format.word]
theorem log_mul (N s : Nat) (hN : N ≠ 0) : (N * 2 ^ s).log2 = N.log2 + s := by
  have hp : 0 < 2 ^ s := Nat.two_pow_pos s
  rw [Nat.log2_eq_iff (Nat.mul_ne_zero hN (by omega))]
  constructor
  · rw [Nat.pow_add]
    exact Nat.mul_le_mul_right _ (Nat.log2_self_le hN)
  · rw [show N.log2 + s + 1 = (N.log2 + 1) + s by omega, Nat.pow_add 2 (N.log2 + 1) s]
    exact Nat.mul_lt_mul_of_pos_right Nat.lt_log2_self hp
theorem log_le (N : Nat) (hN : N ≠ 0) (h : N < 9007199254740992) : N.log2 ≤ 52 := by
  have := (Nat.log2_lt (k := 53) hN).2 h
  omega
theorem kept_range (N : Nat) (hN : N ≠ 0) (h : N < 9007199254740992) : 4503599627370496 ≤ N * 2 ^ (52 - N.log2) ∧ N * 2 ^ (52 - N.log2) < 9007199254740992 := by
  have hl := log_le N hN h
  have h1 : 2 ^ N.log2 * 2 ^ (52 - N.log2) = 4503599627370496 := by rw [← Nat.pow_add, show N.log2 + (52 - N.log2) = 52 by omega]
  have h2 : 2 ^ (N.log2 + 1) * 2 ^ (52 - N.log2) = 9007199254740992 := by rw [← Nat.pow_add, show N.log2 + 1 + (52 - N.log2) = 53 by omega]
  have hp : 0 < 2 ^ (52 - N.log2) := Nat.two_pow_pos _
  constructor
  · rw [← h1]; exact Nat.mul_le_mul_right _ (Nat.log2_self_le hN)
  · rw [← h2]; exact Nat.mul_lt_mul_of_pos_right Nat.lt_log2_self hp
theorem cut_exact (w : Toward) (M d : Nat) (hd : d ≤ (M * 2 ^ d).log2 + 2) : w.cut false (M * 2 ^ d) d = M := by
  have hp : 0 < 2 ^ d := Nat.two_pow_pos d
  unfold Toward.cut
  dsimp only
  rw [Nat.min_eq_left hd, Nat.shiftLeft_eq, Nat.one_mul, Nat.mul_mod_left, Nat.mul_div_cancel _ hp]
  cases w <;> simp <;> omega
theorem lp : double.leastPlace = -1074 := by decide
theorem fb : double.fractionBits = 52 := rfl
theorem bn : double.binade = 4503599627370496 := by decide
theorem ir : double.infRung = 9218868437227405312 := by decide
theorem sw : double.signWeight = 9223372036854775808 := by decide
theorem nearest_val (N s : Nat) (hN : N ≠ 0) (h : N < 9007199254740992) (hs : s ≤ 1074) :
    double.nearest false (N * 2 ^ s) (-(s : Int)) = (N.log2 + 1022) * 4503599627370496 + N * 2 ^ (52 - N.log2) := by
  have hp : 0 < 2 ^ s := Nat.two_pow_pos s
  have hl := log_le N hN h
  have hk := kept_range N hN h
  have hne : N * 2 ^ s ≠ 0 := Nat.mul_ne_zero hN (by omega)
  have hlast : max (-(s : Int) + ((N.log2 + s : Nat) : Int) - (52 : Nat)) (-1074) = (N.log2 : Int) - 52 := by omega
  unfold Format.nearest
  rw [if_neg hne, log_mul N s hN]
  simp only [fb, lp, hlast]
  have hkept : Toward.even.cut false ((N * 2 ^ s) <<< (-(s : Int) - ((N.log2 : Int) - 52)).toNat) ((N.log2 : Int) - 52 - -(s : Int)).toNat = N * 2 ^ (52 - N.log2) := by
    by_cases hc : s ≤ 52 - N.log2
    · have e1 : (-(s : Int) - ((N.log2 : Int) - 52)).toNat = 52 - N.log2 - s := by omega
      have e2 : ((N.log2 : Int) - 52 - -(s : Int)).toNat = 0 := by omega
      rw [e1, e2, Nat.shiftLeft_eq, Nat.mul_assoc, ← Nat.pow_add, show s + (52 - N.log2 - s) = 52 - N.log2 by omega]
      have := cut_exact .even (N * 2 ^ (52 - N.log2)) 0 (by omega)
      simpa using this
    · have e1 : (-(s : Int) - ((N.log2 : Int) - 52)).toNat = 0 := by omega
      have e2 : ((N.log2 : Int) - 52 - -(s : Int)).toNat = s - (52 - N.log2) := by omega
      rw [e1, e2, Nat.shiftLeft_eq, Nat.pow_zero, Nat.mul_one]
      have e3 : N * 2 ^ s = (N * 2 ^ (52 - N.log2)) * 2 ^ (s - (52 - N.log2)) := by
        rw [Nat.mul_assoc, ← Nat.pow_add]; congr 2; omega
      rw [e3]
      refine cut_exact .even _ _ ?_
      rw [← e3, log_mul N s hN]
      omega
  rw [hkept, word_false]
  have e4 : ((N.log2 : Int) - 52 - (-1074)).toNat = N.log2 + 1022 := by omega
  rw [e4, bn, ir, Nat.min_eq_left]
  omega
theorem fl_val (n : Nat) (hn : n ≠ 0) (h : n < 9007199254740992) : fl n = (n.log2 + 1022) * 4503599627370496 + n * 2 ^ (52 - n.log2) := by
  have h1 := nearest_val n 0 hn h (by omega)
  have e : (-((0 : Nat) : Int)) = 0 := by decide
  rw [e, Nat.pow_zero, Nat.mul_one] at h1
  exact h1
theorem fl_zero : fl 0 = 0 := by decide
theorem read_zero : double.read 0 = .number false 0 (-1074) := by decide
theorem read_fl (n : Nat) (hn : n ≠ 0) (h : n < 9007199254740992) : double.read (fl n) = .number false (n * 2 ^ (52 - n.log2)) ((n.log2 : Int) - 52) := by
  have hl := log_le n hn h
  obtain ⟨hk1, hk2⟩ := kept_range n hn h
  rw [fl_val n hn h]
  generalize hK : n * 2 ^ (52 - n.log2) = K at hk1 hk2
  generalize hL : n.log2 = L at hl
  have hlt : (L + 1022) * 4503599627370496 + K < 9218868437227405312 := by
    omega
  have hb : (L + 1022) * 4503599627370496 + K = (L + 1023) * 4503599627370496 + (K - 4503599627370496) := by omega
  unfold Format.read
  rw [sw, bn, ir]
  have d1 : ((L + 1022) * 4503599627370496 + K) / (9223372036854775808) = 0 := Nat.div_eq_of_lt (by omega)
  have d2 : ((L + 1022) * 4503599627370496 + K) % (9223372036854775808) = (L + 1022) * 4503599627370496 + K := Nat.mod_eq_of_lt (by omega)
  simp only [d1, d2]
  have h1 : ¬ ((L + 1022) * 4503599627370496 + K < 4503599627370496) := by omega
  rw [if_neg h1, if_pos hlt, hb]
  have d3 : ((L + 1023) * 4503599627370496 + (K - 4503599627370496)) % 4503599627370496 = K - 4503599627370496 := by
    rw [Nat.mul_add_mod_self_right]; exact Nat.mod_eq_of_lt (by omega)
  have d4 : ((L + 1023) * 4503599627370496 + (K - 4503599627370496)) / 4503599627370496 = L + 1023 := by
    rw [Nat.mul_comm, Nat.mul_add_div (by decide)]
    rw [Nat.div_eq_of_lt (by omega), Nat.add_zero]
  rw [d3, d4, lp]
  clear d1 d2 d3 d4 hb hlt h1
  have e1 : 4503599627370496 + (K - 4503599627370496) = K := by omega
  have e2 : (-1074 + ((L + 1023 - 1 : Nat) : Int)) = (L : Int) - 52 := by clear e1 hk1 hk2; omega
  rw [e1, e2]
  rfl
/-- What a word of ours stands for, whatever its place: n = m * 2^place. -/
theorem read_place (n : Nat) (h : n < 9007199254740992) : ∃ (m : Nat) (s : Nat), s ≤ 1074 ∧ double.read (fl n) = .number false m (-(s : Int)) ∧ m = n * 2 ^ s := by
  by_cases hn : n = 0
  · subst hn
    obtain ⟨s, hs⟩ : ∃ s : Nat, s = 1074 := ⟨_, rfl⟩
    exact ⟨0, s, by omega, by rw [fl_zero, read_zero, hs]; rfl, by simp⟩
  · have hl := log_le n hn h
    refine ⟨_, 52 - n.log2, by omega, ?_, rfl⟩
    rw [read_fl n hn h]
    congr 1
    omega
theorem signed_false (m u : Nat) : signed false m u = ((m * 2 ^ u : Nat) : Int) := by simp [signed, Nat.shiftLeft_eq]
theorem add_fl (a b : Nat) (h : a + b < 9007199254740992) : floatBits .add .f64 (fl a) (fl b) = some (fl (a + b)) := by
  obtain ⟨m, s, hs, hr, hm⟩ := read_place a (by omega)
  obtain ⟨m', s', hs', hr', hm'⟩ := read_place b (by omega)
  show double.add (fl a) (fl b) = _
  unfold Format.add
  rw [hr, hr']
  simp only [Datum.sum, Option.map_some, signed_false]
  congr 1
  obtain ⟨t, ht1, ht2, ht3⟩ : ∃ t : Nat, min (-(s : Int)) (-(s' : Int)) = -(t : Int) ∧ (-(s : Int) - -(t : Int)).toNat = t - s ∧ (-(s' : Int) - -(t : Int)).toNat = t - s' := ⟨max s s', by omega, by omega, by omega⟩
  have ht : s ≤ t ∧ s' ≤ t ∧ t ≤ 1074 := by omega
  rw [ht1, ht2, ht3, hm, hm']
  have e1 : a * 2 ^ s * 2 ^ (t - s) = a * 2 ^ t := by rw [Nat.mul_assoc, ← Nat.pow_add]; congr 2; omega
  have e2 : b * 2 ^ s' * 2 ^ (t - s') = b * 2 ^ t := by rw [Nat.mul_assoc, ← Nat.pow_add]; congr 2; omega
  rw [e1, e2]
  have e3 : ((a * 2 ^ t : Nat) : Int) + ((b * 2 ^ t : Nat) : Int) = (((a + b) * 2 ^ t : Nat) : Int) := by rw [Nat.add_mul]; omega
  rw [e3]
  have hp : 0 < 2 ^ t := Nat.two_pow_pos t
  by_cases h0 : a + b = 0
  · rw [h0]
    simp [Format.write, Format.nearest, fl, Format.word]
  · have hne : (((a + b) * 2 ^ t : Nat) : Int) ≠ 0 := by
      have : (a + b) * 2 ^ t ≠ 0 := Nat.mul_ne_zero h0 (by omega)
      omega
    rw [if_neg hne]
    have hneg : decide ((((a + b) * 2 ^ t : Nat) : Int) < 0) = false := decide_eq_false (by omega)
    rw [hneg, Int.natAbs_natCast]
    show double.nearest false ((a + b) * 2 ^ t) (-(t : Int)) = fl (a + b)
    rw [nearest_val (a + b) t h0 h ht.2.2, fl_val (a + b) h0 h]
theorem toInt_fl (n : Nat) (h : n < 9007199254740992) : floatToIntVal .f64 (fl n) .i64 = some (n : Int) := by
  obtain ⟨m, s, hs, hr, hm⟩ := read_place n h
  unfold floatToIntVal FloatKind.decode
  have hi : (double.read (fl n)).toInt .zero = some (n : Int) := by
    rw [hr]
    unfold Datum.toInt Datum.integral
    simp only [signed_false]
    have e1 : (-(s : Int)).toNat = 0 := by omega
    have e2 : (- -(s : Int)).toNat = s := by omega
    rw [e1, e2, Nat.shiftLeft_eq, Nat.pow_zero, Nat.mul_one, Nat.mul_one, hm]
    congr 1
    by_cases hn : n = 0
    · subst hn
      simp [Toward.cut]
    · by_cases hc : s ≤ (n * 2 ^ s).log2 + 2
      · rw [cut_exact .zero n s hc]
      · rw [log_mul n s hn] at hc
        omega
  show (match (double.read (fl n)).toInt .zero with | some n => if IntKind.i64.min ≤ n ∧ n ≤ IntKind.i64.max then some n else none | none => none) = _
  rw [hi]
  have : IntKind.i64.min ≤ (n : Int) ∧ (n : Int) ≤ IntKind.i64.max := by
    simp [IntKind.min, IntKind.max, IntKind.signed, IntKind.bits]; omega
  simp only [this, and_self, if_true]
theorem of_int (n : Nat) : floatOfInt .f64 (n : Int) = fl n := by
  unfold floatOfInt FloatKind.nearest FloatKind.encode
  have : decide ((n : Int) < 0) = false := by simp
  rw [this, Int.natAbs_natCast]
  rfl
theorem order_zero (n : Nat) (h : n < 9007199254740992) : (FloatKind.f64.format.order (fl n) 0 == some .eq) = decide (n = 0) := by
  obtain ⟨m, s, hs, hr, hm⟩ := read_place n h
  show (((double.read (fl n)).order (double.read 0)) == some .eq) = _
  rw [hr, read_zero]
  simp only [Datum.order, signed_false, Nat.zero_mul]
  rw [Bool.eq_iff_iff]
  simp only [beq_iff_eq, Option.some.injEq, decide_eq_true_eq]
  have hcmp : ∀ x y : Int, compare x y = Ordering.eq ↔ x = y := by
    intro x y
    show compareOfLessAndEq x y = Ordering.eq ↔ x = y
    unfold compareOfLessAndEq
    split
    · simp; omega
    · split <;> simp_all
  rw [hcmp]
  have hp : 0 < 2 ^ s := Nat.two_pow_pos s
  have hp2 : 0 < 2 ^ (-(s : Int) - min (-(s : Int)) (-1074)).toNat := Nat.two_pow_pos _
  rw [hm]
  constructor
  · intro h2
    have : n * 2 ^ s * 2 ^ (-(s : Int) - min (-(s : Int)) (-1074)).toNat = 0 := Int.ofNat.inj h2
    simp only [Nat.mul_eq_zero] at this
    omega
  · rintro rfl
    simp
end Go.Proofs.Fr.Fl
