/- Fletcher's pair: the mathematics, and what sum and its reference compute. -/
import Derived.Test.YtocloebloblodaaLBase
set_option maxRecDepth 100000
set_option linter.unusedVariables false
set_option linter.unusedSimpArgs false
open Go Go.Proofs.Fr
namespace Go.Proofs.Ytocloebloblodaa.F
theorem snoc_ind {α : Type} {P : List α → Prop} (h0 : P []) (hs : ∀ l c, P l → P (l ++ [c])) (l : List α) : P l := by
  have key : ∀ m : List α, P m.reverse := by
    intro m
    induction m with
    | nil => exact h0
    | cons a m ih => rw [List.reverse_cons]; exact hs _ _ ih
  have := key l.reverse
  rwa [List.reverse_reverse] at this
theorem byts_set {l : List Int} (h : By l) (i : Nat) (x : Int) (hx : 0 ≤ x ∧ x ≤ 255) : By (l.set i x) := by
  intro y hy
  rcases List.mem_or_eq_of_mem_set hy with hy | rfl
  · exact h y hy
  · exact hx
def S1 : List Int → Int
  | [] => 0
  | a :: l => a + S1 l
def S2 : List Int → Int
  | [] => 0
  | a :: l => ((l.length : Int) + 1) * a + S2 l
theorem S1_snoc (l : List Int) (c : Int) : S1 (l ++ [c]) = S1 l + c := by
  induction l with
  | nil => simp [S1]
  | cons a l ih => simp only [List.cons_append, S1, ih]; omega
theorem S2_snoc (l : List Int) (c : Int) : S2 (l ++ [c]) = S2 l + S1 l + c := by
  induction l with
  | nil => simp [S1, S2]
  | cons a l ih =>
    simp only [List.cons_append, S1, S2, ih, List.length_append, List.length_cons, List.length_nil]
    grind
theorem S1_set : ∀ (l : List Int) (i : Nat) (x : Int), i < l.length → S1 (l.set i x) = S1 l - rd l i + x
  | [], i, x, h => by simp at h
  | a :: l, 0, x, _ => by simp [S1, rd]; omega
  | a :: l, i + 1, x, h => by
    have ih := S1_set l i x (by simpa using h)
    have e : rd (a :: l) (i + 1) = rd l i := by simp [rd]
    rw [e]
    simp only [List.set_cons_succ, S1, ih]
    omega
theorem S2_set : ∀ (l : List Int) (i : Nat) (x : Int), i < l.length → S2 (l.set i x) = S2 l + ((l.length : Int) - i) * (x - rd l i)
  | [], i, x, h => by simp at h
  | a :: l, 0, x, _ => by
    have e : rd (a :: l) 0 = a := by simp [rd]
    rw [e]
    simp only [List.set_cons_zero, S2, List.length_cons]
    grind
  | a :: l, i + 1, x, h => by
    have ih := S2_set l i x (by simpa using h)
    have e : rd (a :: l) (i + 1) = rd l i := by simp [rd]
    rw [e]
    simp only [List.set_cons_succ, S2, ih, List.length_cons, List.length_set]
    grind
theorem rd_set_self (l : List Int) (i : Nat) (x : Int) (h : i < l.length) : rd (l.set i x) i = x := by simp [rd, List.getD_eq_getElem?_getD, h]
theorem rd_set_ne (l : List Int) (i j : Nat) (x : Int) (h : i ≠ j) : rd (l.set i x) j = rd l j := by simp [rd, List.getD_eq_getElem?_getD, List.getElem?_set_ne h]
/-- Two places of a row set anew. -/
def set2 (l : List Int) (i : Nat) (x y : Int) : List Int := (l.set i x).set (i + 1) y
theorem set2_length (l : List Int) (i : Nat) (x y : Int) : (set2 l i x y).length = l.length := by simp [set2]
theorem S1_set2 (l : List Int) (i : Nat) (x y : Int) (h : i + 1 < l.length) (h0 : rd l i = 0) (h1 : rd l (i + 1) = 0) : S1 (set2 l i x y) = S1 l + x + y := by
  unfold set2
  rw [S1_set _ _ _ (by simp; omega), S1_set _ _ _ (by omega), rd_set_ne _ _ _ _ (by omega), h0, h1]
  omega
theorem S2_set2 (l : List Int) (i : Nat) (x y : Int) (h : i + 1 < l.length) (h0 : rd l i = 0) (h1 : rd l (i + 1) = 0) : S2 (set2 l i x y) = S2 l + ((l.length : Int) - i) * x + ((l.length : Int) - i - 1) * y := by
  unfold set2
  rw [S2_set _ _ _ (by simp; omega), S2_set _ _ _ (by omega), rd_set_ne _ _ _ _ (by omega), h0, h1]
  simp only [List.length_set]
  have : ((i + 1 : Nat) : Int) = (i : Int) + 1 := by omega
  rw [this]
  grind
/-- A number of 1 to 255 of the same rest. -/
def res (n : Int) : Int := if n % 255 = 0 then 255 else n % 255
theorem res_range (n : Int) : 1 ≤ res n ∧ res n ≤ 255 := by unfold res; split <;> omega
theorem res_mod (n : Int) : res n % 255 = n % 255 := by unfold res; split <;> omega
theorem res_unique (n x : Int) (h1 : 1 ≤ x) (h2 : x ≤ 255) (h : x % 255 = n % 255) : x = res n := by unfold res; split <;> omega
theorem mod_ex (a b : Int) (h : a % 255 = b % 255) : ∃ t, a = b + 255 * t := ⟨(a - b) / 255, by omega⟩
theorem ex_mod (a b t : Int) (h : a = b + 255 * t) : a % 255 = b % 255 := by omega
/-- What is placed fits. -/
theorem place_fits (l : List Int) (i : Nat) (c d : Int) (h : i + 1 < l.length) (h0 : rd l i = 0) (h1 : rd l (i + 1) = 0) (hc : S1 l % 255 = c % 255) (hd : S2 l % 255 = d % 255) :
    S1 (set2 l i (res (((l.length : Int) - i - 1) * c - d)) (res (d - (((l.length : Int) - i - 1) + 1) * c))) % 255 = 0 ∧ S2 (set2 l i (res (((l.length : Int) - i - 1) * c - d)) (res (d - (((l.length : Int) - i - 1) + 1) * c))) % 255 = 0 := by
  obtain ⟨A, hA⟩ : ∃ A : Int, A = (l.length : Int) - i - 1 := ⟨_, rfl⟩
  rw [← hA]
  obtain ⟨t1, ht1⟩ := mod_ex _ _ (res_mod (A * c - d))
  obtain ⟨t2, ht2⟩ := mod_ex _ _ (res_mod (d - (A + 1) * c))
  obtain ⟨s1, hs1⟩ := mod_ex _ _ hc
  obtain ⟨s2, hs2⟩ := mod_ex _ _ hd
  rw [S1_set2 l i _ _ h h0 h1, S2_set2 l i _ _ h h0 h1, ht1, ht2, hs1, hs2]
  have e : (l.length : Int) - i = A + 1 := by omega
  rw [e]
  constructor
  · have : c + 255 * s1 + (A * c - d + 255 * t1) + (d - (A + 1) * c + 255 * t2) = 255 * (s1 + t1 + t2) := by grind
    omega
  · have : d + 255 * s2 + (A + 1) * (A * c - d + 255 * t1) + (A + 1 - 1) * (d - (A + 1) * c + 255 * t2) = 255 * (s2 + (A + 1) * t1 + A * t2) := by grind
    omega
/-- Of all pairs just that one fits. -/
theorem place_only (A c d x y : Int) (hx : 1 ≤ x ∧ x ≤ 255) (hy : y % 255 = (510 - c - x) % 255) (hy1 : 1 ≤ y ∧ y ≤ 255) (h : (d + x * (A + 1) + y * A) % 255 = 0) : x = res (A * c - d) ∧ y = res (d - (A + 1) * c) := by
  obtain ⟨t, ht⟩ := mod_ex _ _ hy
  obtain ⟨s, hs⟩ : ∃ s, d + x * (A + 1) + y * A = 255 * s := ⟨(d + x * (A + 1) + y * A) / 255, by omega⟩
  have hx2 : x = (A * c - d) + 255 * (s - A * 2 - A * t) := by rw [ht] at hs; grind
  have hy2 : y = (d - (A + 1) * c) + 255 * (2 + t - (s - A * 2 - A * t)) := by rw [ht]; grind
  exact ⟨res_unique _ _ hx.1 hx.2 (ex_mod _ _ _ hx2), res_unique _ _ hy1.1 hy1.2 (ex_mod _ _ _ hy2)⟩
theorem place_is (A c d x y : Int) (hx : x = res (A * c - d)) (hy : y % 255 = (510 - c - x) % 255) : (d + x * (A + 1) + y * A) % 255 = 0 := by
  obtain ⟨t, ht⟩ := mod_ex _ _ hy
  obtain ⟨s, hs⟩ := mod_ex _ _ (res_mod (A * c - d))
  rw [← hx] at hs
  have : d + x * (A + 1) + y * A = 255 * (s + A * 2 + A * t) := by rw [ht]; grind
  omega

/-- Whether a row fits. -/
def fitsF (l : List Int) : Bool := decide (S1 l % 255 = 0) && decide (S2 l % 255 = 0)
theorem prP_snoc (l : List Int) (c : Int) : sum_prP (l ++ [c]) = (((sum_prP l).1 + c.toNat) % 255, ((sum_prP l).2 + (sum_prP l).1 + c.toNat) % 255) := by simp [sum_prP]
theorem byts_ok {l : List Int} (h : By l) : sum_bytesP l = true := by
  unfold sum_bytesP
  rw [List.all_eq_true]
  intro x hx
  simpa using h x hx
theorem pr_eq (l : List Int) : By l → ((sum_prP l).1 : Int) = S1 l % 255 ∧ ((sum_prP l).2 : Int) = S2 l % 255 := by
  induction l using snoc_ind with
  | h0 => intro _; simp [sum_prP, S1, S2]
  | hs l c ih =>
    intro h
    have hc := h c (by simp)
    obtain ⟨i1, i2⟩ := ih (fun x hx => h x (by simp [hx]))
    rw [prP_snoc, S1_snoc, S2_snoc]
    simp only
    omega
theorem Pair_eq {l : List Int} (h : By l) (hl : l.length ≤ 4611686018427387904) : sum_Pair.p (l, ()) = some (S1 l % 255, S2 l % 255, ()) := by
  unfold sum_Pair.p
  simp only [hl, if_true, byts_ok h, (pr_eq l h).1, (pr_eq l h).2, Option.map_some]
theorem Fits_eq {l : List Int} (h : By l) (hl : l.length ≤ 4611686018427387904) : sum_Fits.p (l, ()) = some (fitsF l, ()) := by
  obtain ⟨h1, h2⟩ := pr_eq l h
  have e1 : decide ((sum_prP l).1 = 0) = decide (S1 l % 255 = 0) := by rw [← h1]; simp
  have e2 : decide ((sum_prP l).2 = 0) = decide (S2 l % 255 = 0) := by rw [← h2]; simp
  unfold sum_Fits.p fitsF
  simp only [hl, if_true, byts_ok h, e1, e2, Option.map_some]
theorem residue_eq (n : Int) : sum_residue.p (n, ()) = some (res n, ()) := by
  have e : Int.tmod (IntKind.i64.wrap (Int.tmod n 255 + 255)) 255 = n % 255 := by
    have h1 : -255 < Int.tmod n 255 ∧ Int.tmod n 255 < 255 := ⟨Int.lt_tmod_of_pos n (by decide), Int.tmod_lt_of_pos n (by decide)⟩
    have h2 := Int.tmod_add_mul_tdiv n 255
    rw [w64 (by omega), Int.tmod_eq_emod_of_nonneg (by omega)]
    omega
  unfold sum_residue.p res
  simp only [e]
  by_cases h : n % 255 = 0
  · simp [h]
  · rw [if_neg (by simpa using h), if_neg h, wu8, show n % 255 % 256 = n % 255 by omega]
/-- A row with its pair placed. -/
def place (l : List Int) (at_ : Int) : List Int × Int × Unit :=
  if at_ < 0 ∨ at_ > (l.length : Int) - 2 ∨ l.length > 4000 then ([], 1, ())
  else (set2 l at_.toNat (res (((l.length : Int) - at_ - 1) * (S1 (set2 l at_.toNat 0 0) % 255) - S2 (set2 l at_.toNat 0 0) % 255)) (res (S2 (set2 l at_.toNat 0 0) % 255 - (((l.length : Int) - at_ - 1) + 1) * (S1 (set2 l at_.toNat 0 0) % 255))), 0, ())
theorem set2_twice (l : List Int) (i : Nat) (a b x y : Int) : set2 (set2 l i a b) i x y = set2 l i x y := by
  unfold set2
  rw [List.set_comm b x (by omega), List.set_set, List.set_set]
theorem set2_zero (l : List Int) (i : Nat) (h : i + 1 < l.length) : rd (set2 l i 0 0) i = 0 ∧ rd (set2 l i 0 0) (i + 1) = 0 := by
  unfold set2
  rw [rd_set_ne _ _ _ _ (by omega), rd_set_self _ _ _ (by omega), rd_set_self _ _ _ (by simp; omega)]
  exact ⟨rfl, rfl⟩
theorem byts_set2 {l : List Int} (h : By l) (i : Nat) {x y : Int} (hx : 0 ≤ x ∧ x ≤ 255) (hy : 0 ≤ y ∧ y ≤ 255) : By (set2 l i x y) := byts_set (byts_set h _ _ hx) _ _ hy
theorem Place_eq {l : List Int} (hb : By l) (hl : l.length < 1000000000) (a : Int) (ha : -9223372036854775808 ≤ a ∧ a ≤ 9223372036854775807) : sum_Place.p (l, a, ()) = some (place l a) := by
  unfold sum_Place.p place
  simp only [jn_eq]
  rw [w64 (x := (l.length : Int) - 2) (by omega)]
  by_cases h1 : a < 0
  · rw [if_pos (by simpa using h1), if_pos trivial, if_pos (show a < 0 ∨ a > (l.length : Int) - 2 ∨ l.length > 4000 from .inl h1)]
  · rw [if_neg (by simpa using h1)]
    by_cases h2 : a > (l.length : Int) - 2
    · rw [if_pos (by simpa using h2), if_pos trivial, if_pos (show a < 0 ∨ a > (l.length : Int) - 2 ∨ l.length > 4000 from .inr (.inl h2))]
    · rw [if_neg (by simpa using h2)]
      by_cases h3 : l.length > 4000
      · rw [if_pos (by simp; omega), if_pos (show a < 0 ∨ a > (l.length : Int) - 2 ∨ l.length > 4000 from .inr (.inr h3))]
      · rw [if_neg (by simp; omega), if_neg (show ¬ (a < 0 ∨ a > (l.length : Int) - 2 ∨ l.length > 4000) by omega)]
        obtain ⟨i, rfl⟩ := Int.eq_ofNat_of_zero_le (show 0 ≤ a by omega)
        have hi : i + 1 < l.length := by omega
        have hw1 : IntKind.i64.wrap ((i : Int) + 1) = ((i + 1 : Nat) : Int) := by rw [w64 (by omega)]; omega
        have hy : (l.set i 0).set (i + 1) 0 = set2 l i 0 0 := rfl
        have hz := set2_length l i 0 0
        have hbz : By (set2 l i 0 0) := byts_set2 hb i (by omega) (by omega)
        unfold bytes_Clone.p
        rw [if_pos (by simp [maxBytes]; omega)]
        simp only [Option.bind_some, Int.toNat_natCast, hw1, hy]
        rw [if_pos (by omega), if_pos (by simp; omega), Pair_eq hbz (by omega)]
        simp only [Option.bind_some, hz]
        obtain ⟨c, hc⟩ : ∃ c, c = S1 (set2 l i 0 0) % 255 := ⟨_, rfl⟩
        obtain ⟨d, hd⟩ : ∃ d, d = S2 (set2 l i 0 0) % 255 := ⟨_, rfl⟩
        rw [← hc, ← hd]
        have hcr : 0 ≤ c ∧ c < 255 := by omega
        have hdr : 0 ≤ d ∧ d < 255 := by omega
        obtain ⟨A, hA⟩ : ∃ A : Int, A = (l.length : Int) - (i : Int) - 1 := ⟨_, rfl⟩
        have hAr : 0 ≤ A ∧ A ≤ 4000 := by omega
        have m1 : 0 ≤ A * c ∧ A * c ≤ 4000 * 255 := ⟨Int.mul_nonneg hAr.1 hcr.1, Int.mul_le_mul hAr.2 (by omega) hcr.1 (by omega)⟩
        have m2 : 0 ≤ (A + 1) * c ∧ (A + 1) * c ≤ 4001 * 255 := ⟨Int.mul_nonneg (by omega) hcr.1, Int.mul_le_mul (by omega) (by omega) hcr.1 (by omega)⟩
        rw [w64 (x := (l.length : Int) - (i : Int)) (by omega), w64 (x := (l.length : Int) - (i : Int) - 1) (by omega), ← hA, w64 (x := A * c) (by omega), w64 (x := A * c - d) (by omega), w64 (x := A + 1) (by omega), w64 (x := (A + 1) * c) (by omega), w64 (x := d - (A + 1) * c) (by omega)]
        rw [residue_eq, residue_eq]
        simp only [Option.bind_some]
        rw [if_pos (by omega), if_pos (by simp [hz]; omega)]
        have := set2_twice l i 0 0 (res (A * c - d)) (res (d - (A + 1) * c))
        rw [← this]
        rfl
theorem place_no {l : List Int} {a : Int} (h : a < 0 ∨ a > (l.length : Int) - 2 ∨ l.length > 4000) : place l a = ([], 1, ()) := by unfold place; rw [if_pos h]
theorem place_yes {l : List Int} {a : Int} (h : ¬ (a < 0 ∨ a > (l.length : Int) - 2 ∨ l.length > 4000)) : ∃ (i : Nat) (x y : Int), a = i ∧ i + 1 < l.length ∧ (1 ≤ x ∧ x ≤ 255) ∧ (1 ≤ y ∧ y ≤ 255) ∧ place l a = (set2 l i x y, 0, ()) ∧ fitsF (set2 l i x y) = true := by
  obtain ⟨i, rfl⟩ := Int.eq_ofNat_of_zero_le (show 0 ≤ a by omega)
  have hi : i + 1 < l.length := by omega
  obtain ⟨z0, z1⟩ := set2_zero l i hi
  have hf := place_fits (set2 l i 0 0) i (S1 (set2 l i 0 0) % 255) (S2 (set2 l i 0 0) % 255) (by rw [set2_length]; exact hi) z0 z1 (by omega) (by omega)
  rw [set2_length, set2_twice] at hf
  refine ⟨i, res (((l.length : Int) - i - 1) * (S1 (set2 l i 0 0) % 255) - S2 (set2 l i 0 0) % 255), res (S2 (set2 l i 0 0) % 255 - (((l.length : Int) - i - 1) + 1) * (S1 (set2 l i 0 0) % 255)), rfl, hi, res_range _, res_range _, ?_, ?_⟩
  · unfold place
    rw [if_neg h]
    rfl
  · unfold fitsF
    simp only [hf.1, hf.2, decide_true, Bool.and_self]
theorem xor_255 (a b : Int) (ha : 0 ≤ a ∧ a ≤ 255) (h : (a = 0 ∧ b = 255) ∨ (a = 255 ∧ b = 0)) : ibits .xor .u8 a b = 255 := by
  rcases h with ⟨rfl, rfl⟩ | ⟨rfl, rfl⟩ <;> decide
/-- One byte that is another one, but 0 for 255: it does not fit. -/
theorem spoilt_fits (l : List Int) (i : Nat) (c : Int) (hi : i < l.length) (hb : By l) (hc : 0 ≤ c ∧ c ≤ 255) (h1 : fitsF l = true) (h2 : fitsF (l.set i c) = true) : rd l i = c ∨ (ibits .xor .u8 (rd l i) c = 255 ∧ (c = 0 ∨ c = 255)) := by
  have hm := hb.at i hi
  unfold fitsF at h1 h2
  simp only [Bool.and_eq_true, decide_eq_true_eq] at h1 h2
  rw [S1_set l i c hi] at h2
  have h3 := h1.1
  have h4 := h2.1
  by_cases e : rd l i = c
  · exact .inl e
  · refine .inr ⟨xor_255 _ _ hm ?_, ?_⟩ <;> omega
end Go.Proofs.Ytocloebloblodaa.F
