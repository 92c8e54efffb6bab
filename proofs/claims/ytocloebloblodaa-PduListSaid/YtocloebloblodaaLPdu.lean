/- Packets: their types, what opens them, states as bytes and back. -/
import Derived.Test.YtocloebloblodaaLTlv
import Derived.Test.YtocloebloblodaaLPlace
set_option maxRecDepth 100000
set_option linter.unusedVariables false
set_option linter.unusedSimpArgs false
open Go Go.Proofs.Fr
namespace Go.Proofs.Ytocloebloblodaa.F
def hdO (k : Int) : Int := if k = 17 then 20 else if k = 18 ∨ k = 20 then 27 else if k = 24 ∨ k = 25 then 33 else if k = 26 ∨ k = 27 then 17 else 0
theorem headOf_eq (k : Int) : pdu_headOf.p (k, ()) = some (hdO k, ()) := by
  unfold pdu_headOf.p hdO
  simp only [jn_eq]
  by_cases h1 : k = 17
  · simp [h1]
  · by_cases h2 : k = 18
    · simp [h2]
    · by_cases h3 : k = 20
      · simp [h3]
      · by_cases h4 : k = 24
        · simp [h4]
        · by_cases h5 : k = 25
          · simp [h5]
          · by_cases h6 : k = 26
            · simp [h6]
            · by_cases h7 : k = 27 <;> simp [h1, h2, h3, h4, h5, h6, h7]
theorem rheadOf_eq (k : Int) : ref22_headOf.p (k, ()) = some (hdO k, ()) := by
  unfold ref22_headOf.p hdO
  simp only [jn_eq]
  by_cases h1 : k = 17
  · simp [h1]
  · by_cases h2 : k = 18
    · simp [h2]
    · by_cases h3 : k = 20
      · simp [h3]
      · by_cases h4 : k = 24
        · simp [h4]
        · by_cases h5 : k = 25
          · simp [h5]
          · by_cases h6 : k = 26
            · simp [h6]
            · by_cases h7 : k = 27 <;> simp [h1, h2, h3, h4, h5, h6, h7]
theorem hdO_range (k : Int) : 0 ≤ hdO k ∧ hdO k ≤ 33 := by
  unfold hdO
  split
  · omega
  · split
    · omega
    · split
      · omega
      · split <;> omega
theorem hdO_17 {k : Int} (h : hdO k ≠ 0) : 17 ≤ hdO k ∧ 17 ≤ k ∧ k ≤ 27 := by
  unfold hdO at h ⊢
  split
  · omega
  · split
    · omega
    · split
      · omega
      · split
        · omega
        · rename_i a b c d; rw [if_neg a, if_neg b, if_neg c, if_neg d] at h; exact absurd rfl h
theorem isIn_eq (n m : Int) : pdu_isIn.p (n, m, ()) = some (decide (0 ≤ n ∧ n ≤ m), ()) := by
  unfold pdu_isIn.p
  by_cases h : n ≥ 0
  · have h' : 0 ≤ n := h
    simp [jn_eq, h, h']
  · have h' : ¬ 0 ≤ n := h
    simp [jn_eq, h, h']
theorem rshort_eq (n : Int) : ref22_short.p (n, ()) = some (decide (0 ≤ n ∧ n ≤ 65535), ()) := by
  unfold ref22_short.p
  by_cases h : n ≥ 0
  · have h' : 0 ≤ n := h
    simp [jn_eq, h, h']
  · have h' : ¬ 0 ≤ n := h
    simp [jn_eq, h, h']
/-- The first bytes of a packet of a type. -/
def beg (k : Int) : List Int := [131, hdO k, 1, 0, k, 1, 0, 0]
theorem begin_eq (k : Int) (hk : 0 ≤ k ∧ k ≤ 255) : pdu_begin.p (k, ()) = some (beg k, ()) := by
  unfold pdu_begin.p beg
  have := hdO_range k
  simp only [headOf_eq, bind_eq]
  rw [wu8, wu8, show hdO k % 256 = hdO k by omega, show k % 256 = k by omega]
theorem rbegin_eq (k : Int) (hk : 0 ≤ k ∧ k ≤ 255) : ref22_begin.p (hdO k, k, ()) = some (beg k, ()) := by
  unfold ref22_begin.p beg
  have := hdO_range k
  simp only []
  rw [wu8, wu8, show hdO k % 256 = hdO k by omega, show k % 256 = k by omega]
def okK (b : List Int) : Bool := decide (hdO (rd b 4) ≠ 0) && decide (strOfNums (b.take 8) = strOfNums (beg (rd b 4)))
def kindR (b : List Int) : Int × Int × Unit := if b.length < 8 then (0, 2, ()) else if okK b = true then (rd b 4, 0, ()) else (0, 3, ())
theorem kind_eq (b : List Int) (hb : By b) (hl : b.length ≤ 1000000) : pdu_Kind.p (b, ()) = some (kindR b) := by
  unfold pdu_Kind.p kindR okK
  simp only [jn_eq]
  by_cases h8 : b.length < 8
  · rw [if_pos (by simp only [decide_eq_true_eq]; omega), if_pos h8]
  · have e4 : (4 : Int).toNat = 4 := rfl
    have e0 : (0 : Int).toNat = 0 := rfl
    have e8 : (8 : Int).toNat = 8 := rfl
    have b4 := hb.at 4 (by omega)
    rw [if_neg (by simp only [decide_eq_true_eq]; omega), if_neg h8, if_pos (by omega)]
    simp only [e4, e0, e8, List.drop_zero]
    rw [w64 (x := rd b 4) (by omega), headOf_eq, begin_eq _ b4]
    simp only [bind_eq, bytes_Equal.p]
    by_cases hk : hdO (rd b 4) = 0
    · simp [hk]
    · simp only [hk, ne_eq, not_false_eq_true, decide_true, decide_false, Bool.false_eq_true, if_false, Bool.true_and]
      rw [if_pos (by omega)]
      cases decide (strOfNums (List.take 8 b) = strOfNums (beg (rd b 4))) <;> rfl
theorem rkind_eq (b : List Int) (hb : By b) (hl : b.length ≤ 1000000) : ref22_Kind.p (b, ()) = some (kindR b) := by
  unfold ref22_Kind.p kindR okK
  simp only [jn_eq]
  by_cases h8 : b.length < 8
  · rw [if_pos (by simp only [decide_eq_true_eq]; omega), if_pos h8]
  · have e4 : (4 : Int).toNat = 4 := rfl
    have e0 : (0 : Int).toNat = 0 := rfl
    have e8 : (8 : Int).toNat = 8 := rfl
    have b4 := hb.at 4 (by omega)
    have bn : (0 : Int) ≤ 4 ∧ (4 : Int) < (b.length : Int) := by omega
    have bn8 : (0 : Int) ≤ 0 ∧ (0 : Int) ≤ 8 ∧ (8 : Int) ≤ (b.length : Int) := by omega
    rw [if_neg (by simp only [decide_eq_true_eq]; omega), if_neg h8]
    simp only [bn, bn8, and_self, if_true, e4, e0, e8, List.drop_zero]
    rw [w64 (x := rd b 4) (by omega), rheadOf_eq]
    simp only [bind_eq]
    rw [rbegin_eq _ b4]
    by_cases hk : hdO (rd b 4) = 0
    · simp [hk]
    · simp only [hk, bind_eq, ne_eq, not_false_eq_true, decide_true, decide_false, Bool.false_eq_true, if_false, Bool.true_and]
      cases decide (strOfNums (List.take 8 b) = strOfNums (beg (rd b 4))) <;> rfl
/-- What is fixed in a head, and the length. -/
def wr (k : Int) (b : List Int) : Bool :=
  if k = 17 then decide (rd b 17 * 256 + rd b 18 = (b.length : Int) ∧ b.length ≤ 1492 ∧ 1 ≤ rd b 8 ∧ rd b 8 ≤ 3)
  else if k = 18 ∨ k = 20 then decide (rd b 8 * 256 + rd b 9 = (b.length : Int) ∧ b.length ≤ 1492 ∧ rd b 26 % 4 = k - 17)
  else decide (rd b 8 * 256 + rd b 9 = (b.length : Int) ∧ b.length ≤ 1492 ∧ rd b 16 = 0)
theorem long_eq {x y : Int} (hx : 0 ≤ x ∧ x ≤ 255) (hy : 0 ≤ y ∧ y ≤ 255) : ibits .or .i64 (IntKind.i64.wrap ((IntKind.i64.wrap x) * 2 ^ 8)) (IntKind.i64.wrap y) = x * 256 + y := by
  rw [w64 (x := x) (by omega), w64 (x := y) (by omega), w64 (x := x * 2 ^ 8) (by omega), or_add .i64 8 (by simp [IntKind.bits]; omega) (by omega) (by omega) (by simp [IntKind.bits]), w64 (by omega)]
  omega
theorem and3_eq {x : Int} (hx : 0 ≤ x ∧ x ≤ 255) : ibits .and .u8 x 3 = x % 4 := by
  have := and_modK .u8 2 (x := x) (by simp [IntKind.bits]; omega) (by simp [IntKind.bits])
  rw [show ((2 ^ 2 - 1 : Nat) : Int) = 3 by decide] at this
  rw [this, wu8]
  omega
theorem written_eq (k : Int) (b : List Int) (hb : By b) (hl : b.length ≤ 1000000) (hk : hdO k ≠ 0) (h : hdO k ≤ (b.length : Int)) : pdu_isWritten.p (k, b, ()) = some (wr k b, ()) := by
  unfold pdu_isWritten.p wr
  simp only [jn_eq]
  have hk17 := hdO_17 hk
  have n8 : (8 : Int).toNat = 8 := rfl
  have n9 : (9 : Int).toNat = 9 := rfl
  have n16 : (16 : Int).toNat = 16 := rfl
  have n17 : (17 : Int).toNat = 17 := rfl
  have n18 : (18 : Int).toNat = 18 := rfl
  have n26 : (26 : Int).toNat = 26 := rfl
  have w9 : IntKind.i64.wrap ((8 : Int) + 1) = 9 := by decide
  have w18 : IntKind.i64.wrap ((17 : Int) + 1) = 18 := by decide
  have b8 := hb.at 8 (by omega)
  have b9 := hb.at 9 (by omega)
  rw [if_pos (by omega)]
  by_cases h1 : k = 17
  · subst h1
    have hh : hdO 17 = 20 := by decide
    have b17 := hb.at 17 (by omega)
    have b18 := hb.at 18 (by omega)
    simp only [decide_true, if_true, n8, n17, n18, w18, long_eq b17 b18]
    rw [if_pos (by omega)]
    have bn17 : (0 : Int) ≤ 17 ∧ (17 : Int) < (b.length : Int) := by omega
    have bn18 : (0 : Int) ≤ 18 ∧ (18 : Int) < (b.length : Int) := by omega
    have bn8 : (0 : Int) ≤ 8 ∧ (8 : Int) < (b.length : Int) := by omega
    simp only [bn17, bn18, bn8, and_self, if_true]
    by_cases c1 : rd b 8 ≥ 1
    · have c1' : 1 ≤ rd b 8 := c1
      by_cases c2 : rd b 8 ≤ 3
      · by_cases c3 : rd b 17 * 256 + rd b 18 = (b.length : Int)
        · simp only [c1, c2, c3, c1', decide_true, if_true, true_and, and_true]
          congr 2
          simp only [decide_eq_decide]
          omega
        · simp [c1, c2, c3]
      · simp [c1, c2]
    · have c1' : ¬ 1 ≤ rd b 8 := c1
      simp [c1, c1']
  · have bn8 : (0 : Int) ≤ 8 ∧ (8 : Int) < (b.length : Int) := by omega
    have bn9 : (0 : Int) ≤ 9 ∧ (9 : Int) < (b.length : Int) := by omega
    have fin : ∀ (c : Bool) (P : Prop) [Decidable P], c = decide P → (if c = true then if decide (rd b 8 * 256 + rd b 9 = (b.length : Int)) = true then some (decide (rd b 8 * 256 + rd b 9 ≤ 1492), ()) else some (false, ()) else some (false, ())) = some (decide (rd b 8 * 256 + rd b 9 = (b.length : Int) ∧ b.length ≤ 1492 ∧ P), ()) := by
      intro c P _ hc
      subst hc
      by_cases c1 : P
      · by_cases c3 : rd b 8 * 256 + rd b 9 = (b.length : Int)
        · simp only [c1, c3, decide_true, if_true, true_and, and_true]
          congr 2
          simp only [decide_eq_decide]
          omega
        · simp [c1, c3]
      · simp [c1]
    rw [if_neg (by simpa using h1), if_neg h1]
    by_cases h2 : k = 18 ∨ k = 20
    · have hh : hdO k = 27 := by unfold hdO; rw [if_neg h1, if_pos h2]
      have b26 := hb.at 26 (by omega)
      have bn26 : (0 : Int) ≤ 26 ∧ (26 : Int) < (b.length : Int) := by omega
      rw [if_pos h2]
      have hk' : IntKind.i64.wrap (k - 17) = k - 17 := w64 (by omega)
      by_cases h3 : k = 18
      · simp only [h3, decide_true, if_true, bn26, and_self, bn8, bn9, n8, n9, n26, w9, long_eq b8 b9, and3_eq b26]
        rw [w64 (x := rd b 26 % 4) (by omega)]
        exact fin _ (rd b 26 % 4 = 18 - 17) rfl
      · have h4 : k = 20 := by omega
        simp only [h4, decide_true, if_true, bn26, and_self, bn8, bn9, n8, n9, n26, w9, long_eq b8 b9, and3_eq b26, show ¬ (20 : Int) = 18 by decide, decide_false, Bool.false_eq_true, if_false]
        rw [w64 (x := rd b 26 % 4) (by omega)]
        exact fin _ (rd b 26 % 4 = 20 - 17) rfl
    · have h3 : ¬ k = 18 := fun e => h2 (.inl e)
      have h4 : ¬ k = 20 := fun e => h2 (.inr e)
      rw [if_neg h2]
      simp only [h3, h4, decide_false, Bool.false_eq_true, if_false, bn8, bn9, and_self, if_true, n8, n9, n16, w9, long_eq b8 b9]
      exact fin _ (rd b 16 = 0) rfl
/-- May bytes be opened as one of some types; why not. -/
def fin (q : Int → Bool) (b : List Int) : Bool := okK b && (q (rd b 4) && (decide (hdO (rd b 4) ≤ (b.length : Int)) && wr (rd b 4) b))
def err (q : Int → Bool) (b : List Int) : Int := if b.length < 8 then 2 else if okK b = true then (if q (rd b 4) = true then (if hdO (rd b 4) ≤ (b.length : Int) then 3 else 2) else 3) else 3
theorem err_ne (q : Int → Bool) (b : List Int) : err q b ≠ 0 := by
  unfold err
  split
  · decide
  · split
    · split
      · split <;> decide
      · decide
    · decide
theorem fin_len {q : Int → Bool} {b : List Int} (h : fin q b = true) : okK b = true ∧ q (rd b 4) = true ∧ hdO (rd b 4) ≤ (b.length : Int) ∧ wr (rd b 4) b = true ∧ 17 ≤ b.length ∧ hdO (rd b 4) ≠ 0 := by
  unfold fin at h
  simp only [Bool.and_eq_true, decide_eq_true_eq] at h
  obtain ⟨h1, h2, h3, h4⟩ := h
  have h5 : hdO (rd b 4) ≠ 0 := by
    unfold okK at h1
    simp only [Bool.and_eq_true, decide_eq_true_eq] at h1
    exact h1.1
  have := hdO_17 h5
  exact ⟨h1, h2, h3, h4, by omega, h5⟩
def memb (ks : List Int) (k : Int) : Bool := ks.any fun x => decide (k = x)
def idxF (k : Int) : List Int → Int → Int
  | [], _ => -1
  | x :: l, i => if k = x then i else idxF k l (i + 1)
theorem idxF_memb (k : Int) : ∀ (l : List Int) (i : Int), 0 ≤ i → decide (idxF k l i ≥ 0) = memb l k := by
  intro l
  induction l with
  | nil => intro i _; simp [idxF, memb]
  | cons x l ih =>
    intro i hi
    unfold idxF memb
    rw [List.any_cons]
    by_cases e : k = x
    · rw [if_pos e]
      have : i ≥ 0 := hi
      simp [e, this]
    · rw [if_neg e, ih (i + 1) (by omega)]
      simp [e, memb]
theorem contains_eq (ks : List Int) (k : Int) (hl : ks.length ≤ 100) : slices_Contains_int_int.p (ks, k, ()) = some (memb ks k, ()) := by
  have h : slices_Index_int_int.p (ks, k, ()) = some (idxF k ks 0, ()) := by
    unfold slices_Index_int_int.p
    simp only [jn_eq]
    refine (iterK_fix (F := fun x => some (idxF k (ks.drop x.1.toNat) x.1, ())) (m := fun x => ks.length - x.1.toNat) (I := fun x => 0 ≤ x.1 ∧ x.1 ≤ (ks.length : Int)) ?_ _ _ (by simp) (by simp; omega)).trans rfl
    rintro ⟨i, _⟩ r ⟨h0, h1⟩ hr
    obtain ⟨j, rfl⟩ := Int.eq_ofNat_of_zero_le h0
    simp only [Int.toNat_natCast] at *
    by_cases hj : j < ks.length
    · rw [if_pos (by simpa using hj), if_pos (by omega), drop_rd ks j hj]
      unfold idxF
      by_cases e : k = rd ks j
      · rw [if_pos (by simpa using e), if_pos e]
      · rw [if_neg (by simpa using e), if_neg e, w64 (by omega), hr _ ⟨by first | omega | (dsimp only; omega) | (simp only [List.length_cons, List.length_nil, List.length_append, List.length_drop, List.length_take, maxBytes]; omega) | (simp; omega), by first | omega | (dsimp only; omega) | (simp only [List.length_cons, List.length_nil, List.length_append, List.length_drop, List.length_take, maxBytes]; omega) | (simp; omega)⟩ (by first | omega | (dsimp only; omega) | (simp only [List.length_cons, List.length_nil, List.length_append, List.length_drop, List.length_take, maxBytes]; omega) | (simp; omega))]
        simp only [show ((j : Int) + 1).toNat = j + 1 by omega]
    · rw [if_neg (by simpa using hj), List.drop_eq_nil_of_le (by omega)]
      rfl
  unfold slices_Contains_int_int.p
  simp only [h, bind_eq]
  rw [idxF_memb k ks 0 (by omega)]
def openR (q : Int → Bool) (b : List Int) : Int × Option (List Int) × List Th × Int × Unit :=
  if fin q b = true then (rd b 4, some (b.drop 8), (takeT (b.drop (hdO (rd b 4)).toNat)).1, (takeT (b.drop (hdO (rd b 4)).toNat)).2.1, ()) else (0, none, [], err q b, ())
theorem open_eq (ks : List Int) (b : List Int) (hk : ks.length ≤ 100) (hb : By b) (hl : b.length ≤ 1000000) : pdu_open.p (b, ks, ()) = some (openR (memb ks) b) := by
  unfold pdu_open.p openR
  rw [kind_eq b hb hl]
  simp only [bind_eq, contains_eq ks _ hk]
  unfold kindR
  by_cases h8 : b.length < 8
  · have hf : fin (memb ks) b = false := by
      cases h : fin (memb ks) b with
      | false => rfl
      | true => have := (fin_len h).2.2.2.2.1; omega
    have he : err (memb ks) b = 2 := by unfold err; rw [if_pos h8]
    simp [h8, hf, he]
  · rw [if_neg h8]
    cases ho : okK b with
    | false =>
      have hf : fin (memb ks) b = false := by unfold fin; rw [ho]; rfl
      have he : err (memb ks) b = 3 := by unfold err; rw [if_neg h8, if_neg (by simp [ho])]
      simp [hf, he]
    | true =>
      simp only [if_true, decide_true, Bool.not_true, Bool.false_eq_true, if_false]
      cases hm : memb ks (rd b 4) with
      | false =>
        have hf : fin (memb ks) b = false := by unfold fin; rw [ho, hm]; rfl
        have he : err (memb ks) b = 3 := by unfold err; rw [if_neg h8, if_pos ho, if_neg (by simp [hm])]
        simp [hf, he]
      | true =>
        simp only [Bool.not_true, Bool.false_eq_true, if_false, headOf_eq, bind_eq]
        have hne : hdO (rd b 4) ≠ 0 := by
          unfold okK at ho
          simp only [Bool.and_eq_true, decide_eq_true_eq] at ho
          exact ho.1
        have hr := hdO_range (rd b 4)
        by_cases hh : (b.length : Int) < hdO (rd b 4)
        · have hh' : ¬ hdO (rd b 4) ≤ (b.length : Int) := by omega
          have hf : fin (memb ks) b = false := by unfold fin; rw [ho, hm]; simp [hh']
          have he : err (memb ks) b = 2 := by unfold err; rw [if_neg h8, if_pos ho, if_pos hm, if_neg hh']
          simp [hf, he, hh]
        · have hh' : hdO (rd b 4) ≤ (b.length : Int) := by omega
          rw [if_neg (by simpa using hh), written_eq _ b hb hl hne hh']
          simp only [bind_eq]
          cases hw : wr (rd b 4) b with
          | false =>
            have hf : fin (memb ks) b = false := by unfold fin; rw [ho, hm, hw]; simp
            have he : err (memb ks) b = 3 := by unfold err; rw [if_neg h8, if_pos ho, if_pos hm, if_pos hh']
            simp [hf, he]
          | true =>
            have hf : fin (memb ks) b = true := by unfold fin; rw [ho, hm, hw]; simp [hh']
            simp only [Int.toNat_natCast, List.take_length, Bool.not_true, Bool.false_eq_true, if_false]
            have hc1 : (0 : Int) ≤ hdO (rd b 4) ∧ hdO (rd b 4) ≤ (b.length : Int) ∧ (b.length : Int) ≤ (b.length : Int) := by omega
            have hc2 : (0 : Int) ≤ 8 ∧ (8 : Int) ≤ (b.length : Int) ∧ (b.length : Int) ≤ (b.length : Int) := by omega
            rw [if_pos hc1, ttake_eq _ (hb.drop _) (by rw [List.length_drop]; omega), if_pos hf]
            simp only [bind_eq]
            rw [if_pos hc2]
            rfl
theorem rwritten_eq (k : Int) (b : List Int) (hb : By b) (hk : hdO k ≠ 0) (h : hdO k ≤ (b.length : Int)) (at_ : Nat) (ha : k = 17 ∧ at_ = 17 ∨ k ≠ 17 ∧ at_ = 8) :
    ref22_written.p (k, b, ()) = some ((if k = 17 then decide (1 ≤ rd b 8 ∧ rd b 8 ≤ 3) else if k = 18 ∨ k = 20 then decide (rd b 26 % 4 = k - 17) else decide (rd b 16 = 0)), ()) ∧
    wr k b = (decide (rd b at_ * 256 + rd b (at_ + 1) = (b.length : Int)) && decide (b.length ≤ 1492) && (if k = 17 then decide (1 ≤ rd b 8 ∧ rd b 8 ≤ 3) else if k = 18 ∨ k = 20 then decide (rd b 26 % 4 = k - 17) else decide (rd b 16 = 0))) := by
  have hk17 := hdO_17 hk
  have n8 : (8 : Int).toNat = 8 := rfl
  have n16 : (16 : Int).toNat = 16 := rfl
  have n26 : (26 : Int).toNat = 26 := rfl
  constructor
  · unfold ref22_written.p
    simp only [jn_eq]
    by_cases h1 : k = 17
    · have bn8 : (0 : Int) ≤ 8 ∧ (8 : Int) < (b.length : Int) := by omega
      simp only [h1, decide_true, if_true, bn8, and_self, n8]
      by_cases c1 : rd b 8 ≥ 1
      · have c1' : 1 ≤ rd b 8 := c1
        simp [c1, c1']
      · have c1' : ¬ 1 ≤ rd b 8 := c1
        simp [c1, c1']
    · rw [if_neg (by simpa using h1), if_neg h1]
      by_cases h2 : k = 18 ∨ k = 20
      · have hh : hdO k = 27 := by unfold hdO; rw [if_neg h1, if_pos h2]
        have b26 := hb.at 26 (by omega)
        have bn26 : (0 : Int) ≤ 26 ∧ (26 : Int) < (b.length : Int) := by omega
        rw [if_pos h2, tmod_pos (show 0 ≤ rd b (Int.toNat 26) from b26.1), n26, w64 (x := rd b 26 % 4) (by omega), w64 (x := k - 17) (by omega)]
        by_cases h3 : k = 18
        · simp only [h3, decide_true, if_true, bn26, and_self]
        · have h4 : k = 20 := by omega
          simp only [h4, decide_true, decide_false, if_true, bn26, and_self, show ¬ (20 : Int) = 18 by decide, Bool.false_eq_true, if_false]
      · have h3 : ¬ k = 18 := fun e => h2 (.inl e)
        have h4 : ¬ k = 20 := fun e => h2 (.inr e)
        have bn16 : (0 : Int) ≤ 16 ∧ (16 : Int) < (b.length : Int) := by omega
        rw [if_neg h2]
        simp only [h3, h4, decide_false, Bool.false_eq_true, if_false, bn16, and_self, if_true, n16]
  · unfold wr
    rcases ha with ⟨rfl, rfl⟩ | ⟨h1, rfl⟩
    · simp only [if_true, Bool.decide_and, Bool.and_assoc]
    · rw [if_neg h1, if_neg h1]
      by_cases h2 : k = 18 ∨ k = 20
      · rw [if_pos h2, if_pos h2]
        simp only [Bool.decide_and, Bool.and_assoc]
      · rw [if_neg h2, if_neg h2]
        simp only [Bool.decide_and, Bool.and_assoc]
theorem nm2 (b : List Int) (i : Nat) (h : i + 2 ≤ b.length) : nm ((b.take (i + 2)).drop i) = rd b i * 256 + rd b (i + 1) := by
  rw [List.drop_take, drop_rd b i (by omega), drop_rd b (i + 1) (by omega), show i + 2 - i = 2 by omega]
  simp [nm]
theorem ropen_eq (one other : Int) (at_ : Nat) (b : List Int) (hb : By b) (hl : b.length ≤ 1000000) (ha : one = 17 ∧ other = 17 ∧ at_ = 17 ∨ one ≠ 17 ∧ other ≠ 17 ∧ at_ = 8) :
    ref22_open.p (b, one, other, (at_ : Int), ()) = some (if fin (memb [one, other]) b = true then (rd b 4, (takeT (b.drop (hdO (rd b 4)).toNat)).1, (takeT (b.drop (hdO (rd b 4)).toNat)).2.1, ()) else (0, [], err (memb [one, other]) b, ())) := by
  unfold ref22_open.p
  simp only [jn_eq]
  rw [rkind_eq b hb hl]
  simp only [bind_eq]
  unfold kindR
  have hmem : memb [one, other] (rd b 4) = (decide (rd b 4 = one) || decide (rd b 4 = other)) := by simp [memb]
  by_cases h8 : b.length < 8
  · have hf : fin (memb [one, other]) b = false := by
      cases h : fin (memb [one, other]) b with
      | false => rfl
      | true => have := (fin_len h).2.2.2.2.1; omega
    have he : err (memb [one, other]) b = 2 := by unfold err; rw [if_pos h8]
    simp [h8, hf, he]
  · rw [if_neg h8]
    cases ho : okK b with
    | false =>
      have hf : fin (memb [one, other]) b = false := by unfold fin; rw [ho]; rfl
      have he : err (memb [one, other]) b = 3 := by unfold err; rw [if_neg h8, if_neg (by simp [ho])]
      simp [hf, he]
    | true =>
      simp only [if_true, decide_true, Bool.not_true, Bool.false_eq_true, if_false]
      have hjoin : ∀ (X Y : Option (Int × List Th × Int × Unit)), (if (!decide (rd b 4 = one)) = true then (if (!decide (rd b 4 = other)) = true then X else Y) else Y) = if memb [one, other] (rd b 4) = true then Y else X := by
        intro X Y
        rw [hmem]
        by_cases q1 : rd b 4 = one <;> by_cases q2 : rd b 4 = other <;> simp [q1, q2]
      rw [hjoin]
      cases hm : memb [one, other] (rd b 4) with
      | false =>
        have hf : fin (memb [one, other]) b = false := by unfold fin; rw [ho, hm]; rfl
        have he : err (memb [one, other]) b = 3 := by unfold err; rw [if_neg h8, if_pos ho, if_neg (by simp [hm])]
        simp [hf, he]
      | true =>
        rw [if_pos rfl]
        simp only [rheadOf_eq, bind_eq]
        have hne : hdO (rd b 4) ≠ 0 := by
          unfold okK at ho
          simp only [Bool.and_eq_true, decide_eq_true_eq] at ho
          exact ho.1
        have hr := hdO_range (rd b 4)
        have h17 := hdO_17 hne
        by_cases hh : (b.length : Int) < hdO (rd b 4)
        · have hh' : ¬ hdO (rd b 4) ≤ (b.length : Int) := by omega
          have hf : fin (memb [one, other]) b = false := by unfold fin; rw [ho, hm]; simp [hh']
          have he : err (memb [one, other]) b = 2 := by unfold err; rw [if_neg h8, if_pos ho, if_pos hm, if_neg hh']
          simp [hf, he, hh]
        · have hh' : hdO (rd b 4) ≤ (b.length : Int) := by omega
          have hka : rd b 4 = 17 ∧ at_ = 17 ∨ rd b 4 ≠ 17 ∧ at_ = 8 := by
            rw [hmem] at hm
            simp only [Bool.or_eq_true, decide_eq_true_eq] at hm
            rcases ha with ⟨a1, a2, a3⟩ | ⟨a1, a2, a3⟩
            · left; exact ⟨by omega, a3⟩
            · right; refine ⟨?_, a3⟩; rcases hm with e | e <;> rw [e] <;> assumption
          have hat : at_ + 2 ≤ b.length := by
            rcases hka with ⟨k1, k2⟩ | ⟨k1, k2⟩
            · rw [k1] at hh'; rw [show hdO 17 = 20 by decide] at hh'; omega
            · omega
          have b1 := hb.at at_ (by omega)
          have b2 := hb.at (at_ + 1) (by omega)
          obtain ⟨w1, w2⟩ := rwritten_eq (rd b 4) b hb hne hh' at_ hka
          have e2 : IntKind.i64.wrap ((at_ : Int) + 2) = ((at_ + 2 : Nat) : Int) := by rw [w64 (by omega)]; omega
          rw [if_neg (by simpa using hh), e2, Int.toNat_natCast, Int.toNat_natCast, if_pos (by omega), rnumber_eq _ ((hb.take _).drop _) (by rw [List.length_drop, List.length_take]; omega), nm2 b at_ hat, w1]
          simp only [bind_eq]
          rw [w64 (x := rd b at_ * 256 + rd b (at_ + 1)) (by omega)]
          have hY : ∀ (X Y : Option (Int × List Th × Int × Unit)) (c : Bool), (if (!decide (rd b at_ * 256 + rd b (at_ + 1) = (b.length : Int))) = true then X else (if decide ((b.length : Int) > 1492) = true then X else (if (!c) = true then X else Y))) = if (decide (rd b at_ * 256 + rd b (at_ + 1) = (b.length : Int)) && decide (b.length ≤ 1492) && c) = true then Y else X := by
            intro X Y c
            by_cases q1 : rd b at_ * 256 + rd b (at_ + 1) = (b.length : Int)
            · by_cases q2 : (b.length : Int) > 1492
              · have q2' : ¬ b.length ≤ 1492 := by omega
                simp [q1, q2, q2']
              · have q2' : b.length ≤ 1492 := by omega
                cases c <;> simp [q1, q2, q2']
            · simp [q1]
          rw [hY, ← w2]
          cases hw : wr (rd b 4) b with
          | false =>
            have hf : fin (memb [one, other]) b = false := by unfold fin; rw [ho, hm, hw]; simp
            have he : err (memb [one, other]) b = 3 := by unfold err; rw [if_neg h8, if_pos ho, if_pos hm, if_pos hh']
            simp [hf, he]
          | true =>
            have hf : fin (memb [one, other]) b = true := by unfold fin; rw [ho, hm, hw]; simp [hh']
            simp only [Int.toNat_natCast, List.take_length, Bool.not_true, Bool.false_eq_true, if_false, if_true]
            have hc1 : (0 : Int) ≤ hdO (rd b 4) ∧ hdO (rd b 4) ≤ (b.length : Int) ∧ (b.length : Int) ≤ (b.length : Int) := by omega
            rw [if_pos hc1, rttake_eq _ (hb.drop _) (by rw [List.length_drop]; omega), if_pos hf]
            simp only [bind_eq]
end Go.Proofs.Ytocloebloblodaa.F
