/- Packets of OSPF: as they are read. -/
import Derived.Test.YthhklfepclgcbaaLHd
import Derived.Test.YthhklfepclgcbaaFrd
set_option maxRecDepth 100000
set_option linter.unusedVariables false
set_option linter.unusedSimpArgs false
open Go Go.Proofs.Fr
namespace Go.Proofs.Ythhklfepclgcbaa.F
theorem rd_drop (b : List Int) (k j : Nat) : rd (b.drop k) j = rd b (k + j) := by
  simp [rd, List.getD_eq_getElem?_getD, List.getElem?_drop]
theorem num_two (b : List Int) (hb : By b) (k : Nat) (hk : k + 2 ≤ b.length) : num ((b.drop k).take 2) = 256 * rd b k + rd b (k + 1) := by
  have h0 := hb.at k (by omega)
  have h1 := hb.at (k + 1) (by omega)
  rw [drop_rd b k (by omega), drop_rd b (k + 1) (by omega)]
  simp only [List.take_succ_cons, List.take_zero, num, nacc_cons]
  show (((0 : Int) * 256 % 4294967296 + rd b k) * 256 % 4294967296 + rd b (k + 1)) = _
  omega
def T2 (b : List Int) (k : Nat) : Int := 256 * rd b k + rd b (k + 1)
theorem T2_range (b : List Int) (hb : By b) (k : Nat) (hk : k + 2 ≤ b.length) : 0 ≤ T2 b k ∧ T2 b k ≤ 65535 := by
  have h0 := hb.at k (by omega)
  have h1 := hb.at (k + 1) (by omega)
  unfold T2; omega
theorem field_eq (b : List Int) (hb : By b) (hl : b.length ≤ 1000000) (a m : Int) (h0 : 0 ≤ a) (hm : 1 ≤ m ∧ m ≤ 4) (h : a + m ≤ (b.length : Int)) : head_field.p (b, a, m, ()) = some (num ((b.drop a.toNat).take m.toNat), ()) := by
  unfold head_field.p
  simp only
  rw [w64 (by omega), if_pos (by omega), take_eq _ _ (hb.take _ |>.drop _) (by simp only [List.length_drop, List.length_take]; omega), bind_eq]
  unfold take
  rw [if_neg (by omega), if_neg (by simp only [List.length_drop, List.length_take]; omega)]
  simp only
  rw [List.drop_take, show (a + m).toNat - a.toNat = m.toNat by omega, List.take_take, Nat.min_self]
def auA (b : List Int) : Au := (rd b 16, rd b 17, rd b 18, rd b 19, rd b 20, rd b 21, rd b 22, rd b 23, ())
def pkB (b : List Int) : Pk := (rd b 1, num ((b.drop 4).take 4), num ((b.drop 8).take 4), T2 b 14, auA b, b.drop 24, ())
def zPk : Pk := (0, 0, 0, 0, (0, 0, 0, 0, 0, 0, 0, 0, ()), [], ())
def form (b : List Int) : Bool := decide (1 ≤ rd b 1 ∧ rd b 1 ≤ 5) && decide (T2 b 2 = (b.length : Int))
def last (b : List Int) : Pk × Int × Unit := if chk (pkB b) ≠ T2 b 12 then (zPk, 4, ()) else if T2 b 14 > 1 then (zPk, 11, ()) else (pkB b, 0, ())
def decR (b : List Int) : Pk × Int × Unit :=
  if (b.length : Int) < 24 then (zPk, 2, ()) else if rd b 0 ≠ 2 then (zPk, 10, ()) else if (b.length : Int) > 1500 then (zPk, 5, ()) else if form b = false then (zPk, 3, ()) else last b
theorem pkB_ok (b : List Int) (hb : By b) (h24 : 24 ≤ b.length) : PkOk (pkB b) := by
  refine ⟨num_range _ ((hb.drop _).take _), num_range _ ((hb.drop _).take _), ?_, hb.drop _⟩
  intro y hy
  simp only [pkB, auA, auL, List.mem_cons, List.not_mem_nil, or_false] at hy
  rcases hy with rfl | rfl | rfl | rfl | rfl | rfl | rfl | rfl <;> exact hb.at _ (by omega)
theorem pkB_fit (b : List Int) (hb : By b) (h24 : 24 ≤ b.length) (hl : b.length ≤ 1500) : Fit (pkB b) := by
  refine ⟨hb.at 1 (by omega), T2_range b hb 14 (by omega), ?_⟩
  show (b.drop 24).length ≤ 65511
  rw [List.length_drop]; omega
theorem Decode_eq (b : List Int) (hb : By b) (hl : b.length ≤ 1000000) : head_Decode.p (b, ()) = some (decR b) := by
  unfold head_Decode.p decR
  simp only
  by_cases h1 : (b.length : Int) < 24
  · rw [if_pos (by simpa using h1), if_pos h1]; rfl
  rw [if_neg (by simpa using h1), if_neg h1, if_pos (by omega)]
  have e0 : Int.toNat 0 = 0 := rfl
  have e1 : Int.toNat 1 = 1 := rfl
  rw [e0]
  by_cases h2 : rd b 0 = 2
  rotate_left
  · rw [if_pos (by simpa using h2), if_pos h2]; rfl
  rw [if_neg (by simpa using h2), if_neg (show ¬ (rd b 0 ≠ 2) from fun q => q h2)]
  by_cases h3 : (b.length : Int) > 1500
  · rw [if_pos (by simpa using h3), if_pos h3]; rfl
  rw [if_neg (by simpa using h3), if_neg h3]
  have r1 := hb.at 1 (by omega)
  have t2 := T2_range b hb 2 (by omega)
  have t12 := T2_range b hb 12 (by omega)
  have t14 := T2_range b hb 14 (by omega)
  refine jn_by (I := fun x : Bool × Unit => True) (G := fun x => some (if x.1 = true then (zPk, 3, ()) else last b)) ?_ ?_
  · rintro ⟨x, _⟩ _
    simp only
    cases x
    · simp only [Bool.false_eq_true, if_false]
      rw [if_pos (by omega), field_eq b hb hl 4 4 (by omega) (by omega) (by omega), bind_eq, field_eq b hb hl 8 4 (by omega) (by omega) (by omega), bind_eq, field_eq b hb hl 14 2 (by omega) (by omega) (by omega), bind_eq]
      have n4 : Int.toNat 4 = 4 := rfl
      have n8 : Int.toNat 8 = 8 := rfl
      have n2 : Int.toNat 2 = 2 := rfl
      have n14 : Int.toNat 14 = 14 := rfl
      have n12 : Int.toNat 12 = 12 := rfl
      have n16 : Int.toNat 16 = 16 := rfl
      have n24 : Int.toNat 24 = 24 := rfl
      simp only [n4, n8, n2, n14, n16, n24, e1, Int.toNat_natCast, List.take_length]
      rw [num_two b hb 14 (by omega), show 256 * rd b 14 + rd b (14 + 1) = T2 b 14 from rfl, w64 (x := T2 b 14) (by omega), w64 (x := rd b 1) (by omega)]
      rw [if_pos (by omega), if_pos (by rw [List.length_drop]; omega), if_pos (by rw [List.length_drop]; omega), if_pos (by omega)]
      simp only [rd_drop]
      have hcl : bytes_Clone.p (b.drop 24, ()) = some (b.drop 24, ()) := by
        unfold bytes_Clone.p
        rw [if_pos (by simp only [List.length_drop, maxBytes]; omega)]
      rw [hcl, bind_eq]
      have hck := check_eq (pkB b) (pkB_ok b hb (by omega)) (pkB_fit b hb (by omega) (by omega))
      rw [show (rd b 1, num ((b.drop 4).take 4), num ((b.drop 8).take 4), T2 b 14, (rd b (16 + (0 + 0)), rd b (16 + (0 + 1)), rd b (16 + (0 + 2)), rd b (16 + (0 + 3)), rd b (16 + (0 + 4)), rd b (16 + (0 + 5)), rd b (16 + (0 + 6)), rd b (16 + (0 + 7)), ()), b.drop 24, ()) = pkB b from rfl, hck, bind_eq, field_eq b hb hl 12 2 (by omega) (by omega) (by omega), bind_eq]
      simp only [n2, n12]
      rw [num_two b hb 12 (by omega), show 256 * rd b 12 + rd b (12 + 1) = T2 b 12 from rfl, w64 (x := T2 b 12) (by omega)]
      unfold last
      by_cases h5 : chk (pkB b) = T2 b 12
      · rw [if_neg (by simpa using h5), if_neg (show ¬ (chk (pkB b) ≠ T2 b 12) from fun q => q h5)]
        by_cases h6 : T2 b 14 > 1
        · rw [if_pos (by simpa using h6), if_pos h6]; rfl
        · rw [if_neg (by simpa using h6), if_neg h6]
      · rw [if_pos (by simpa using h5), if_pos h5]; rfl
    · simp only [if_true]; rfl
  · intro j hj
    rw [if_pos (by omega), e1, w64 (x := rd b 1) (by omega)]
    unfold head_isType.p
    simp only [jn_eq]
    have hF : head_field.p (b, 2, 2, ()) = some (T2 b 2, ()) := by
      rw [field_eq b hb hl 2 2 (by omega) (by omega) (by omega)]
      show some (num ((b.drop 2).take 2), ()) = _
      rw [num_two b hb 2 (by omega)]; rfl
    unfold form
    by_cases h4 : 1 ≤ rd b 1 <;> by_cases h5 : rd b 1 ≤ 5 <;> by_cases h6 : T2 b 2 = (b.length : Int) <;> simp [h4, h5, h6, hF, w64 (x := T2 b 2) (by omega), w64 (x := (b.length : Int)) (by omega), hj, bind_eq]
def fillA (b : List Int) (a : Au) (i : Nat) : Au :=
  (if 0 < i then a.1 else rd b 16, if 1 < i then a.2.1 else rd b 17, if 2 < i then a.2.2.1 else rd b 18, if 3 < i then a.2.2.2.1 else rd b 19, if 4 < i then a.2.2.2.2.1 else rd b 20, if 5 < i then a.2.2.2.2.2.1 else rd b 21, if 6 < i then a.2.2.2.2.2.2.1 else rd b 22, if 7 < i then a.2.2.2.2.2.2.2.1 else rd b 23, ())
theorem same_self (p : Pk) : ref09_Same.p (p, p, ()) = some (true, ()) := by
  unfold ref09_Same.p
  simp only [jn_eq, decide_true, Bool.and_self, if_true]
end Go.Proofs.Ythhklfepclgcbaa.F
