/- Whether a body is one of its type: the law. -/
import Derived.Test.YthbcmgpmjljdeaaGreatLRt
import Derived.Test.YthbcmgpmjljdeaaGreatLMask
import Derived.Test.YthbcmgpmjljdeaaGreatFrd
set_option maxRecDepth 100000
set_option linter.unusedVariables false
set_option linter.unusedSimpArgs false
open Go Go.Proofs.Fr
namespace Go.Proofs.YthbcmgpmjljdeaaGreat.F
theorem u0 (l : List Int) : rd l (0 : Int).toNat = rd l 0 := rfl
theorem u1 (l : List Int) : rd l (1 : Int).toNat = rd l 1 := rfl
theorem u2 (l : List Int) : rd l (2 : Int).toNat = rd l 2 := rfl
theorem u3 (l : List Int) : rd l (3 : Int).toNat = rd l 3 := rfl
theorem u4 (l : List Int) : rd l (4 : Int).toNat = rd l 4 := rfl
theorem rows4 (l : List Int) : rows l 4 = if (l.length : Int) % 4 = 0 then (chunks 4 (l.length / 4) l, 0, ()) else ([], 2, ()) := by
  unfold rows
  rw [if_neg (by omega)]
  rfl
/-- A network's body. -/
def netR (l : List Int) : (Int × List Int × Unit) × Int × Unit :=
  if ¬ (rows l 4).2.1 = 0 ∨ (rows l 4).1.length < 2 then ((0, [], ()), 2, ()) else if isM (rd (rows l 4).1 0) = false ∨ (rows l 4).1.length > 201 then ((0, [], ()), 3, ()) else ((rd (rows l 4).1 0, (rows l 4).1.drop 1, ()), 0, ())
theorem net_eq (l : List Int) (hb : By l) (hl : l.length ≤ 1400) : body_ReadNetwork.p (l, ()) = some (netR l) := by
  unfold body_ReadNetwork.p netR
  rw [rows_eq l 4 hb (by omega)]
  have hgl : (rows l 4).1.length ≤ 1400 := by
    rw [rows4]
    split
    · simp only [chunks_length]; omega
    · simp
  generalize rows l 4 = g at *
  obtain ⟨g, c, _⟩ := g
  simp only [Option.bind_some, jn_eq, u0] at *
  by_cases hc : c = 0
  · by_cases h2 : g.length < 2
    · rw [if_neg (by simpa using hc), if_pos (by simp; omega), if_pos (.inr h2)]
    · rw [if_neg (by simpa using hc), if_neg (by simp; omega), if_neg (show ¬ (¬ c = 0 ∨ g.length < 2) by omega), if_pos (by omega), isMask_eq]
      simp only [Option.bind_some, Int.toNat_natCast, List.take_length]
      cases hm : isM (rd g 0) with
      | false => simp
      | true =>
        rw [if_neg (by simp), w64 (by omega)]
        by_cases h3 : g.length > 201
        · rw [if_pos (by simp; omega), if_pos (.inr h3)]
        · rw [if_neg (by simp; omega), if_pos (by omega), if_pos (by omega), if_neg (by simp; omega)]
          rfl
  · rw [if_pos (by simpa using hc), if_pos (by simp), if_pos (.inl hc)]
theorem rnet_eq (l : List Int) (hb : By l) (hl : l.length ≤ 1400) : ref12_ReadNetwork.p (l, ()) = some (netR l) := by
  unfold ref12_ReadNetwork.p netR
  rw [rrows_eq l 4 hb (by omega)]
  have hgl : (rows l 4).1.length ≤ 1400 := by
    rw [rows4]
    split
    · simp only [chunks_length]; omega
    · simp
  generalize rows l 4 = g at *
  obtain ⟨g, c, _⟩ := g
  simp only [Option.bind_some, jn_eq, u0] at *
  by_cases hc : c = 0
  · by_cases h2 : g.length < 2
    · rw [if_neg (by simpa using hc), if_pos (by simp; omega), if_pos (.inr h2)]
    · rw [if_neg (by simpa using hc), if_neg (by simp; omega), if_neg (show ¬ (¬ c = 0 ∨ g.length < 2) by omega), if_pos (by omega), risMask_eq]
      simp only [Option.bind_some, Int.toNat_natCast, List.take_length]
      cases hm : isM (rd g 0) with
      | false => simp
      | true =>
        rw [if_neg (by simp)]
        by_cases h3 : g.length > 201
        · rw [if_pos (by simp; omega), if_pos (.inr h3)]
        · rw [if_neg (by simp; omega), if_pos (by omega), if_pos (by omega), if_neg (by simp; omega)]
          rfl
  · rw [if_pos (by simpa using hc), if_pos (by simp), if_pos (.inl hc)]
theorem chunk_atr (q : Nat) : ∀ (i : Nat) (l : List Int), i < q → rd (chunks 4 q l) i = num ((l.drop (4 * i)).take 4) := by
  induction q with
  | zero => intro i l h; omega
  | succ q ih =>
    intro i l h
    cases i with
    | zero => rfl
    | succ i =>
      show rd (chunks 4 q (l.drop 4)) i = _
      rw [ih i _ (by omega), List.drop_drop]
      congr 3
      omega
theorem four_at {l : List Int} (hb : By l) (k : Nat) (h : k + 4 ≤ l.length) : num ((l.drop k).take 4) = ((rd l k * 256 + rd l (k + 1)) * 256 + rd l (k + 2)) * 256 + rd l (k + 3) := by
  rw [four_ofr (hb.drop k) (by simp; omega)]
  have e : ∀ i, rd (l.drop k) i = rd l (k + i) := fun i => by simp [rd, List.getD_eq_getElem?_getD, List.getElem?_drop]
  rw [e, e, e, e, Nat.add_zero]
/-- What a summary's code is. -/
def sumC (l : List Int) : Int := if l.length < 8 then 2 else if l.length = 8 ∧ isM (num (l.take 4)) = true ∧ rd l 4 = 0 then 0 else 3
theorem rowsAt (l : List Int) (n : Nat) (h : l.length = 4 * n) : rows l 4 = (chunks 4 n l, 0, ()) := by
  rw [rows4, if_pos (by omega), show l.length / 4 = n by omega]
theorem sum_eq (l : List Int) (hb : By l) (hl : l.length ≤ 1400) : ∃ x, body_ReadSummary.p (l, ()) = some (x, sumC l, ()) := by
  unfold body_ReadSummary.p body_rows.p sumC
  simp only [w64 (x := 2 * 4) (by omega)]
  by_cases h1 : l.length < 8
  · rw [if_pos (by simp; omega), if_pos h1]
    exact ⟨_, rfl⟩
  · rw [if_neg (by simp; omega), if_neg h1]
    generalize hC : (if l.length = 8 ∧ isM (num (l.take 4)) = true ∧ rd l 4 = 0 then (0 : Int) else 3) = C
    by_cases h2 : l.length > 8
    · have e : C = 3 := by rw [← hC]; exact if_neg (by omega)
      rw [if_pos (by simp; omega), e]
      exact ⟨_, rfl⟩
    · have h8 : l.length = 8 := by omega
      rw [if_neg (by simp; omega), rows_eq l 4 hb (by omega), rowsAt l 2 h8]
      have hl2 := chunks_length 4 2 l
      have c0 := chunk_atr 2 0 l (by omega)
      have c1 := chunk_atr 2 1 l (by omega)
      rw [four_at hb _ (by omega)] at c1
      have b4 := hb.at 4 (by omega)
      have b5 := hb.at 5 (by omega)
      have b6 := hb.at 6 (by omega)
      have b7 := hb.at 7 (by omega)
      simp only [Option.bind_some, u0, u1, hl2]
      rw [if_pos (by omega), isMask_eq, c0]
      simp only [Option.bind_some, Nat.mul_zero, List.drop_zero, Nat.mul_one, Nat.reduceAdd] at c1 ⊢
      cases hm : isM (num (l.take 4)) with
      | false =>
        have e : C = 3 := by rw [← hC]; exact if_neg (fun h => by rw [hm] at h; cases h.2.1)
        rw [e]
        exact ⟨(0, 0, ()), by simp⟩
      | true =>
        simp only [Bool.not_true, Bool.false_eq_true, if_false, Option.bind_some, decide_true, hl2, u1, c1]
        rw [if_pos (by omega)]
        by_cases h4 : rd l 4 = 0
        · have e : C = 0 := by rw [← hC]; exact if_pos ⟨h8, hm, h4⟩
          rw [if_neg (by simp; omega), if_pos (by omega), if_pos (by omega), e]
          exact ⟨_, rfl⟩
        · have e : C = 3 := by rw [← hC]; exact if_neg (fun h => h4 h.2.2)
          rw [if_pos (by simp; omega), e]
          exact ⟨_, rfl⟩
theorem rsum_eq (l : List Int) (hb : By l) (hl : l.length ≤ 1400) : ∃ x, ref12_ReadSummary.p (l, ()) = some (x, sumC l, ()) := by
  unfold ref12_ReadSummary.p sumC
  simp only [jn_eq, u4]
  by_cases h1 : l.length < 8
  · rw [if_pos (by simp; omega), if_pos h1]
    exact ⟨_, rfl⟩
  · rw [if_neg (by simp; omega), if_neg h1]
    generalize hC : (if l.length = 8 ∧ isM (num (l.take 4)) = true ∧ rd l 4 = 0 then (0 : Int) else 3) = C
    by_cases h2 : l.length > 8
    · have e : C = 3 := by rw [← hC]; exact if_neg (by omega)
      rw [if_pos (by simp; omega), if_pos trivial, e]
      exact ⟨_, rfl⟩
    · have h8 : l.length = 8 := by omega
      rw [if_neg (by simp; omega), if_pos (show (0 : Int) ≤ 4 ∧ (4 : Int) < (l.length : Int) by omega), rrows_eq l 4 hb (by omega), rowsAt l 2 h8]
      have hl2 := chunks_length 4 2 l
      have c0 := chunk_atr 2 0 l (by omega)
      by_cases h4 : rd l 4 = 0
      · rw [if_neg (by simpa using h4)]
        simp only [Option.bind_some, u0, u1, hl2]
        rw [if_pos (by omega), risMask_eq, c0]
        simp only [Option.bind_some, Nat.mul_zero, List.drop_zero]
        cases hm : isM (num (l.take 4)) with
        | false =>
          have e : C = 3 := by rw [← hC]; exact if_neg (fun h => by rw [hm] at h; cases h.2.1)
          rw [e]
          exact ⟨(0, 0, ()), by simp⟩
        | true =>
          have e : C = 0 := by rw [← hC]; exact if_pos ⟨h8, hm, h4⟩
          rw [if_neg (by simp), if_pos (by omega), if_pos (by omega), e]
          exact ⟨_, rfl⟩
      · have e : C = 3 := by rw [← hC]; exact if_neg (fun h => h4 h.2.2)
        rw [if_pos (by simpa using h4), e]
        exact ⟨_, rfl⟩
theorem andNot_top {x : Int} (h : 0 ≤ x ∧ x < 4294967296) : ibits .andNot .u32 x 2147483648 = x % 2147483648 := by
  obtain ⟨n, rfl⟩ := Int.eq_ofNat_of_zero_le h.1
  have hn : n < 4294967296 := by omega
  show IntKind.u32.wrap ((BitVec.ofInt 32 (n : Int) &&& ~~~ (BitVec.ofInt 32 2147483648)).toNat : Int) = _
  rw [show ~~~ (BitVec.ofInt 32 2147483648) = BitVec.ofNat 32 (2 ^ 31 - 1) by decide, ofInt_nat, BitVec.toNat_and, BitVec.toNat_ofNat, BitVec.toNat_ofNat, Nat.mod_eq_of_lt hn, Nat.mod_eq_of_lt (by decide), Nat.and_two_pow_sub_one_eq_mod, wu32]
  omega
def extC (l : List Int) : Int := if l.length < 16 then 2 else if l.length = 16 ∧ isM (num (l.take 4)) = true ∧ (rd l 4 = 0 ∨ rd l 4 = 128) then 0 else 3
theorem ext_eq (l : List Int) (hb : By l) (hl : l.length ≤ 1400) : ∃ x, body_ReadExternal.p (l, ()) = some (x, extC l, ()) := by
  unfold body_ReadExternal.p body_rows.p extC
  simp only [w64 (x := 4 * 4) (by omega)]
  by_cases h1 : l.length < 16
  · rw [if_pos (by simp; omega), if_pos h1]
    exact ⟨_, rfl⟩
  · rw [if_neg (by simp; omega), if_neg h1]
    generalize hC : (if l.length = 16 ∧ isM (num (l.take 4)) = true ∧ (rd l 4 = 0 ∨ rd l 4 = 128) then (0 : Int) else 3) = C
    by_cases h2 : l.length > 16
    · have e : C = 3 := by rw [← hC]; exact if_neg (by omega)
      rw [if_pos (by simp; omega), e]
      exact ⟨_, rfl⟩
    · have h8 : l.length = 16 := by omega
      rw [if_neg (by simp; omega), rows_eq l 4 hb (by omega), rowsAt l 4 h8]
      have hl2 := chunks_length 4 4 l
      have c0 := chunk_atr 4 0 l (by omega)
      have c1 := chunk_atr 4 1 l (by omega)
      rw [four_at hb _ (by omega)] at c1
      have b4 := hb.at 4 (by omega)
      have b5 := hb.at 5 (by omega)
      have b6 := hb.at 6 (by omega)
      have b7 := hb.at 7 (by omega)
      simp only [Option.bind_some, u0, u1, hl2]
      rw [if_pos (by omega), isMask_eq, c0]
      simp only [Option.bind_some, Nat.mul_zero, List.drop_zero, Nat.mul_one, Nat.reduceAdd] at c1 ⊢
      cases hm : isM (num (l.take 4)) with
      | false =>
        have e : C = 3 := by rw [← hC]; exact if_neg (fun h => by rw [hm] at h; cases h.2.1)
        rw [e]
        exact ⟨(0, false, 0, 0, 0, ()), by simp⟩
      | true =>
        simp only [Bool.not_true, Bool.false_eq_true, if_false, Option.bind_some, decide_true, hl2, u1, c1]
        rw [if_pos (by omega), andNot_top (by omega)]
        by_cases h4 : rd l 4 = 0 ∨ rd l 4 = 128
        · have e : C = 0 := by rw [← hC]; exact if_pos ⟨h8, hm, h4⟩
          rw [if_neg (by simp; omega), if_pos (by omega), if_pos (by omega), if_pos (by omega), if_pos (by omega), if_pos (by omega), e]
          exact ⟨_, rfl⟩
        · have e : C = 3 := by rw [← hC]; exact if_neg (fun h => h4 h.2.2)
          rw [if_pos (by simp; omega), e]
          exact ⟨_, rfl⟩
theorem rext_eq (l : List Int) (hb : By l) (hl : l.length ≤ 1400) : ∃ x, ref12_ReadExternal.p (l, ()) = some (x, extC l, ()) := by
  unfold ref12_ReadExternal.p extC
  simp only [jn_eq, u4]
  by_cases h1 : l.length < 16
  · rw [if_pos (by simp; omega), if_pos h1]
    exact ⟨_, rfl⟩
  · rw [if_neg (by simp; omega), if_neg h1]
    generalize hC : (if l.length = 16 ∧ isM (num (l.take 4)) = true ∧ (rd l 4 = 0 ∨ rd l 4 = 128) then (0 : Int) else 3) = C
    by_cases h2 : l.length > 16
    · have e : C = 3 := by rw [← hC]; exact if_neg (by omega)
      rw [if_pos (by simp; omega), if_pos trivial, e]
      exact ⟨_, rfl⟩
    · have h8 : l.length = 16 := by omega
      rw [if_neg (by simp; omega), if_pos (show (0 : Int) ≤ 4 ∧ (4 : Int) < (l.length : Int) by omega), rrows_eq l 4 hb (by omega), rowsAt l 4 h8]
      have hl2 := chunks_length 4 4 l
      have c0 := chunk_atr 4 0 l (by omega)
      have hx4 : (0 : Int) ≤ 4 ∧ (4 : Int) < (l.length : Int) := by omega
      simp only [Option.bind_some, u0, u1, hl2, c0, risMask_eq, Nat.mul_zero, List.drop_zero]
      by_cases h4 : rd l 4 = 0 ∨ rd l 4 = 128
      · have e : C = if isM (num (l.take 4)) = true then 0 else 3 := by
          rw [← hC]
          by_cases hm : isM (num (l.take 4)) = true
          · rw [if_pos hm]; exact if_pos ⟨h8, hm, h4⟩
          · rw [if_neg hm]; exact if_neg fun h => hm h.2.1
        rw [e]
        by_cases h : rd l 4 = 0
        · rw [if_neg (by simpa using h), if_neg (by simp)]
          rw [if_pos (by omega)]
          cases isM (num (l.take 4)) with
          | false => exact ⟨_, rfl⟩
          | true =>
            rw [if_neg (by simp), if_pos (by omega), if_pos hx4, if_pos (by omega), if_pos (by omega), if_pos (by omega)]
            exact ⟨_, rfl⟩
        · rw [if_pos (by simpa using h), if_pos hx4, if_neg (by simp; omega)]
          rw [if_pos (by omega)]
          cases isM (num (l.take 4)) with
          | false => exact ⟨_, rfl⟩
          | true =>
            rw [if_neg (by simp), if_pos (by omega), if_pos hx4, if_pos (by omega), if_pos (by omega), if_pos (by omega)]
            exact ⟨_, rfl⟩
      · have e : C = 3 := by rw [← hC]; exact if_neg (fun h => h4 h.2.2)
        rw [if_pos (by simp; omega), if_pos hx4, if_pos (by simp; omega), e]
        exact ⟨_, rfl⟩
abbrev Hd12 := Int × Int × Int × Int × Int × Int × Int × Int × Unit
theorem right12_eq (a : Hd12) (l : List Int) (hb : By l) (hl : l.length ≤ 1400) : ∃ v : Bool, body_Right.p ((a, l, ()), ()) = some (v, ()) ∧ ref12_Right.p ((a, l, ()), ()) = some (v, ()) := by
  obtain ⟨s1, hs1⟩ := sum_eq l hb hl
  obtain ⟨s2, hs2⟩ := rsum_eq l hb hl
  obtain ⟨e1, he1⟩ := ext_eq l hb hl
  obtain ⟨e2, he2⟩ := rext_eq l hb hl
  unfold body_Right.p ref12_Right.p
  simp only [jn_eq, readR_eq l hb hl, rreadR_eq l hb hl, net_eq l hb hl, rnet_eq l hb hl, hs1, hs2, he1, he2, Option.bind_some]
  generalize a.2.2.1 = ty
  by_cases h1 : ty = 1
  · simp [h1]
  · by_cases h2 : ty = 2
    · simp [h2]
    · by_cases h3 : ty = 3
      · simp [h3]
      · by_cases h4 : ty = 4
        · simp [h4]
        · by_cases h5 : ty = 5
          · simp [h5]
          · by_cases h7 : ty = 7
            · simp [h7]
            · simp [h1, h2, h3, h4, h5, h7]
end Go.Proofs.YthbcmgpmjljdeaaGreat.F
