/- What is sealed is whole; spoilt it is refused: the law. -/
import Derived.Test.YthbcmgpmjljdeaaGreatLLb
set_option maxRecDepth 100000
set_option linter.unusedVariables false
set_option linter.unusedSimpArgs false
open Go Go.Proofs.Fr
namespace Go.Proofs.YthbcmgpmjljdeaaGreat.F
theorem set2_drop (l : List Int) (i : Nat) (x y : Int) (h : i + 1 < l.length) : ((set2 l i x y).drop i).take 2 = [x, y] := by
  have h1 : i < (set2 l i x y).length := by rw [set2_length]; omega
  have h2 : i + 1 < (set2 l i x y).length := by rw [set2_length]; omega
  rw [drop_rd _ _ h1, drop_rd _ _ h2]
  have e1 : rd (set2 l i x y) i = x := by unfold set2; rw [rd_set_ne _ _ _ _ (by omega), rd_set_self _ _ _ (by omega)]
  have e2 : rd (set2 l i x y) (i + 1) = y := by unfold set2; rw [rd_set_self _ _ _ (by simp; omega)]
  rw [e1, e2]
  rfl
theorem num2 (x y : Int) (hx : 0 ≤ x ∧ x ≤ 255) (hy : 0 ≤ y ∧ y ≤ 255) : num [x, y] = x * 256 + y := by
  simp only [num, nacc, List.foldl]
  omega
theorem seal_eq (h : Hd) (l : List Int) (hu : HdOk h) (hb : By l) (hl : l.length ≤ 1300) : lsa_Seal.p ((h, l, ()), ()) = some ((noH, [], ()), 1, ()) ∨ ∃ hs : Hd, HdOk hs ∧ whole hs l = true ∧ lsa_Seal.p ((h, l, ()), ()) = some ((hs, l, ()), 0, ()) := by
  unfold lsa_Seal.p
  simp only [w64 (x := 20 + (l.length : Int)) (by omega)]
  obtain ⟨h0, e0⟩ : ∃ h0 : Hd, h0 = (h.1, h.2.1, h.2.2.1, h.2.2.2.1, h.2.2.2.2.1, h.2.2.2.2.2.1, 0, 20 + (l.length : Int), ()) := ⟨_, rfl⟩
  rw [← e0, may_eq]
  simp only [Option.bind_some]
  cases hm : mayH h0 with
  | false => exact .inl rfl
  | true =>
    right
    have hu0 : HdOk h0 := by rw [e0]; exact hu
    have hz : h0.2.2.2.2.2.2.1 = 0 := by rw [e0]
    have hlen : (b4 (headW h0) ++ l).length = 20 + l.length := by rw [List.length_append, b4_length]; rfl
    have hby : By ((b4 (headW h0) ++ l).drop 2) := ((b4_by _).app hb).drop 2
    have hdl : ((b4 (headW h0) ++ l).drop 2).length = 18 + l.length := by rw [List.length_drop, hlen]; omega
    rw [bytesOf_eq h0 l hm hu0 (by omega)]
    simp only [Option.bind_some, Bool.not_true, Bool.false_eq_true, if_false, Int.toNat_natCast, List.take_length]
    obtain ⟨i, x, y, hi, hi2, hx, hy, hpl, hfit⟩ := place_yes (l := (b4 (headW h0) ++ l).drop 2) (a := 14) (by omega)
    have hi14 : i = 14 := by omega
    subst hi14
    rw [if_pos (by omega), show (2 : Int).toNat = 2 from rfl, Place_eq hby (by omega) 14 (by omega), hpl]
    simp only [Option.bind_some, List.take_length]
    have hsl := set2_length ((b4 (headW h0) ++ l).drop 2) 14 x y
    rw [if_pos (by rw [hsl]; omega), show (14 : Int).toNat = 14 from rfl, take_eq _ 2 ((byts_set2 hby 14 (by omega) (by omega)).drop 14) (by rw [List.length_drop, hsl]; omega)]
    unfold take
    rw [if_neg (by omega), if_neg (by rw [List.length_drop, hsl]; omega)]
    simp only [Option.bind_some, show (2 : Int).toNat = 2 from rfl]
    rw [set2_drop _ _ _ _ hi2, num2 x y (by omega) (by omega), w64 (x := x * 256 + y) (by omega)]
    unfold bytes_Clone.p
    rw [if_pos (by simp only [maxBytes]; omega)]
    refine ⟨(h.1, h.2.1, h.2.2.1, h.2.2.2.1, h.2.2.2.2.1, h.2.2.2.2.2.1, x * 256 + y, 20 + (l.length : Int), ()), hu, ?_, rfl⟩
    have hs := summed h0 l hm hz x y (by omega) (by omega)
    have hm' := (mayH_iff h0).1 hm
    rw [e0] at hs hm'
    unfold whole mayAd
    simp only [Bool.and_eq_true, decide_eq_true_eq]
    refine ⟨⟨(mayH_iff _).2 ⟨hm'.1, hm'.2.1, hm'.2.2.1, ⟨by simp only; omega, by simp only; omega⟩, hm'.2.2.2.2⟩, trivial⟩, ?_⟩
    rw [e0] at hfit
    rw [hs]
    exact hfit
theorem older_eq (h : Hd) (l : List Int) (hm : mayH h = true) (t : Int) (ht : -9223372036854775808 ≤ t ∧ t ≤ 9223372036854775807) : ∃ t' : Int, (0 ≤ t' ∧ t' ≤ 3600) ∧ lsa_Older.p ((h, l, ()), t, ()) = some (((t', h.2), l, ()), ()) := by
  have k := (mayH_iff h).1 hm
  unfold lsa_Older.p
  simp only [jn_eq]
  by_cases h1 : t > 0
  · rw [if_pos (by simpa using h1)]
    refine ⟨_, ?_, rfl⟩
    have hw : (0 : Int) ≤ (if (3600 : Int) < t then 3600 else t) ∧ (if (3600 : Int) < t then 3600 else t) ≤ 3600 := by split <;> omega
    rw [w64 (by omega)]
    split <;> omega
  · rw [if_neg (by simpa using h1)]
    exact ⟨h.1, k.2.1, rfl⟩
theorem same_eq (h : Hd) (l : List Int) : ref11_Same.p ((h, l, ()), (h, l, ()), ()) = some (true, ()) := by
  unfold ref11_Same.p
  simp [jn_eq]
theorem rd_app (a b : List Int) (i : Nat) (h : i < a.length) : rd (a ++ b) i = rd a i := by
  simp [rd, List.getD_eq_getElem?_getD, List.getElem?_append_left h]
theorem len_at (h : Hd) (l : List Int) (hm : mayH h = true) : rd (b4 (headW h) ++ l) 18 * 256 + rd (b4 (headW h) ++ l) 19 = lenOf h := by
  have k := (mayH_iff h).1 hm
  have hbl : (b4 (headW h)).length = 20 := by rw [b4_length]; rfl
  rw [rd_app _ _ _ (by omega), rd_app _ _ _ (by omega)]
  unfold headW
  simp only [b4_cons, b4_nil, be, List.cons_append, List.nil_append, rd, List.getD_cons_succ, List.getD_cons_zero]
  simp only [show (256 : Int) ^ 1 = 256 by decide, show (256 : Int) ^ 0 = 1 by decide]
  unfold lenOf
  omega
theorem spoilt (h : Hd) (l : List Int) (hu : HdOk h) (hb : By l) (hw : whole h l = true) (i : Nat) (c : Int) (hi : 2 ≤ i) (hi2 : i < (b4 (headW h) ++ l).length) (h18 : i ≠ 18) (h19 : i ≠ 19) (hc : 0 ≤ c ∧ c ≤ 255)
    (hne : rd (b4 (headW h) ++ l) i ≠ c) (hx : (c = 0 ∨ c = 255) → ibits .xor .u8 (rd (b4 (headW h) ++ l) i) c ≠ 255) : (dec ((b4 (headW h) ++ l).set i c)).2.2.1 ≠ 0 := by
  intro h0
  obtain ⟨hm, hlen, hf⟩ := whole_len hw
  have hB : By (b4 (headW h) ++ l) := (b4_by _).app hb
  obtain ⟨hd, l', rest, _, hu', e, hw'⟩ := dec_zero (byts_set hB i c hc) h0
  obtain ⟨hm', hlen', hf'⟩ := whole_len hw'
  have k1 := len_at h l hm
  have k2 := len_at hd (l' ++ rest) hm'
  rw [← List.append_assoc, ← e, rd_set_ne _ _ _ _ h18, rd_set_ne _ _ _ _ h19, k1] at k2
  have hln : ((b4 (headW h) ++ l).set i c).length = 20 + l.length := by rw [List.length_set, List.length_append, b4_length]; rfl
  have hln' : (b4 (headW hd) ++ l' ++ rest).length = 20 + l'.length + rest.length := by rw [List.length_append, List.length_append, b4_length]; rfl
  rw [e, hln'] at hln
  have hr : rest = [] := List.eq_nil_of_length_eq_zero (by omega)
  subst hr
  rw [List.append_nil] at e
  rw [← e] at hf'
  have hds : ((b4 (headW h) ++ l).set i c).drop 2 = ((b4 (headW h) ++ l).drop 2).set (i - 2) c := by
    rw [List.drop_set, if_neg (by omega)]
  rw [hds] at hf'
  have hrd : rd ((b4 (headW h) ++ l).drop 2) (i - 2) = rd (b4 (headW h) ++ l) i := by
    simp only [rd, List.getD_eq_getElem?_getD, List.getElem?_drop]
    rw [show 2 + (i - 2) = i by omega]
  have := spoilt_fits _ (i - 2) c (by rw [List.length_drop]; omega) (hB.drop 2) hc hf hf'
  rw [hrd] at this
  rcases this with h1 | ⟨h1, h2⟩
  · exact hne h1
  · exact hx h2 h1
end Go.Proofs.YthbcmgpmjljdeaaGreat.F
