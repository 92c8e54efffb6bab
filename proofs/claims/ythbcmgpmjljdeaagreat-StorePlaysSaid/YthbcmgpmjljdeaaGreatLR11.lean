/- Advertisements in the document's words: heads and bytes. -/
import Derived.Test.YthbcmgpmjljdeaaGreatLLb
set_option maxRecDepth 100000
set_option linter.unusedVariables false
set_option linter.unusedSimpArgs false
open Go Go.Proofs.Fr
namespace Go.Proofs.YthbcmgpmjljdeaaGreat.F
theorem four_eq (n : Int) (h : U32 n) : ref01_Four.p (n, ()) = some (be n 4, ()) := by
  unfold ref01_Four.p
  congr 2
  unfold U32 at h
  simp only [be, wu8, fdiv_pos (b := 2 ^ 24) (by decide), fdiv_pos (b := 2 ^ 16) (by decide), fdiv_pos (b := 2 ^ 8) (by decide)]
  simp
theorem rmay_eq (h : Hd) : ref11_May.p (h, ()) = some (mayH h, ()) := by
  unfold ref11_May.p
  simp only [jn_eq]
  cases hm : mayH h with
  | true =>
    have k := (mayH_iff h).1 hm
    rw [if_pos (by simp; omega), if_pos (by simp; omega), if_pos (by simp; omega), if_pos (by simp; omega), if_pos (by simp; omega), if_pos (by simp; omega), if_pos (by simp; omega), if_pos (by simp; omega), if_pos (by simp; omega), if_pos (by simp; omega)]
    congr 2
    simp; omega
  | false =>
    have k : ¬ _ := fun q => by rw [(mayH_iff h).2 q] at hm; cases hm
    by_cases c1 : h.1 ≥ 0 <;> by_cases c2 : h.1 ≤ 3600 <;> by_cases c3 : h.2.1 ≥ 0 <;> by_cases c4 : h.2.1 ≤ 255 <;> by_cases c5 : h.2.2.1 ≥ 1 <;> by_cases c6 : h.2.2.1 ≤ 7 <;> by_cases c7 : h.2.2.1 = 6 <;> by_cases c8 : h.2.2.2.2.2.2.1 ≥ 0 <;> by_cases c9 : h.2.2.2.2.2.2.1 ≤ 65535 <;> by_cases c10 : h.2.2.2.2.2.2.2.1 ≥ 20 <;> simp [c1, c2, c3, c4, c5, c6, c7, c8, c9, c10] <;> omega
theorem rmayAd_eq (h : Hd) (l : List Int) (hl : l.length ≤ 1000000) : ref11_MayAd.p ((h, l, ()), ()) = some (mayAd h l, ()) := by
  unfold ref11_MayAd.p mayAd
  have e : ((h.1, h.2.1, h.2.2.1, h.2.2.2.1, h.2.2.2.2.1, h.2.2.2.2.2.1, h.2.2.2.2.2.2.1, h.2.2.2.2.2.2.2.1, ()) : Hd) = h := rfl
  simp only [e, rmay_eq, Option.bind_some, jn_eq]
  rw [w64 (by omega)]
  cases mayH h <;> rfl
theorem rtwo_len (x : Int) : ∃ a b : Int, ref11_two.p (x, ()) = some ([a, b], ()) ∧ (0 ≤ x ∧ x ≤ 65535 → a = x / 256 ∧ b = x % 256) := by
  refine ⟨_, _, rfl, fun h => ?_⟩
  rw [tdiv_pos h.1, tmod_pos h.1, w64 (by omega), wu8, wu8]
  omega
theorem rraw_eq (h : Hd) (hu : HdOk h) : ∃ r : List Int, r.length = 20 ∧ ref11_raw.p (h, ()) = some (r, ()) ∧ (mayH h = true → r = b4 (headW h)) := by
  obtain ⟨a1, a2, ha, ha'⟩ := rtwo_len h.1
  obtain ⟨s1, s2, hs, hs'⟩ := rtwo_len h.2.2.2.2.2.2.1
  obtain ⟨n1, n2, hn, hn'⟩ := rtwo_len h.2.2.2.2.2.2.2.1
  have hl : ∀ n : Int, (be n 4).length = 4 := fun n => be_length n 4
  unfold ref11_raw.p
  simp only [ha, hs, hn, four_eq _ hu.1, four_eq _ hu.2.1, four_eq _ hu.2.2, Option.bind_some]
  rw [if_pos (by simp [maxBytes]), if_pos (by simp [maxBytes, hl]), if_pos (by simp [maxBytes, hl]), if_pos (by simp [maxBytes, hl]), if_pos (by simp [maxBytes, hl]), if_pos (by simp [maxBytes, hl])]
  refine ⟨_, ?_, rfl, fun hm => ?_⟩
  · simp [hl]
  · have k := (mayH_iff h).1 hm
    obtain ⟨ea, eb⟩ := ha' (by omega)
    obtain ⟨es, et⟩ := hs' (by omega)
    obtain ⟨en, eo⟩ := hn' (by omega)
    have e5 : h.2.2.2.2.2.2.1 * 65536 + h.2.2.2.2.2.2.2.1 = (h.2.2.2.2.2.2.1 / 256 * 256 + h.2.2.2.2.2.2.1 % 256) * 65536 + h.2.2.2.2.2.2.2.1 := by omega
    unfold headW
    rw [e5]
    simp only [b4_cons, b4_nil]
    rw [be_first _ _ _ (by omega) (by omega) (by omega), be_pair _ _ _ (by omega) (by omega) (by omega), ea, eb, es, et, en, eo, wu8, wu8, show h.2.1 % 256 = h.2.1 by omega, show h.2.2.1 % 256 = h.2.2.1 by omega]
    simp only [List.append_assoc, List.cons_append, List.nil_append, List.append_nil]
theorem rwhole_eq (h : Hd) (l : List Int) (hu : HdOk h) (hb : By l) (hl : l.length ≤ 1000000) : ref11_Whole.p ((h, l, ()), ()) = some (whole h l, ()) := by
  unfold ref11_Whole.p whole
  have e : ((h.1, h.2.1, h.2.2.1, h.2.2.2.1, h.2.2.2.2.1, h.2.2.2.2.2.1, h.2.2.2.2.2.2.1, h.2.2.2.2.2.2.2.1, ()) : Hd) = h := rfl
  obtain ⟨r, hr, h1, h2⟩ := rraw_eq h hu
  simp only [e, h1, rmayAd_eq h l hl, Option.bind_some, jn_eq]
  rw [if_pos (by simp only [hr, maxBytes]; omega)]
  cases hm : mayAd h l with
  | false => rfl
  | true =>
    have hh : mayH h = true := by unfold mayAd at hm; simp only [Bool.and_eq_true] at hm; exact hm.1
    rw [h2 hh]
    have hlen : (b4 (headW h) ++ l).length = 20 + l.length := by rw [List.length_append, b4_length]; rfl
    simp only [Int.toNat_natCast, List.take_length, if_true, Bool.true_and]
    rw [if_pos (by omega), show (2 : Int).toNat = 2 from rfl, rFits_eq (((b4_by _).app hb).drop 2) (by simp only [List.length_drop]; omega)]
    rfl
theorem four_of {l : List Int} (hb : By l) (h : 4 ≤ l.length) : num (l.take 4) = ((rd l 0 * 256 + rd l 1) * 256 + rd l 2) * 256 + rd l 3 := by
  rcases l with _ | ⟨a, _ | ⟨b, _ | ⟨c, _ | ⟨d, t⟩⟩⟩⟩ <;> simp at h
  exact num4 a b c d (hb _ (by simp)) (hb _ (by simp)) (hb _ (by simp)) (hb _ (by simp))
end Go.Proofs.YthbcmgpmjljdeaaGreat.F
