/- Advertisements in the document's words: heads and bytes. -/
import Derived.Test.YtmmkdalbcfjogaaLLb
set_option maxRecDepth 100000
set_option linter.unusedVariables false
set_option linter.unusedSimpArgs false
open Go Go.Proofs.Fr
namespace Go.Proofs.Ytmmkdalbcfjogaa.F
theorem four_eq (n : Int) (h : U32 n) : ref01_Four.p (n, ()) = some (be n 4, ()) := by
  unfold ref01_Four.p
  congr 2
  unfold U32 at h
  simp only [be, wu8, fdiv_pos (b := 2 ^ 24) (by decide), fdiv_pos (b := 2 ^ 16) (by decide), fdiv_pos (b := 2 ^ 8) (by decide)]
  simp
theorem rmay_eq (h : Hd) : ref11_May.p (h, ()) = some (mayH h, ()) := by
  unfold ref11_May.p
  simp only [jn_eq]
  cases hm : mayH h with
  | true =>
    have k := (mayH_iff h).1 hm
    rw [if_pos (by simp; omega), if_pos (by simp; omega), if_pos (by simp; omega), if_pos (by simp; omega), if_pos (by simp; omega), if_pos (by simp; omega), if_pos (by simp; omega), if_pos (by simp; omega), if_pos (by simp; omega), if_pos (by simp; omega)]
    congr 2
    simp; omega
  | false =>
    have k : ¬ _ := fun q => by rw [(mayH_iff h).2 q] at hm; cases hm
    by_cases c1 : h.1 ≥ 0 <;> by_cases c2 : h.1 ≤ 3600 <;> by_cases c3 : h.2.1 ≥ 0 <;> by_cases c4 : h.2.1 ≤ 255 <;> by_cases c5 : h.2.2.1 ≥ 1 <;> by_cases c6 : h.2.2.1 ≤ 7 <;> by_cases c7 : h.2.2.1 = 6 <;> by_cases c8 : h.2.2.2.2.2.2.1 ≥ 0 <;> by_cases c9 : h.2.2.2.2.2.2.1 ≤ 65535 <;> by_cases c10 : h.2.2.2.2.2.2.2.1 ≥ 20 <;> simp [c1, c2, c3, c4, c5, c6, c7, c8, c9, c10] <;> omega
theorem rmayAd_eq (h : Hd) (l : List Int) (hl : l.length ≤ 1000000) : ref11_MayAd.p ((h, l, ()), ()) = some (mayAd h l, ()) := by
  unfold ref11_MayAd.p mayAd
  have e : ((h.1, h.2.1, h.2.2.1, h.2.2.2.1, h.2.2.2.2.1, h.2.2.2.2.2.1, h.2.2.2.2.2.2.1, h.2.2.2.2.2.2.2.1, ()) : Hd) = h := rfl
  simp only [e, rmay_eq, Option.bind_some, jn_eq]
  rw [w64 (by omega)]
  cases mayH h <;> rfl
theorem rtwo_len (x : Int) : ∃ a b : Int, ref11_two.p (x, ()) = some ([a, b], ()) ∧ (0 ≤ x ∧ x ≤ 65535 → a = x / 256 ∧ b = x % 256) := by
  refine ⟨_, _, rfl, fun h => ?_⟩
  rw [tdiv_pos h.1, tmod_pos h.1, w64 (by omega), wu8, wu8]
  omega
theorem rraw_eq (h : Hd) (hu : HdOk h) : ∃ r : List Int, r.length = 20 ∧ ref11_raw.p (h, ()) = some (r, ()) ∧ (mayH h = true → r = b4 (headW h)) := by
  obtain ⟨a1, a2, ha, ha'⟩ := rtwo_len h.1
  obtain ⟨s1, s2, hs, hs'⟩ := rtwo_len h.2.2.2.2.2.2.1
  obtain ⟨n1, n2, hn, hn'⟩ := rtwo_len h.2.2.2.2.2.2.2.1
  have hl : ∀ n : Int, (be n 4).length = 4 := fun n => be_length n 4
  unfold ref11_raw.p
  simp only [ha, hs, hn, four_eq _ hu.1, four_eq _ hu.2.1, four_eq _ hu.2.2, Option.bind_some]
  rw [if_pos (by simp [maxBytes]), if_pos (by simp [maxBytes, hl]), if_pos (by simp [maxBytes, hl]), if_pos (by simp [maxBytes, hl]), if_pos (by simp [maxBytes, hl]), if_pos (by simp [maxBytes, hl])]
  refine ⟨_, ?_, rfl, fun hm => ?_⟩
  · simp [hl]
  · have k := (mayH_iff h).1 hm
    obtain ⟨ea, eb⟩ := ha' (by omega)
    obtain ⟨es, et⟩ := hs' (by omega)
    obtain ⟨en, eo⟩ := hn' (by omega)
    have e5 : h.2.2.2.2.2.2.1 * 65536 + h.2.2.2.2.2.2.2.1 = (h.2.2.2.2.2.2.1 / 256 * 256 + h.2.2.2.2.2.2.1 % 256) * 65536 + h.2.2.2.2.2.2.2.1 := by omega
    unfold headW
    rw [e5]
    simp only [b4_cons, b4_nil]
    rw [be_first _ _ _ (by omega) (by omega) (by omega), be_pair _ _ _ (by omega) (by omega) (by omega), ea, eb, es, et, en, eo, wu8, wu8, show h.2.1 % 256 = h.2.1 by omega, show h.2.2.1 % 256 = h.2.2.1 by omega]
    simp only [List.append_assoc, List.cons_append, List.nil_append, List.append_nil]
theorem rencode_eq (h : Hd) (l : List Int) (hu : HdOk h) (hl : l.length ≤ 1000000) : ref11_Encode.p ((h, l, ()), ()) = some (if mayAd h l = true then (b4 (headW h) ++ l, 0, ()) else ([], 1, ())) := by
  unfold ref11_Encode.p
  have e : ((h.1, h.2.1, h.2.2.1, h.2.2.2.1, h.2.2.2.2.1, h.2.2.2.2.2.1, h.2.2.2.2.2.2.1, h.2.2.2.2.2.2.2.1, ()) : Hd) = h := rfl
  simp only [e, rmayAd_eq h l hl, Option.bind_some]
  cases hm : mayAd h l with
  | false => rfl
  | true =>
    have hh : mayH h = true := by unfold mayAd at hm; simp only [Bool.and_eq_true] at hm; exact hm.1
    obtain ⟨r, hr, h1, h2⟩ := rraw_eq h hu
    rw [h1]
    simp only [Option.bind_some]
    rw [if_neg (by simp), if_pos (by simp only [hr, maxBytes]; omega), h2 hh]
    rfl
theorem rwhole_eq (h : Hd) (l : List Int) (hu : HdOk h) (hb : By l) (hl : l.length ≤ 1000000) : ref11_Whole.p ((h, l, ()), ()) = some (whole h l, ()) := by
  unfold ref11_Whole.p whole
  have e : ((h.1, h.2.1, h.2.2.1, h.2.2.2.1, h.2.2.2.2.1, h.2.2.2.2.2.1, h.2.2.2.2.2.2.1, h.2.2.2.2.2.2.2.1, ()) : Hd) = h := rfl
  obtain ⟨r, hr, h1, h2⟩ := rraw_eq h hu
  simp only [e, h1, rmayAd_eq h l hl, Option.bind_some, jn_eq]
  rw [if_pos (by simp only [hr, maxBytes]; omega)]
  cases hm : mayAd h l with
  | false => rfl
  | true =>
    have hh : mayH h = true := by unfold mayAd at hm; simp only [Bool.and_eq_true] at hm; exact hm.1
    rw [h2 hh]
    have hlen : (b4 (headW h) ++ l).length = 20 + l.length := by rw [List.length_append, b4_length]; rfl
    simp only [Int.toNat_natCast, List.take_length, if_true, Bool.true_and]
    rw [if_pos (by omega), show (2 : Int).toNat = 2 from rfl, rFits_eq (((b4_by _).app hb).drop 2) (by simp only [List.length_drop]; omega)]
    rfl
theorem four_of {l : List Int} (hb : By l) (h : 4 ≤ l.length) : num (l.take 4) = ((rd l 0 * 256 + rd l 1) * 256 + rd l 2) * 256 + rd l 3 := by
  rcases l with _ | ⟨a, _ | ⟨b, _ | ⟨c, _ | ⟨d, t⟩⟩⟩⟩ <;> simp at h
  exact num4 a b c d (hb _ (by simp)) (hb _ (by simp)) (hb _ (by simp)) (hb _ (by simp))
theorem rreadH_eq (b : List Int) (hb : By b) (hl : b.length ≤ 1000000) : ref11_ReadHead.p (b, ()) = some (readH b) := by
  unfold ref11_ReadHead.p readH
  dsimp only
  by_cases h20 : b.length < 20
  · rw [if_pos (by simp; omega), if_pos h20]; rfl
  · rw [if_neg (by simp; omega), if_neg h20, if_pos (by omega)]
    have hrw : ref01_Rows.p (List.drop (Int.toNat 0) (List.take (Int.toNat 20) b), 4, ()) = some (chunks 4 5 b, 0, ()) := by
      show ref01_Rows.p (b.take 20, 4, ()) = _
      have ht : (b.take 20).length = 20 := by rw [List.length_take]; omega
      rw [rrows_eq (b.take 20) 4 (hb.take 20) (by omega)]
      unfold rows
      rw [if_neg (by omega), ht, if_pos (by decide)]
      show some (chunks 4 5 (b.take 20), (0 : Int), ()) = _
      rw [chunks_take 5 b 20 (by omega)]
    have hcl := chunks_length 4 5 b
    have hcm := chunks_mem 4 5 b hb
    rw [hrw]
    simp only [Option.bind_some, hcl]
    rw [if_pos (by omega), if_pos (by omega), if_pos (by omega), if_pos (by omega), if_pos (by omega), if_pos (by omega), if_pos (by omega), if_pos (by omega)]
    have g0 := hcm _ (rd_mem (chunks 4 5 b) 0 (by omega))
    have g4 := hcm _ (rd_mem (chunks 4 5 b) 4 (by omega))
    have c0 : rd (chunks 4 5 b) 0 = ((rd b 0 * 256 + rd b 1) * 256 + rd b 2) * 256 + rd b 3 := by
      rw [chunk_at 5 0 b (by omega), Nat.mul_zero, List.drop_zero]; exact four_of hb (by omega)
    have b0 := hb.at 0 (by omega)
    have b1 := hb.at 1 (by omega)
    have b2 := hb.at 2 (by omega)
    have b3 := hb.at 3 (by omega)
    have e0 : (0 : Int).toNat = 0 := rfl
    have e1 : (1 : Int).toNat = 1 := rfl
    have e2 : (2 : Int).toNat = 2 := rfl
    have e3 : (3 : Int).toNat = 3 := rfl
    have e4 : (4 : Int).toNat = 4 := rfl
    have e20 : (20 : Int).toNat = 20 := rfl
    have w0 : IntKind.i64.wrap (IntKind.u32.wrap (Int.tdiv (rd (chunks 4 5 b) 0) 65536)) = rd (chunks 4 5 b) 0 / 65536 := by rw [tdiv_pos g0.1, wu32, w64 (by omega)]; omega
    have w4 : IntKind.i64.wrap (IntKind.u32.wrap (Int.tdiv (rd (chunks 4 5 b) 4) 65536)) = rd (chunks 4 5 b) 4 / 65536 := by rw [tdiv_pos g4.1, wu32, w64 (by omega)]; omega
    have w5 : IntKind.i64.wrap (Int.tmod (rd (chunks 4 5 b) 4) 65536) = rd (chunks 4 5 b) 4 % 65536 := by rw [tmod_pos g4.1, w64 (by omega)]
    have w2 : IntKind.i64.wrap (rd b 2) = rd (chunks 4 5 b) 0 / 256 % 256 := by rw [w64 (by omega)]; omega
    have w3 : IntKind.i64.wrap (rd b 3) = rd (chunks 4 5 b) 0 % 256 := by rw [w64 (by omega)]; omega
    simp only [e0, e1, e2, e3, e4, e20, w0, w2, w3, w4, w5, Int.toNat_natCast, List.take_length, List.nil_append]
    have hh : ((rd (chunks 4 5 b) 0 / 65536, rd (chunks 4 5 b) 0 / 256 % 256, rd (chunks 4 5 b) 0 % 256, rd (chunks 4 5 b) 1, rd (chunks 4 5 b) 2, rd (chunks 4 5 b) 3, rd (chunks 4 5 b) 4 / 65536, rd (chunks 4 5 b) 4 % 65536, ()) : Hd) = hdOf (chunks 4 5 b) := rfl
    rw [hh, rmay_eq]
    simp only [Option.bind_some]
    cases hm : mayH (hdOf (chunks 4 5 b)) with
    | false => rfl
    | true =>
      rw [if_neg (by simp), if_pos (by omega), if_pos (by simp [maxBytes]; omega)]
      rfl
end Go.Proofs.Ytmmkdalbcfjogaa.F
