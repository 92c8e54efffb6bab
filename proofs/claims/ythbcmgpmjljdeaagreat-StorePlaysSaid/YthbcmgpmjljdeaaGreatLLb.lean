/- Advertisements there and back: decoded, sealed, made older; the law. -/
import Derived.Test.YthbcmgpmjljdeaaGreatLLsa
import Derived.Test.YthbcmgpmjljdeaaGreatFrd
set_option maxRecDepth 100000
set_option linter.unusedVariables false
set_option linter.unusedSimpArgs false
open Go Go.Proofs.Fr
namespace Go.Proofs.YthbcmgpmjljdeaaGreat.F
abbrev lenOf (h : Hd) : Int := h.2.2.2.2.2.2.2.1
def dec (b : List Int) : Ad × List Int × Int × Unit :=
  if ¬ (readH b).2.2.1 = 0 then ((noH, [], ()), [], (readH b).2.2.1, ())
  else if ¬ (cut (readH b).2.1 (lenOf (readH b).1 - 20)).2.2.1 = 0 then ((noH, [], ()), [], (cut (readH b).2.1 (lenOf (readH b).1 - 20)).2.2.1, ())
  else if whole (readH b).1 (cut (readH b).2.1 (lenOf (readH b).1 - 20)).1 = true then (((readH b).1, (cut (readH b).2.1 (lenOf (readH b).1 - 20)).1, ()), (cut (readH b).2.1 (lenOf (readH b).1 - 20)).2.1, 0, ())
  else ((noH, [], ()), [], 4, ())
theorem readH_ok {b : List Int} (hb : By b) (h : (readH b).2.2.1 = 0) : 20 ≤ b.length ∧ (readH b).1 = hdOf (chunks 4 5 b) ∧ mayH (readH b).1 = true ∧ (readH b).2.1 = b.drop 20 ∧ HdOk (readH b).1 ∧ b4 (headW (readH b).1) = b.take 20 := by
  unfold readH at h ⊢
  split at h
  · cases h
  · rename_i h1
    rw [if_neg h1]
    split at h
    · rename_i h2
      rw [if_pos h2]
      obtain ⟨k1, k2⟩ := headW_hdOf (chunks_length 4 5 b) (chunks_mem 4 5 b hb)
      refine ⟨by omega, rfl, h2, rfl, k2, ?_⟩
      show b4 (headW (hdOf (chunks 4 5 b))) = _
      rw [k1, ← chunks_take 5 b 20 (by omega)]
      exact b4_chunks 5 (b.take 20) (hb.take 20) (by rw [List.length_take]; omega)
    · cases h
theorem whole_len {h : Hd} {l : List Int} (hw : whole h l = true) : mayH h = true ∧ lenOf h = 20 + (l.length : Int) ∧ fitsF ((b4 (headW h) ++ l).drop 2) = true := by
  unfold whole mayAd at hw
  simp only [Bool.and_eq_true, decide_eq_true_eq] at hw
  exact ⟨hw.1.1, hw.1.2, hw.2⟩
theorem dec_zero {b : List Int} (hb : By b) (h : (dec b).2.2.1 = 0) : ∃ (hd : Hd) (l rest : List Int), hd = hdOf (chunks 4 5 b) ∧ HdOk hd ∧ b = b4 (headW hd) ++ l ++ rest ∧ whole hd l = true := by
  unfold dec at h
  split at h
  · rename_i h1; exact absurd h h1
  · rename_i h1
    obtain ⟨k0, k1, k2, k3, k4, k5⟩ := readH_ok hb (Decidable.not_not.1 h1)
    split at h
    · rename_i h2; exact absurd h h2
    · split at h
      · rename_i h2 h3
        refine ⟨(readH b).1, _, b.drop (20 + (lenOf (readH b).1 - 20).toNat), k1, k4, ?_, h3⟩
        have hc : cut (readH b).2.1 (lenOf (readH b).1 - 20) = ((b.drop 20).take (lenOf (readH b).1 - 20).toNat, (b.drop 20).drop (lenOf (readH b).1 - 20).toNat, 0, ()) := by
          have h2' := Decidable.not_not.1 h2
          unfold cut at h2' ⊢
          split at h2'
          · cases h2'
          · rename_i q1
            split at h2'
            · cases h2'
            · rename_i q2
              rw [if_neg q1, if_neg q2, k3]
        rw [hc, k5]
        simp only
        rw [List.append_assoc, ← List.drop_drop, List.take_append_drop, List.take_append_drop]
      · cases h
theorem dec_of (hd : Hd) (l rest : List Int) (hu : HdOk hd) (hl : By l) (hr : By rest) (hw : whole hd l = true) : dec (b4 (headW hd) ++ l ++ rest) = ((hd, l, ()), rest, 0, ()) := by
  obtain ⟨hm, hlen, hf⟩ := whole_len hw
  have hbl : (b4 (headW hd)).length = 20 := by rw [b4_length]; rfl
  have hch : chunks 4 5 (b4 (headW hd) ++ l ++ rest) = headW hd := by
    rw [← chunks_take 5 _ 20 (by omega), List.append_assoc, List.take_left' hbl]
    exact chunks_b4 (headW hd) (headW_u32 hm hu)
  have hrd : readH (b4 (headW hd) ++ l ++ rest) = (hd, l ++ rest, 0, ()) := by
    unfold readH
    rw [if_neg (by simp only [List.length_append, hbl]; omega), hch, hdOf_headW hm, if_pos hm, List.append_assoc, List.drop_left' hbl]
  have hc : cut (l ++ rest) (lenOf hd - 20) = (l, rest, 0, ()) := by
    unfold cut
    rw [if_neg (by omega), if_neg (by simp only [List.length_append]; omega), show (lenOf hd - 20).toNat = l.length by omega, List.take_left' rfl, List.drop_left' rfl]
  unfold dec
  rw [hrd]
  simp only [hc, hw, not_true_eq_false, if_false, if_true]
theorem be_pair (x y n : Int) (hx : 0 ≤ x ∧ x ≤ 255) (hy : 0 ≤ y ∧ y ≤ 255) (hn : 0 ≤ n ∧ n ≤ 65535) : be ((x * 256 + y) * 65536 + n) 4 = [x, y, n / 256, n % 256] := by
  simp only [be, show (256 : Int) ^ 3 = 16777216 by decide, show (256 : Int) ^ 2 = 65536 by decide, show (256 : Int) ^ 1 = 256 by decide, show (256 : Int) ^ 0 = 1 by decide]
  congr 1
  · omega
  · congr 1
    · omega
    · congr 1
      · omega
      · congr 1
        omega
theorem be_first (a o t : Int) (ha : 0 ≤ a ∧ a ≤ 65535) (ho : 0 ≤ o ∧ o ≤ 255) (ht : 0 ≤ t ∧ t ≤ 255) : be (a * 65536 + o * 256 + t) 4 = [a / 256, a % 256, o, t] := by
  simp only [be, show (256 : Int) ^ 3 = 16777216 by decide, show (256 : Int) ^ 2 = 65536 by decide, show (256 : Int) ^ 1 = 256 by decide, show (256 : Int) ^ 0 = 1 by decide]
  congr 1
  · omega
  · congr 1
    · omega
    · congr 1
      · omega
      · congr 1
        omega
/-- A head of another age: all but two bytes are the same. -/
theorem aged (h : Hd) (l : List Int) (hm : mayH h = true) (t : Int) (ht : 0 ≤ t ∧ t ≤ 3600) : mayH (t, h.2) = true ∧ (b4 (headW (t, h.2)) ++ l).drop 2 = (b4 (headW h) ++ l).drop 2 := by
  have k := (mayH_iff h).1 hm
  refine ⟨(mayH_iff _).2 ⟨k.1, ht, k.2.2⟩, ?_⟩
  unfold headW
  rw [b4_cons, b4_cons (h.1 * 65536 + h.2.1 * 256 + h.2.2.1)]
  simp only
  rw [be_first t _ _ (by omega) (by omega) (by omega), be_first h.1 _ _ (by omega) (by omega) (by omega)]
  rfl
/-- A head with another sum: just two bytes are set. -/
theorem summed (h : Hd) (l : List Int) (hm : mayH h = true) (h0 : h.2.2.2.2.2.2.1 = 0) (x y : Int) (hx : 0 ≤ x ∧ x ≤ 255) (hy : 0 ≤ y ∧ y ≤ 255) :
    (b4 (headW (h.1, h.2.1, h.2.2.1, h.2.2.2.1, h.2.2.2.2.1, h.2.2.2.2.2.1, x * 256 + y, h.2.2.2.2.2.2.2.1, ())) ++ l).drop 2 = set2 ((b4 (headW h) ++ l).drop 2) 14 x y := by
  have k := (mayH_iff h).1 hm
  have e0 : h.2.2.2.2.2.2.1 * 65536 + h.2.2.2.2.2.2.2.1 = (0 * 256 + 0) * 65536 + h.2.2.2.2.2.2.2.1 := by rw [h0]; omega
  unfold headW
  simp only [e0, b4_cons, b4_nil, be_pair x y _ hx hy (show 0 ≤ h.2.2.2.2.2.2.2.1 ∧ h.2.2.2.2.2.2.2.1 ≤ 65535 by omega), be_pair 0 0 _ (by omega) (by omega) (show 0 ≤ h.2.2.2.2.2.2.2.1 ∧ h.2.2.2.2.2.2.2.1 ≤ 65535 by omega)]
  simp only [be, set2, List.cons_append, List.nil_append, List.append_nil, List.drop_succ_cons, List.drop_zero, List.set_cons_succ, List.set_cons_zero]
end Go.Proofs.YthbcmgpmjljdeaaGreat.F
