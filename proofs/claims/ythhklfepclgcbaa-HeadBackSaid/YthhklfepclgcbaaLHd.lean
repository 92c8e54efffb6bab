/- Packets of OSPF: as they are written. -/
import Derived.Test.YthhklfepclgcbaaLOct
import Derived.Test.YthhklfepclgcbaaLInt
import Derived.Test.YthhklfepclgcbaaLHa
import Derived.Test.YthhklfepclgcbaaFrd
set_option maxRecDepth 100000
set_option linter.unusedVariables false
set_option linter.unusedSimpArgs false
open Go Go.Proofs.Fr
namespace Go.Proofs.Ythhklfepclgcbaa.F
abbrev Au := Int × Int × Int × Int × Int × Int × Int × Int × Unit
abbrev Pk := Int × Int × Int × Int × Au × List Int × Unit
def auL (a : Au) : List Int := [a.1, a.2.1, a.2.2.1, a.2.2.2.1, a.2.2.2.2.1, a.2.2.2.2.2.1, a.2.2.2.2.2.2.1, a.2.2.2.2.2.2.2.1]
def PkOk (p : Pk) : Prop := (0 ≤ p.2.1 ∧ p.2.1 < 4294967296) ∧ (0 ≤ p.2.2.1 ∧ p.2.2.1 < 4294967296) ∧ By (auL p.2.2.2.2.1) ∧ By p.2.2.2.2.2.1
/-- What may stand ahead of Auth. -/
def Fit (p : Pk) : Prop := (0 ≤ p.1 ∧ p.1 ≤ 255) ∧ (0 ≤ p.2.2.2.1 ∧ p.2.2.2.1 ≤ 65535) ∧ p.2.2.2.2.2.1.length ≤ 65511
theorem be_one (n : Int) : be n 1 = [n % 256] := by simp [be]
theorem be_two (n : Int) : be n 2 = [n / 256 % 256, n % 256] := by simp [be]
theorem be_four (n : Int) : be n 4 = [n / 16777216 % 256, n / 65536 % 256, n / 256 % 256, n % 256] := by simp [be]
def hdB (p : Pk) (c : Int) : List Int := be 2 1 ++ (be p.1 1 ++ (be (24 + (p.2.2.2.2.2.1.length : Int)) 2 ++ (be p.2.1 4 ++ (be p.2.2.1 4 ++ (be c 2 ++ be p.2.2.2.1 2)))))
theorem hdB_len (p : Pk) (c : Int) : (hdB p c).length = 16 := by simp [hdB, be_length]
theorem hdB_by (p : Pk) (c : Int) : By (hdB p c) := (be_by _ _).app ((be_by _ _).app ((be_by _ _).app ((be_by _ _).app ((be_by _ _).app ((be_by _ _).app (be_by _ _))))))
theorem ahead_eq (p : Pk) (c : Int) (hp : PkOk p) (hf : Fit p) (hc : 0 ≤ c ∧ c ≤ 65535) : head_ahead.p (p, c, ()) = some (hdB p c, ()) := by
  obtain ⟨hR, hA, _, _⟩ := hp
  obtain ⟨hT, hu, hl⟩ := hf
  unfold head_ahead.p
  simp only [wu32]
  rw [w64 (x := 24 + (p.2.2.2.2.2.1.length : Int)) (by omega), show p.1 % 4294967296 = p.1 by omega, show (24 + (p.2.2.2.2.2.1.length : Int)) % 4294967296 = 24 + (p.2.2.2.2.2.1.length : Int) by omega, show c % 4294967296 = c by omega, show p.2.2.2.1 % 4294967296 = p.2.2.2.1 by omega]
  obtain ⟨xs, hxs⟩ : ∃ xs : List (Int × Int × Unit), [((2 : Int), (1 : Int), ()), (p.1, 1, ()), (24 + (p.2.2.2.2.2.1.length : Int), 2, ()), (p.2.1, 4, ()), (p.2.2.1, 4, ()), (c, 2, ()), (p.2.2.2.1, 2, ())] = xs := ⟨_, rfl⟩
  simp only [hxs]
  have hx : ∀ y ∈ xs, (0 ≤ y.1 ∧ y.1 < 4294967296) ∧ (1 ≤ y.2.1 ∧ y.2.1 ≤ 4) ∧ fits y.1 y.2.1 = true := by
    rw [← hxs]
    intro y hy
    simp only [List.mem_cons, List.not_mem_nil, or_false] at hy
    unfold fits
    rcases hy with rfl | rfl | rfl | rfl | rfl | rfl | rfl <;> refine ⟨⟨by simp only; omega, by simp only; omega⟩, ⟨by simp only; omega, by simp only; omega⟩, ?_⟩ <;> simp only [decide_eq_true_eq, ge_iff_le]
    · exact .inr (by decide)
    · exact .inr (by show p.1 / 256 ^ 1 = 0; omega)
    · exact .inr (by show (24 + (p.2.2.2.2.2.1.length : Int)) / 256 ^ 2 = 0; omega)
    · exact .inl (by omega)
    · exact .inl (by omega)
    · exact .inr (by show c / 256 ^ 2 = 0; omega)
    · exact .inr (by show p.2.2.2.1 / 256 ^ 2 = 0; omega)
  have hlx : xs.length = 7 := by rw [← hxs]; rfl
  have he : xs.flatMap (fun y => be y.1 y.2.1.toNat) = hdB p c := by
    rw [← hxs]
    simp only [List.flatMap_cons, List.flatMap_nil, List.append_nil]
    rfl
  clear hxs
  rw [jn_eq]
  refine (iterK_fix (F := fun x : List Int × Int × Unit => some (x.1 ++ (xs.drop x.2.1.toNat).flatMap (fun y => be y.1 y.2.1.toNat), ())) (m := fun x => 7 - x.2.1.toNat) (I := fun x => (0 ≤ x.2.1 ∧ x.2.1 ≤ 7) ∧ x.1.length ≤ 4 * x.2.1.toNat) ?_ _ _ ⟨by simp, by simp⟩ (by simp)).trans (by simp [he])
  rintro ⟨out, i, _⟩ r ⟨⟨i0, i1⟩, ho⟩ hr
  obtain ⟨k, rfl⟩ := Int.eq_ofNat_of_zero_le i0
  simp only [Int.toNat_natCast] at *
  by_cases hk : k < xs.length
  · have hm := hx _ (rdZ_mem (0, 0, ()) xs k hk)
    rw [if_pos (by simpa using hk), if_pos (by omega), drop_rdZ (0, 0, ()) xs k hk]
    generalize rdZ (0, 0, ()) xs k = y at *
    have hbl := be_length y.1 y.2.1.toNat
    rw [put_eq out y.1 y.2.1 hm.1 (by omega), bind_eq]
    unfold putB
    rw [if_neg (by omega), if_pos hm.2.2]
    simp only
    rw [w64 (by omega), hr (out ++ be y.1 y.2.1.toNat, (k : Int) + 1, ()) ⟨⟨by simp only; omega, by simp only; omega⟩, by simp only [List.length_append, hbl]; omega⟩ (by simp only; omega)]
    simp only [show ((k : Int) + 1).toNat = k + 1 by omega, List.flatMap_cons, List.append_assoc]
  · rw [if_neg (by simpa using hk), List.drop_eq_nil_of_le (by omega)]
    simp
def mayP (p : Pk) : Bool := decide ((1 ≤ p.1 ∧ p.1 ≤ 5) ∧ (0 ≤ p.2.2.2.1 ∧ p.2.2.2.1 ≤ 1) ∧ (p.2.2.2.2.2.1.length : Int) ≤ 1476)
theorem hMay_eq (p : Pk) : head_May.p (p, ()) = some (mayP p, ()) := by
  unfold head_May.p head_isType.p mayP
  simp only [jn_eq]
  by_cases h1 : p.1 ≥ 1 <;> by_cases h2 : p.1 ≤ 5 <;> by_cases h3 : p.2.2.2.1 ≥ 0 <;> by_cases h4 : p.2.2.2.1 ≤ 1 <;> by_cases h5 : (p.2.2.2.2.2.1.length : Int) ≤ 1476 <;> simp [h1, h2, h3, h4, h5] <;> omega
def chk (p : Pk) : Int := isum (hdB p 0 ++ p.2.2.2.2.2.1)
theorem chk_range (p : Pk) (hp : PkOk p) : 0 ≤ chk p ∧ chk p ≤ 65535 := isum_range ((hdB_by p 0).app hp.2.2.2)
theorem check_eq (p : Pk) (hp : PkOk p) (hf : Fit p) : head_check.p (p, ()) = some (chk p, ()) := by
  unfold head_check.p
  have hl := hf.2.2
  rw [ahead_eq p 0 hp hf (by omega), bind_eq, if_pos (by simp only [hdB_len, maxBytes]; omega), Internet_eq _ ((hdB_by p 0).app hp.2.2.2) (by rw [List.length_append, hdB_len]; omega), bind_eq]
  rfl
def encB (p : Pk) : List Int := hdB p (chk p) ++ (auL p.2.2.2.2.1 ++ p.2.2.2.2.2.1)
theorem mayP_fit {p : Pk} (h : mayP p = true) : Fit p := by
  unfold mayP at h
  rw [decide_eq_true_eq] at h
  unfold Fit
  omega
theorem join_ok (a b c : List Int) (ha : By a) (hb : By b) (hc : By c) (hl : a.length + (b.length + c.length) ≤ 1000000) : bytes_Join.p ([a, b, c], [], ()) = some (a ++ (b ++ c), ()) := by
  first
  | (
      unfold bytes_Join.p
      have h : bytes_Join_ok [a, b, c] [] = true := by
        unfold bytes_Join_ok
        simp only [Bool.and_eq_true, Nat.ble_eq, List.isEmpty_iff, List.all_eq_true, decide_eq_true_eq]
        refine ⟨⟨⟨⟨by simp, by simp⟩, trivial⟩, by simp only [List.flatten_cons, List.flatten_nil, List.append_nil, List.length_append]; omega⟩, ?_⟩
        intro l hl x hx
        simp only [List.mem_cons, List.not_mem_nil, or_false] at hl
        rcases hl with rfl | rfl | rfl
        · have := ha x hx; omega
        · have := hb x hx; omega
        · have := hc x hx; omega
      simp only
      rw [if_pos h]
      simp only [Option.map_some, List.flatten_cons, List.flatten_nil, List.append_nil]
    )
  | (
      unfold bytes_Join.p
      simp only
      rw [if_pos ⟨by simp, by simp, rfl, by simp only [List.flatten_cons, List.flatten_nil, List.append_nil, List.length_append]; omega⟩]
      simp only [List.flatten_cons, List.flatten_nil, List.append_nil]
    )
theorem au_cut (a : Au) : List.drop (Int.toNat 0) (List.take (Int.toNat (8 : Int)) ([a.1, a.2.1, a.2.2.1, a.2.2.2.1, a.2.2.2.2.1, a.2.2.2.2.2.1, a.2.2.2.2.2.2.1, a.2.2.2.2.2.2.2.1] : List Int)) = auL a := rfl
theorem Encode_eq (p : Pk) (hp : PkOk p) : head_Encode.p (p, ()) = some (if mayP p = true then (encB p, 0, ()) else ([], 1, ())) := by
  unfold head_Encode.p
  rw [hMay_eq, bind_eq]
  by_cases hm : mayP p = true
  · have hf := mayP_fit hm
    have hl := hf.2.2
    rw [if_neg (by simp [hm]), if_pos hm, check_eq p hp hf, bind_eq, ahead_eq p (chk p) hp hf (chk_range p hp), bind_eq, if_pos (by omega), au_cut, join_ok _ _ _ (hdB_by _ _) hp.2.2.1 hp.2.2.2 (by rw [hdB_len]; simp only [auL, List.length_cons, List.length_nil]; omega), bind_eq]
    rfl
  · rw [if_pos (by simp [hm]), if_neg hm]
end Go.Proofs.Ythhklfepclgcbaa.F
