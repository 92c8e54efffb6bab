/- Advertisements' heads and bytes: what the functions of lsa compute. -/
import Derived.Test.YthbcmgpmjljdeaaGreatLB4
import Derived.Test.YthbcmgpmjljdeaaGreatLSum
set_option maxRecDepth 100000
set_option linter.unusedVariables false
set_option linter.unusedSimpArgs false
open Go Go.Proofs.Fr
namespace Go.Proofs.YthbcmgpmjljdeaaGreat.F
abbrev Hd := Int × Int × Int × Int × Int × Int × Int × Int × Unit
abbrev Ad := Hd × List Int × Unit
def mayH (h : Hd) : Bool := decide (((1 ≤ h.2.2.1 ∧ h.2.2.1 ≤ 5) ∨ h.2.2.1 = 7) ∧ (0 ≤ h.1 ∧ h.1 ≤ 3600) ∧ (0 ≤ h.2.1 ∧ h.2.1 ≤ 255) ∧ (0 ≤ h.2.2.2.2.2.2.1 ∧ h.2.2.2.2.2.2.1 ≤ 65535) ∧ (20 ≤ h.2.2.2.2.2.2.2.1 ∧ h.2.2.2.2.2.2.2.1 ≤ 1400))
theorem lIn (x l h : Int) : lsa_isIn.p (x, l, h, ()) = some (decide (l ≤ x ∧ x ≤ h), ()) := by
  unfold lsa_isIn.p
  by_cases h1 : l ≤ x <;> simp [jn_eq, h1]
theorem may_eq (h : Hd) : lsa_May.p (h, ()) = some (mayH h, ()) := by
  obtain ⟨age, opt, ty, id, adv, seq, sm, len, _⟩ := h
  unfold lsa_May.p mayH
  simp only [lIn, jn_eq, Option.bind_some]
  by_cases h1 : 1 ≤ ty ∧ ty ≤ 5
  · by_cases h2 : 0 ≤ age ∧ age ≤ 3600
    · by_cases h3 : 0 ≤ opt ∧ opt ≤ 255
      · by_cases h4 : 0 ≤ sm ∧ sm ≤ 65535 <;> simp [h1, h2, h3, h4]
      · simp [h1, h2, h3]
    · simp [h1, h2]
  · by_cases h7 : ty = 7
    · by_cases h2 : 0 ≤ age ∧ age ≤ 3600
      · by_cases h3 : 0 ≤ opt ∧ opt ≤ 255
        · by_cases h4 : 0 ≤ sm ∧ sm ≤ 65535 <;> simp [h7, h2, h3, h4]
        · simp [h7, h2, h3]
      · simp [h7, h2]
    · simp [h1, h7]
theorem mayH_iff (h : Hd) : mayH h = true ↔ (((1 ≤ h.2.2.1 ∧ h.2.2.1 ≤ 5) ∨ h.2.2.1 = 7) ∧ (0 ≤ h.1 ∧ h.1 ≤ 3600) ∧ (0 ≤ h.2.1 ∧ h.2.1 ≤ 255) ∧ (0 ≤ h.2.2.2.2.2.2.1 ∧ h.2.2.2.2.2.2.1 ≤ 65535) ∧ (20 ≤ h.2.2.2.2.2.2.2.1 ∧ h.2.2.2.2.2.2.2.1 ≤ 1400)) := by
  unfold mayH; exact decide_eq_true_iff
/-- A head as five numbers, and back. -/
def headW (h : Hd) : List Int := [h.1 * 65536 + h.2.1 * 256 + h.2.2.1, h.2.2.2.1, h.2.2.2.2.1, h.2.2.2.2.2.1, h.2.2.2.2.2.2.1 * 65536 + h.2.2.2.2.2.2.2.1]
def hdOf (g : List Int) : Hd := (rd g 0 / 65536, rd g 0 / 256 % 256, rd g 0 % 256, rd g 1, rd g 2, rd g 3, rd g 4 / 65536, rd g 4 % 65536, ())
def HdOk (h : Hd) : Prop := U32 h.2.2.2.1 ∧ U32 h.2.2.2.2.1 ∧ U32 h.2.2.2.2.2.1
theorem headW_u32 {h : Hd} (hm : mayH h = true) (hu : HdOk h) : ∀ x ∈ headW h, U32 x := by
  have := (mayH_iff h).1 hm
  obtain ⟨u1, u2, u3⟩ := hu
  intro x hx
  simp only [headW, List.mem_cons, List.not_mem_nil, or_false] at hx
  rcases hx with rfl | rfl | rfl | rfl | rfl
  · unfold U32; omega
  · exact u1
  · exact u2
  · exact u3
  · unfold U32; omega
theorem hdOf_headW {h : Hd} (hm : mayH h = true) : hdOf (headW h) = h := by
  have := (mayH_iff h).1 hm
  obtain ⟨age, opt, ty, id, adv, seq, sm, len, _⟩ := h
  simp only at this
  unfold hdOf headW
  simp only [rd, List.getD_cons_zero, List.getD_cons_succ]
  rw [show (age * 65536 + opt * 256 + ty) / 65536 = age by omega, show (age * 65536 + opt * 256 + ty) / 256 % 256 = opt by omega, show (age * 65536 + opt * 256 + ty) % 256 = ty by omega, show (sm * 65536 + len) / 65536 = sm by omega, show (sm * 65536 + len) % 65536 = len by omega]
theorem headW_hdOf {g : List Int} (hl : g.length = 5) (hg : ∀ x ∈ g, U32 x) : headW (hdOf g) = g ∧ HdOk (hdOf g) := by
  rcases g with _ | ⟨a, _ | ⟨b, _ | ⟨c, _ | ⟨d, _ | ⟨e, r⟩⟩⟩⟩⟩
  · simp at hl
  · simp at hl
  · simp at hl
  · simp at hl
  · simp at hl
  · have hr : r = [] := by simpa using hl
    subst hr
    have ha := hg a (by simp)
    have he := hg e (by simp)
    refine ⟨?_, hg b (by simp), hg c (by simp), hg d (by simp)⟩
    unfold headW hdOf
    simp only [rd, List.getD_cons_zero, List.getD_cons_succ]
    unfold U32 at ha he
    rw [show a / 65536 * 65536 + a / 256 % 256 * 256 + a % 256 = a by omega, show e / 65536 * 65536 + e % 65536 = e by omega]
theorem raw_eq (h : Hd) (hm : mayH h = true) (hu : HdOk h) : lsa_raw.p (h, ()) = some (b4 (headW h), ()) := by
  have hx := headW_u32 hm hu
  have := (mayH_iff h).1 hm
  obtain ⟨age, opt, ty, id, adv, seq, sm, len, _⟩ := h
  simp only at this
  unfold lsa_raw.p
  simp only
  have e1 : ibits .or .u32 (ibits .or .u32 (IntKind.u32.wrap (IntKind.u32.wrap age * 2 ^ 16)) (IntKind.u32.wrap (IntKind.u32.wrap opt * 2 ^ 8))) (IntKind.u32.wrap ty) = age * 65536 + opt * 256 + ty := by
    rw [wu32 age, wu32 opt, wu32 ty, wu32, wu32, show age % 4294967296 * 2 ^ 16 % 4294967296 = age * 65536 by omega, show opt % 4294967296 * 2 ^ 8 % 4294967296 = opt * 256 by omega, show ty % 4294967296 = ty by omega]
    rw [or_join 16 (by omega) (x := age * 65536) (y := opt * 256) (by omega) (by simp) (by simp; omega)]
    exact or_join 8 (by omega) (by omega) (by simp; omega) (by simp; omega)
  have e2 : ibits .or .u32 (IntKind.u32.wrap (IntKind.u32.wrap sm * 2 ^ 16)) (IntKind.u32.wrap len) = sm * 65536 + len := by
    rw [wu32 sm, wu32 len, wu32, show sm % 4294967296 * 2 ^ 16 % 4294967296 = sm * 65536 by omega, show len % 4294967296 = len by omega]
    exact or_join 16 (by omega) (by omega) (by simp) (by simp; omega)
  rw [e1, e2]
  have hr := row_eq (headW (age, opt, ty, id, adv, seq, sm, len, ())) 4 hx (by simp [headW])
  rw [rowB4] at hr
  unfold headW at hr ⊢
  simp only at hr
  rw [hr]
  rfl
theorem bytesOf_eq (h : Hd) (l : List Int) (hm : mayH h = true) (hu : HdOk h) (hl : l.length ≤ 1000000) : lsa_bytesOf.p ((h, l, ()), ()) = some (b4 (headW h) ++ l, ()) := by
  unfold lsa_bytesOf.p
  have e : ((h.1, h.2.1, h.2.2.1, h.2.2.2.1, h.2.2.2.2.1, h.2.2.2.2.2.1, h.2.2.2.2.2.2.1, h.2.2.2.2.2.2.2.1, ()) : Hd) = h := rfl
  simp only [e, raw_eq h hm hu, Option.bind_some]
  rw [if_pos (by simp only [b4_length, headW, List.length_cons, List.length_nil, maxBytes]; omega)]
def mayAd (h : Hd) (l : List Int) : Bool := mayH h && decide (h.2.2.2.2.2.2.2.1 = 20 + (l.length : Int))
theorem mayAd_eq (h : Hd) (l : List Int) (hl : l.length ≤ 1000000) : lsa_mayAd.p ((h, l, ()), ()) = some (mayAd h l, ()) := by
  unfold lsa_mayAd.p mayAd
  have e : ((h.1, h.2.1, h.2.2.1, h.2.2.2.1, h.2.2.2.2.1, h.2.2.2.2.2.1, h.2.2.2.2.2.2.1, h.2.2.2.2.2.2.2.1, ()) : Hd) = h := rfl
  simp only [e, may_eq, Option.bind_some, jn_eq]
  rw [w64 (by omega)]
  cases mayH h <;> rfl
def whole (h : Hd) (l : List Int) : Bool := mayAd h l && fitsF ((b4 (headW h) ++ l).drop 2)
theorem whole_eq (h : Hd) (l : List Int) (hu : HdOk h) (hb : By l) (hl : l.length ≤ 1000000) : lsa_Whole.p ((h, l, ()), ()) = some (whole h l, ()) := by
  unfold lsa_Whole.p whole
  have e : ((h.1, h.2.1, h.2.2.1, h.2.2.2.1, h.2.2.2.2.1, h.2.2.2.2.2.1, h.2.2.2.2.2.2.1, h.2.2.2.2.2.2.2.1, ()) : Hd) = h := rfl
  simp only [e, mayAd_eq h l hl, Option.bind_some, jn_eq]
  cases hm : mayAd h l with
  | false => rfl
  | true =>
    have hh : mayH h = true := by unfold mayAd at hm; simp only [Bool.and_eq_true] at hm; exact hm.1
    have hlen : (b4 (headW h) ++ l).length = 20 + l.length := by rw [List.length_append, b4_length]; rfl
    rw [bytesOf_eq h l hh hu hl]
    simp only [Option.bind_some, Int.toNat_natCast, List.take_length, if_true, Bool.true_and]
    rw [if_pos (by omega), show (2 : Int).toNat = 2 from rfl, Fits_eq (((b4_by _).app hb).drop 2) (by simp only [List.length_drop]; omega)]
    rfl
def noH : Hd := (0, 0, 0, 0, 0, 0, 0, 0, ())
/-- A head, read off bytes. -/
def readH (b : List Int) : Hd × List Int × Int × Unit :=
  if b.length < 20 then (noH, [], 2, ()) else if mayH (hdOf (chunks 4 5 b)) = true then (hdOf (chunks 4 5 b), b.drop 20, 0, ()) else (noH, [], 3, ())
theorem chunks_take (q : Nat) : ∀ (b : List Int) (n : Nat), 4 * q ≤ n → chunks 4 q (b.take n) = chunks 4 q b := by
  induction q with
  | zero => intro b n _; rfl
  | succ q ih =>
    intro b n h
    show num ((b.take n).take 4) :: chunks 4 q ((b.take n).drop 4) = num (b.take 4) :: chunks 4 q (b.drop 4)
    rw [List.take_take, List.drop_take, Nat.min_eq_left (by omega), ih _ _ (by omega)]
end Go.Proofs.YthbcmgpmjljdeaaGreat.F
