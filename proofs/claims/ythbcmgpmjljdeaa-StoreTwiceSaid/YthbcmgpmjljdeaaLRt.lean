/- Routers' bodies, read and written. -/
import Derived.Test.YthbcmgpmjljdeaaLOct
set_option maxRecDepth 100000
set_option linter.unusedVariables false
set_option linter.unusedSimpArgs false
open Go Go.Proofs.Fr
namespace Go.Proofs.Ythbcmgpmjljdeaa.F
abbrev Lk := Int × Int × Int × Int × Unit
abbrev rdL (l : List Lk) (i : Nat) : Lk := rdZ (0, 0, 0, 0, ()) l i
theorem drop_rdL (l : List Lk) (i : Nat) (h : i < l.length) : l.drop i = rdL l i :: l.drop (i + 1) := drop_rdZ _ l i h
def good (x : Lk) : Bool := decide (1 ≤ x.1 ∧ x.1 ≤ 4 ∧ 0 ≤ x.2.2.2.1 ∧ x.2.2.2.1 ≤ 65535)
def mayR (fl : Int) (ls : List Lk) : Bool := decide (0 ≤ fl ∧ fl ≤ 31 ∧ (ls.length : Int) ≤ 100) && ls.all good
theorem bIn (n a b : Int) : body_isIn.p (n, a, b, ()) = some (decide (a ≤ n ∧ n ≤ b), ()) := by
  unfold body_isIn.p
  by_cases h : a ≤ n <;> simp [jn_eq, h]
theorem mayR_eq (fl : Int) (ls : List Lk) (hs : ls.length < 1000000) : body_mayRouter.p ((fl, ls, ()), ()) = some (mayR fl ls, ()) := by
  unfold body_mayRouter.p mayR
  simp only [jn_eq, bIn, Option.bind_some]
  refine (iterK_fix (F := fun x => some (decide (0 ≤ fl ∧ fl ≤ 31 ∧ (ls.length : Int) ≤ 100) && (ls.drop x.1.toNat).all good, ())) (m := fun x => ls.length - x.1.toNat) (I := fun x => 0 ≤ x.1 ∧ x.1 ≤ (ls.length : Int)) ?_ _ _ ⟨by simp, by simp⟩ (by simp; omega)).trans (by simp)
  rintro ⟨i, _⟩ r ⟨i0, i1⟩ hr
  obtain ⟨j, rfl⟩ := Int.eq_ofNat_of_zero_le i0
  simp only [Int.toNat_natCast] at *
  by_cases hj : j < ls.length
  · rw [if_pos (by simpa using hj), if_pos (by omega), drop_rdL ls j hj, List.all_cons]
    by_cases h1 : 1 ≤ (rdL ls j).1 ∧ (rdL ls j).1 ≤ 4
    · by_cases h2 : 0 ≤ (rdL ls j).2.2.2.1 ∧ (rdL ls j).2.2.2.1 ≤ 65535
      · have hg : good (rdL ls j) = true := by simp only [good, decide_eq_true_eq]; omega
        simp only [h1, h2, and_self, decide_true, Bool.not_true, Bool.false_eq_true, if_false, hg, Bool.true_and]
        rw [w64 (by first | omega | (dsimp only; omega) | (simp only [List.length_cons, List.length_nil, List.length_append, List.length_drop, List.length_take, maxBytes]; omega) | (simp; omega)), hr ((j : Int) + 1, ()) ⟨by first | omega | (dsimp only; omega) | (simp only [List.length_cons, List.length_nil, List.length_append, List.length_drop, List.length_take, maxBytes]; omega) | (simp; omega), by first | omega | (dsimp only; omega) | (simp only [List.length_cons, List.length_nil, List.length_append, List.length_drop, List.length_take, maxBytes]; omega) | (simp; omega)⟩ (by first | omega | (dsimp only; omega) | (simp only [List.length_cons, List.length_nil, List.length_append, List.length_drop, List.length_take, maxBytes]; omega) | (simp; omega))]
        rfl
      · have hg : good (rdL ls j) = false := by simp only [good, decide_eq_false_iff_not]; omega
        simp only [h1, h2, and_self, decide_true, decide_false, Bool.not_true, Bool.not_false, Bool.false_eq_true, if_false, if_true, hg, Bool.false_and, Bool.and_false]
    · have hg : good (rdL ls j) = false := by simp only [good, decide_eq_false_iff_not]; omega
      simp only [h1, decide_false, Bool.not_false, if_true, hg, Bool.false_and, Bool.and_false]
  · rw [if_neg (by simpa using hj), List.drop_eq_nil_of_le (by omega)]
    by_cases h : 0 ≤ fl ∧ fl ≤ 31
    · rw [if_pos (by simpa using h)]
      have e : (0 ≤ fl ∧ fl ≤ 31 ∧ (ls.length : Int) ≤ 100) ↔ (ls.length : Int) ≤ 100 := by omega
      simp only [e, List.all_nil, Bool.and_true]
    · rw [if_neg (by simpa using h)]
      have e : ¬ (0 ≤ fl ∧ fl ≤ 31 ∧ (ls.length : Int) ≤ 100) := by omega
      simp only [e, decide_false, Bool.false_and]
/-- Numbers as links. -/
def lk (a b t : Int) : Lk := (t / 16777216, a, b, t % 65536, ())
def links : List Int → List Lk
  | a :: b :: t :: r => lk a b t :: links r
  | _ => []
def zer : List Int → Bool
  | _ :: _ :: t :: r => decide (t / 65536 % 256 = 0) && zer r
  | _ => true
theorem links_length : ∀ (q : Nat) (g : List Int), g.length = 3 * q → (links g).length = q := by
  intro q
  induction q with
  | zero => intro g hg; cases g <;> simp at hg; rfl
  | succ q ih =>
    intro g hg
    rcases g with _ | ⟨a, _ | ⟨b, _ | ⟨t, r⟩⟩⟩
    · simp at hg
    · simp at hg; omega
    · simp at hg; omega
    · simp only [links, List.length_cons]
      rw [ih r (by simp at hg; omega)]
theorem mid {t : Int} (h : 0 ≤ t ∧ t < 4294967296) : ibits .and .u32 (Int.fdiv t (2 ^ 16)) 255 = t / 65536 % 256 := by
  rw [fdiv_pos (by decide)]
  exact and_mask 8 (by omega) (x := t / 65536) (by omega)
theorem low16 {t : Int} (h : 0 ≤ t ∧ t < 4294967296) : ibits .and .u32 t 65535 = t % 65536 := and_mask 16 (by omega) h
abbrev RR := (Int × List Lk × Unit) × Int × Unit
def no (c : Int) : RR := ((0, [], ()), c, ())
/-- What is read of links' numbers. -/
def fin (fl : Int) (acc : List Lk) (g : List Int) : RR := if (zer g && mayR fl (acc ++ links g)) = true then ((fl, acc ++ links g, ()), 0, ()) else no 3
theorem read_loop (fl : Int) (g0 : List Int) (hg0 : ∀ x ∈ g0, 0 ≤ x ∧ x < 4294967296) (h3 : g0.length % 3 = 0) (hl : g0.length < 100000) (hfl : 0 ≤ fl ∧ fl ≤ 255) (b : (List Int × (Int × List Lk × Unit) × Unit) → ((List Int × (Int × List Lk × Unit) × Unit) → Option RR) → Option RR)
    (hb1 : ∀ a b' t r acc k, (∀ x ∈ a :: b' :: t :: r, 0 ≤ x ∧ x < 4294967296) → r.length < 100000 → acc.length < 100000 → b (a :: b' :: t :: r, (fl, acc, ()), ()) k = if t / 65536 % 256 = 0 then k (r, (fl, acc ++ [lk a b' t], ()), ()) else some (no 3))
    (hb2 : ∀ acc k, acc.length < 100000 → b ([], (fl, acc, ()), ()) k = some (fin fl acc [])) :
    iterK 4611686018427387904 b (g0, (fl, [], ()), ()) = some (fin fl [] g0) := by
  refine iterK_fix (F := fun x : List Int × (Int × List Lk × Unit) × Unit => some (fin fl x.2.1.2.1 x.1)) (m := fun x => x.1.length) (I := fun x => (∀ y ∈ x.1, 0 ≤ y ∧ y < 4294967296) ∧ x.1.length % 3 = 0 ∧ x.2.1.2.1.length + x.1.length < 100000 ∧ x.2.1.1 = fl) ?_ _ _ ⟨hg0, h3, by simpa using hl, rfl⟩ (by simp; omega)
  rintro ⟨g, ⟨fl', acc, _⟩, _⟩ k ⟨i1, i2, i3, i4⟩ hk
  simp only at i1 i2 i3 i4 ⊢
  subst i4
  rcases g with _ | ⟨a, _ | ⟨b', _ | ⟨t, r⟩⟩⟩
  · exact hb2 acc k (by simpa using i3)
  · simp at i2
  · simp at i2
  · simp only [List.length_cons] at i2 i3
    rw [hb1 a b' t r acc k i1 (by omega) (by omega)]
    by_cases hz : t / 65536 % 256 = 0
    · rw [if_pos hz, hk (r, (fl', acc ++ [lk a b' t], ()), ()) ⟨fun x hx => i1 x (by simp [hx]), by simp; omega, by simp; omega, rfl⟩ (by simp; omega)]
      simp only [fin, zer, links, hz, decide_true, Bool.true_and, List.append_assoc, List.cons_append, List.nil_append]
    · rw [if_neg hz]
      simp only [fin, zer, hz, decide_false, Bool.false_and, Bool.false_eq_true, if_false]
/-- A router's body, read. -/
def readR (l : List Int) : RR :=
  if l.length < 4 ∨ (l.length : Int) < 4 + 12 * (256 * rd l 2 + rd l 3) then no 2
  else if (l.length : Int) = 4 + 12 * (256 * rd l 2 + rd l 3) ∧ rd l 1 = 0 then fin (rd l 0) [] (chunks 4 ((l.length - 4) / 4) (l.drop 4)) else no 3
theorem num4r (a b c d : Int) (ha : 0 ≤ a ∧ a ≤ 255) (hb : 0 ≤ b ∧ b ≤ 255) (hc : 0 ≤ c ∧ c ≤ 255) (hd : 0 ≤ d ∧ d ≤ 255) : num [a, b, c, d] = ((a * 256 + b) * 256 + c) * 256 + d := by
  simp only [num, nacc, List.foldl]
  omega
theorem four_ofr {l : List Int} (hb : By l) (h : 4 ≤ l.length) : num (l.take 4) = ((rd l 0 * 256 + rd l 1) * 256 + rd l 2) * 256 + rd l 3 := by
  rcases l with _ | ⟨a, _ | ⟨b, _ | ⟨c, _ | ⟨d, t⟩⟩⟩⟩ <;> simp at h
  exact num4r a b c d (hb _ (by simp)) (hb _ (by simp)) (hb _ (by simp)) (hb _ (by simp))
theorem readR_eq (l : List Int) (hb : By l) (hl : l.length ≤ 1400) : body_ReadRouter.p (l, ()) = some (readR l) := by
  unfold body_ReadRouter.p
  rw [take_eq l 4 hb (by omega)]
  unfold take
  rw [if_neg (by omega)]
  simp only [Option.bind_some, jn_eq, Int.toNat_natCast, List.take_length]
  by_cases h4 : (l.length : Int) < 4
  · rw [if_pos h4]
    unfold readR
    rw [if_pos (show l.length < 4 ∨ (l.length : Int) < 4 + 12 * (256 * rd l 2 + rd l 3) by omega)]
    simp only [show ¬ ((2 : Int) = 0) by decide, decide_false, Bool.not_false, if_true, no]
  · rw [if_neg h4]
    have hN := four_ofr hb (by omega)
    have b0 := hb.at 0 (by omega)
    have b1 := hb.at 1 (by omega)
    have b2 := hb.at 2 (by omega)
    have b3 := hb.at 3 (by omega)
    have hNr := num_range (l.take 4) (hb.take 4)
    have e4 : l.take (4 : Int).toNat = l.take 4 := rfl
    have e5 : l.drop (4 : Int).toNat = l.drop 4 := rfl
    simp only [e4, e5]
    unfold readR
    generalize num (l.take 4) = N at *
    have hd : (l.drop 4).length = l.length - 4 := by simp
    rw [low16 hNr, show N % 65536 = 256 * rd l 2 + rd l 3 by omega, w64 (x := 256 * rd l 2 + rd l 3) (by omega), w64 (x := (256 * rd l 2 + rd l 3) * 12) (by omega), mid hNr, show N / 65536 % 256 = rd l 1 by omega]
    simp only [decide_true, Bool.not_true, Bool.false_eq_true, if_false]
    by_cases hs : ((l.drop 4).length : Int) < (256 * rd l 2 + rd l 3) * 12
    · rw [if_pos (by simpa using hs), if_pos (by omega)]
      rfl
    · rw [if_neg (by simpa using hs), if_neg (by omega), rows_eq (l.drop 4) 4 (hb.drop 4) (by omega)]
      unfold rows
      rw [if_neg (by omega)]
      simp only [Option.bind_some]
      by_cases he : (l.length : Int) = 4 + 12 * (256 * rd l 2 + rd l 3)
      · have he' : ((l.drop 4).length : Int) = (256 * rd l 2 + rd l 3) * 12 := by omega
        have hm4 : ((l.drop 4).length : Int) % 4 = 0 := by omega
        rw [if_pos hm4]
        have e6 : chunks (4 : Int).toNat ((l.drop 4).length / (4 : Int).toNat) (l.drop 4) = chunks 4 ((l.length - 4) / 4) (l.drop 4) := by rw [hd]; rfl
        simp only [e6, he', decide_true, Bool.not_true, Bool.false_eq_true, if_false]
        by_cases h1 : rd l 1 = 0
        · simp only [h1, decide_true, Bool.not_true, Bool.false_eq_true, if_false]
          rw [if_pos (⟨he, trivial⟩ : (l.length : Int) = 4 + 12 * (256 * rd l 2 + rd l 3) ∧ True), fdiv_pos (by decide), show N / 2 ^ 24 = rd l 0 by omega, w64 (by omega)]
          have hgm := chunks_mem 4 ((l.length - 4) / 4) (l.drop 4) (hb.drop 4)
          have hgl := chunks_length 4 ((l.length - 4) / 4) (l.drop 4)
          refine read_loop (rd l 0) _ hgm (by rw [hgl]; omega) (by rw [hgl]; omega) b0 _ ?_ ?_
          · intro a b t r acc k hm hr hacc
            have ht := hm t (by simp)
            have h3 : (2 : Int) < ((a :: b :: t :: r).length : Int) := by simp; omega
            have h0 : (0 : Int) < ((a :: b :: t :: r).length : Int) := by omega
            have h1 : (1 : Int) < ((a :: b :: t :: r).length : Int) := by omega
            have h33 : (3 : Int) ≤ ((a :: b :: t :: r).length : Int) := by omega
            have r0 : rd (a :: b :: t :: r) (0 : Int).toNat = a := rfl
            have r1 : rd (a :: b :: t :: r) (1 : Int).toNat = b := rfl
            have r2 : rd (a :: b :: t :: r) (2 : Int).toNat = t := rfl
            have r3 : List.drop (3 : Int).toNat (a :: b :: t :: r) = r := rfl
            simp only [r0, r1, r2, r3, mid ht, low16 ht, Int.toNat_natCast, List.take_length]
            rw [if_pos (by simpa using h0), if_pos (by omega)]
            by_cases hz : t / 65536 % 256 = 0
            · rw [if_neg (by simp [hz]), if_pos hz, if_pos (by omega), if_pos (by omega), if_pos (by omega), if_pos (by omega), if_pos (by simp [maxBytes]; omega), if_pos (by omega), fdiv_pos (by decide), w64 (x := t / 2 ^ 24) (by omega), w64 (x := t % 65536) (by omega)]
              rfl
            · rw [if_pos (by simp [hz]), if_neg hz]
              rfl
          · intro acc k hacc
            rw [if_neg (by simp), mayR_eq (rd l 0) acc (by omega)]
            unfold fin
            simp only [Option.bind_some, zer, links, List.append_nil, Bool.true_and]
            cases mayR (rd l 0) acc <;> rfl
        · simp only [h1, decide_false, Bool.not_false, if_true]
          rw [if_neg (by simp)]
          rfl
      · have he' : ¬ ((l.drop 4).length : Int) = (256 * rd l 2 + rd l 3) * 12 := by omega
        rw [if_neg (show ¬ ((l.length : Int) = 4 + 12 * (256 * rd l 2 + rd l 3) ∧ rd l 1 = 0) from fun h => he h.1)]
        simp only [he', decide_false, Bool.not_false, if_true, ite_self]
        rfl
end Go.Proofs.Ythbcmgpmjljdeaa.F
