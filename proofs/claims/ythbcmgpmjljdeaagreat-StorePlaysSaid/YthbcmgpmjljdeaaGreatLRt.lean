/- Routers' bodies, read and written. -/
import Derived.Test.YthbcmgpmjljdeaaGreatLOct
set_option maxRecDepth 100000
set_option linter.unusedVariables false
set_option linter.unusedSimpArgs false
open Go Go.Proofs.Fr
namespace Go.Proofs.YthbcmgpmjljdeaaGreat.F
abbrev Lk := Int × Int × Int × Int × Unit
abbrev rdL (l : List Lk) (i : Nat) : Lk := rdZ (0, 0, 0, 0, ()) l i
theorem drop_rdL (l : List Lk) (i : Nat) (h : i < l.length) : l.drop i = rdL l i :: l.drop (i + 1) := drop_rdZ _ l i h
def good (x : Lk) : Bool := decide (1 ≤ x.1 ∧ x.1 ≤ 4 ∧ 0 ≤ x.2.2.2.1 ∧ x.2.2.2.1 ≤ 65535)
def mayR (fl : Int) (ls : List Lk) : Bool := decide (0 ≤ fl ∧ fl ≤ 31 ∧ (ls.length : Int) ≤ 100) && ls.all good
theorem bIn (n a b : Int) : body_isIn.p (n, a, b, ()) = some (decide (a ≤ n ∧ n ≤ b), ()) := by
  unfold body_isIn.p
  by_cases h : a ≤ n <;> simp [jn_eq, h]
theorem mayR_eq (fl : Int) (ls : List Lk) (hs : ls.length < 1000000) : body_mayRouter.p ((fl, ls, ()), ()) = some (mayR fl ls, ()) := by
  unfold body_mayRouter.p mayR
  simp only [jn_eq, bIn, Option.bind_some]
  refine (iterK_fix (F := fun x => some (decide (0 ≤ fl ∧ fl ≤ 31 ∧ (ls.length : Int) ≤ 100) && (ls.drop x.1.toNat).all good, ())) (m := fun x => ls.length - x.1.toNat) (I := fun x => 0 ≤ x.1 ∧ x.1 ≤ (ls.length : Int)) ?_ _ _ ⟨by simp, by simp⟩ (by simp; omega)).trans (by simp)
  rintro ⟨i, _⟩ r ⟨i0, i1⟩ hr
  obtain ⟨j, rfl⟩ := Int.eq_ofNat_of_zero_le i0
  simp only [Int.toNat_natCast] at *
  by_cases hj : j < ls.length
  · rw [if_pos (by simpa using hj), if_pos (by omega), drop_rdL ls j hj, List.all_cons]
    by_cases h1 : 1 ≤ (rdL ls j).1 ∧ (rdL ls j).1 ≤ 4
    · by_cases h2 : 0 ≤ (rdL ls j).2.2.2.1 ∧ (rdL ls j).2.2.2.1 ≤ 65535
      · have hg : good (rdL ls j) = true := by simp only [good, decide_eq_true_eq]; omega
        simp only [h1, h2, and_self, decide_true, Bool.not_true, Bool.false_eq_true, if_false, hg, Bool.true_and]
        rw [w64 (by first | omega | (dsimp only; omega) | (simp only [List.length_cons, List.length_nil, List.length_append, List.length_drop, List.length_take, maxBytes]; omega) | (simp; omega)), hr ((j : Int) + 1, ()) ⟨by first | omega | (dsimp only; omega) | (simp only [List.length_cons, List.length_nil, List.length_append, List.length_drop, List.length_take, maxBytes]; omega) | (simp; omega), by first | omega | (dsimp only; omega) | (simp only [List.length_cons, List.length_nil, List.length_append, List.length_drop, List.length_take, maxBytes]; omega) | (simp; omega)⟩ (by first | omega | (dsimp only; omega) | (simp only [List.length_cons, List.length_nil, List.length_append, List.length_drop, List.length_take, maxBytes]; omega) | (simp; omega))]
        rfl
      · have hg : good (rdL ls j) = false := by simp only [good, decide_eq_false_iff_not]; omega
        simp only [h1, h2, and_self, decide_true, decide_false, Bool.not_true, Bool.not_false, Bool.false_eq_true, if_false, if_true, hg, Bool.false_and, Bool.and_false]
    · have hg : good (rdL ls j) = false := by simp only [good, decide_eq_false_iff_not]; omega
      simp only [h1, decide_false, Bool.not_false, if_true, hg, Bool.false_and, Bool.and_false]
  · rw [if_neg (by simpa using hj), List.drop_eq_nil_of_le (by omega)]
    by_cases h : 0 ≤ fl ∧ fl ≤ 31
    · rw [if_pos (by simpa using h)]
      have e : (0 ≤ fl ∧ fl ≤ 31 ∧ (ls.length : Int) ≤ 100) ↔ (ls.length : Int) ≤ 100 := by omega
      simp only [e, List.all_nil, Bool.and_true]
    · rw [if_neg (by simpa using h)]
      have e : ¬ (0 ≤ fl ∧ fl ≤ 31 ∧ (ls.length : Int) ≤ 100) := by omega
      simp only [e, decide_false, Bool.false_and]
theorem rmayR_eq (fl : Int) (ls : List Lk) (hs : ls.length < 1000000) : ref12_MayRouter.p ((fl, ls, ()), ()) = some (mayR fl ls, ()) := by
  unfold ref12_MayRouter.p mayR
  simp only [jn_eq]
  by_cases h : 0 ≤ fl ∧ fl ≤ 31 ∧ (ls.length : Int) ≤ 100
  · have h1 : ¬ fl < 0 := by omega
    have h2 : ¬ fl > 31 := by omega
    have h3 : ¬ (ls.length : Int) > 100 := by omega
    simp only [h, h1, h2, h3, and_self, decide_true, decide_false, Bool.false_eq_true, if_false, Bool.true_and]
    refine (iterK_fix (F := fun x => some ((ls.drop x.1.toNat).all good, ())) (m := fun x => ls.length - x.1.toNat) (I := fun x => 0 ≤ x.1 ∧ x.1 ≤ (ls.length : Int)) ?_ _ _ ⟨by simp, by simp⟩ (by simp; omega)).trans (by simp)
    rintro ⟨i, _⟩ r ⟨i0, i1⟩ hr
    obtain ⟨j, rfl⟩ := Int.eq_ofNat_of_zero_le i0
    simp only [Int.toNat_natCast] at *
    by_cases hj : j < ls.length
    · rw [if_pos (by simpa using hj), if_pos (by omega), drop_rdL ls j hj, List.all_cons]
      by_cases hg : good (rdL ls j) = true
      · have hg' := hg
        simp only [good, decide_eq_true_eq] at hg'
        have q1 : ¬ (rdL ls j).1 < 1 := by omega
        have q2 : ¬ (rdL ls j).1 > 4 := by omega
        have q3 : ¬ (rdL ls j).2.2.2.1 < 0 := by omega
        have q4 : ¬ (rdL ls j).2.2.2.1 > 65535 := by omega
        simp only [q1, q2, q3, q4, decide_false, Bool.false_eq_true, if_false, hg, Bool.true_and]
        rw [w64 (by first | omega | (dsimp only; omega) | (simp only [List.length_cons, List.length_nil, List.length_append, List.length_drop, List.length_take, maxBytes]; omega) | (simp; omega)), hr ((j : Int) + 1, ()) ⟨by first | omega | (dsimp only; omega) | (simp only [List.length_cons, List.length_nil, List.length_append, List.length_drop, List.length_take, maxBytes]; omega) | (simp; omega), by first | omega | (dsimp only; omega) | (simp only [List.length_cons, List.length_nil, List.length_append, List.length_drop, List.length_take, maxBytes]; omega) | (simp; omega)⟩ (by first | omega | (dsimp only; omega) | (simp only [List.length_cons, List.length_nil, List.length_append, List.length_drop, List.length_take, maxBytes]; omega) | (simp; omega))]
        rfl
      · have hg' := hg
        simp only [good, decide_eq_true_eq] at hg'
        have hgf : good (rdL ls j) = false := by simpa using hg
        simp only [hgf, Bool.false_and]
        by_cases q1 : (rdL ls j).1 < 1
        · simp [q1]
        · by_cases q2 : (rdL ls j).1 > 4
          · simp [q1, q2]
          · by_cases q3 : (rdL ls j).2.2.2.1 < 0
            · simp [q1, q2, q3]
            · have q4 : (rdL ls j).2.2.2.1 > 65535 := by omega
              simp [q1, q2, q3, q4]
    · rw [if_neg (by simpa using hj), List.drop_eq_nil_of_le (by omega)]
      rfl
  · simp only [h, decide_false, Bool.false_and]
    by_cases h1 : fl < 0
    · simp [h1]
    · by_cases h2 : fl > 31
      · simp [h1, h2]
      · have h3 : (ls.length : Int) > 100 := by omega
        simp [h1, h2, h3]

/-- Numbers as links. -/
def lk (a b t : Int) : Lk := (t / 16777216, a, b, t % 65536, ())
def links : List Int → List Lk
  | a :: b :: t :: r => lk a b t :: links r
  | _ => []
def zer : List Int → Bool
  | _ :: _ :: t :: r => decide (t / 65536 % 256 = 0) && zer r
  | _ => true
theorem links_length : ∀ (q : Nat) (g : List Int), g.length = 3 * q → (links g).length = q := by
  intro q
  induction q with
  | zero => intro g hg; cases g <;> simp at hg; rfl
  | succ q ih =>
    intro g hg
    rcases g with _ | ⟨a, _ | ⟨b, _ | ⟨t, r⟩⟩⟩
    · simp at hg
    · simp at hg; omega
    · simp at hg; omega
    · simp only [links, List.length_cons]
      rw [ih r (by simp at hg; omega)]
theorem mid {t : Int} (h : 0 ≤ t ∧ t < 4294967296) : ibits .and .u32 (Int.fdiv t (2 ^ 16)) 255 = t / 65536 % 256 := by
  rw [fdiv_pos (by decide)]
  exact and_mask 8 (by omega) (x := t / 65536) (by omega)
theorem low16 {t : Int} (h : 0 ≤ t ∧ t < 4294967296) : ibits .and .u32 t 65535 = t % 65536 := and_mask 16 (by omega) h
abbrev RR := (Int × List Lk × Unit) × Int × Unit
def no (c : Int) : RR := ((0, [], ()), c, ())
/-- What is read of links' numbers. -/
def fin (fl : Int) (acc : List Lk) (g : List Int) : RR := if (zer g && mayR fl (acc ++ links g)) = true then ((fl, acc ++ links g, ()), 0, ()) else no 3
theorem read_loop (fl : Int) (g0 : List Int) (hg0 : ∀ x ∈ g0, 0 ≤ x ∧ x < 4294967296) (h3 : g0.length % 3 = 0) (hl : g0.length < 100000) (hfl : 0 ≤ fl ∧ fl ≤ 255) (b : (List Int × (Int × List Lk × Unit) × Unit) → ((List Int × (Int × List Lk × Unit) × Unit) → Option RR) → Option RR)
    (hb1 : ∀ a b' t r acc k, (∀ x ∈ a :: b' :: t :: r, 0 ≤ x ∧ x < 4294967296) → r.length < 100000 → acc.length < 100000 → b (a :: b' :: t :: r, (fl, acc, ()), ()) k = if t / 65536 % 256 = 0 then k (r, (fl, acc ++ [lk a b' t], ()), ()) else some (no 3))
    (hb2 : ∀ acc k, acc.length < 100000 → b ([], (fl, acc, ()), ()) k = some (fin fl acc [])) :
    iterK 4611686018427387904 b (g0, (fl, [], ()), ()) = some (fin fl [] g0) := by
  refine iterK_fix (F := fun x : List Int × (Int × List Lk × Unit) × Unit => some (fin fl x.2.1.2.1 x.1)) (m := fun x => x.1.length) (I := fun x => (∀ y ∈ x.1, 0 ≤ y ∧ y < 4294967296) ∧ x.1.length % 3 = 0 ∧ x.2.1.2.1.length + x.1.length < 100000 ∧ x.2.1.1 = fl) ?_ _ _ ⟨hg0, h3, by simpa using hl, rfl⟩ (by simp; omega)
  rintro ⟨g, ⟨fl', acc, _⟩, _⟩ k ⟨i1, i2, i3, i4⟩ hk
  simp only at i1 i2 i3 i4 ⊢
  subst i4
  rcases g with _ | ⟨a, _ | ⟨b', _ | ⟨t, r⟩⟩⟩
  · exact hb2 acc k (by simpa using i3)
  · simp at i2
  · simp at i2
  · simp only [List.length_cons] at i2 i3
    rw [hb1 a b' t r acc k i1 (by omega) (by omega)]
    by_cases hz : t / 65536 % 256 = 0
    · rw [if_pos hz, hk (r, (fl', acc ++ [lk a b' t], ()), ()) ⟨fun x hx => i1 x (by simp [hx]), by simp; omega, by simp; omega, rfl⟩ (by simp; omega)]
      simp only [fin, zer, links, hz, decide_true, Bool.true_and, List.append_assoc, List.cons_append, List.nil_append]
    · rw [if_neg hz]
      simp only [fin, zer, hz, decide_false, Bool.false_and, Bool.false_eq_true, if_false]
/-- A router's body, read. -/
def readR (l : List Int) : RR :=
  if l.length < 4 ∨ (l.length : Int) < 4 + 12 * (256 * rd l 2 + rd l 3) then no 2
  else if (l.length : Int) = 4 + 12 * (256 * rd l 2 + rd l 3) ∧ rd l 1 = 0 then fin (rd l 0) [] (chunks 4 ((l.length - 4) / 4) (l.drop 4)) else no 3
theorem num4r (a b c d : Int) (ha : 0 ≤ a ∧ a ≤ 255) (hb : 0 ≤ b ∧ b ≤ 255) (hc : 0 ≤ c ∧ c ≤ 255) (hd : 0 ≤ d ∧ d ≤ 255) : num [a, b, c, d] = ((a * 256 + b) * 256 + c) * 256 + d := by
  simp only [num, nacc, List.foldl]
  omega
theorem four_ofr {l : List Int} (hb : By l) (h : 4 ≤ l.length) : num (l.take 4) = ((rd l 0 * 256 + rd l 1) * 256 + rd l 2) * 256 + rd l 3 := by
  rcases l with _ | ⟨a, _ | ⟨b, _ | ⟨c, _ | ⟨d, t⟩⟩⟩⟩ <;> simp at h
  exact num4r a b c d (hb _ (by simp)) (hb _ (by simp)) (hb _ (by simp)) (hb _ (by simp))
theorem readR_eq (l : List Int) (hb : By l) (hl : l.length ≤ 1400) : body_ReadRouter.p (l, ()) = some (readR l) := by
  unfold body_ReadRouter.p
  rw [take_eq l 4 hb (by omega)]
  unfold take
  rw [if_neg (by omega)]
  simp only [Option.bind_some, jn_eq, Int.toNat_natCast, List.take_length]
  by_cases h4 : (l.length : Int) < 4
  · rw [if_pos h4]
    unfold readR
    rw [if_pos (show l.length < 4 ∨ (l.length : Int) < 4 + 12 * (256 * rd l 2 + rd l 3) by omega)]
    simp only [show ¬ ((2 : Int) = 0) by decide, decide_false, Bool.not_false, if_true, no]
  · rw [if_neg h4]
    have hN := four_ofr hb (by omega)
    have b0 := hb.at 0 (by omega)
    have b1 := hb.at 1 (by omega)
    have b2 := hb.at 2 (by omega)
    have b3 := hb.at 3 (by omega)
    have hNr := num_range (l.take 4) (hb.take 4)
    have e4 : l.take (4 : Int).toNat = l.take 4 := rfl
    have e5 : l.drop (4 : Int).toNat = l.drop 4 := rfl
    simp only [e4, e5]
    unfold readR
    generalize num (l.take 4) = N at *
    have hd : (l.drop 4).length = l.length - 4 := by simp
    rw [low16 hNr, show N % 65536 = 256 * rd l 2 + rd l 3 by omega, w64 (x := 256 * rd l 2 + rd l 3) (by omega), w64 (x := (256 * rd l 2 + rd l 3) * 12) (by omega), mid hNr, show N / 65536 % 256 = rd l 1 by omega]
    simp only [decide_true, Bool.not_true, Bool.false_eq_true, if_false]
    by_cases hs : ((l.drop 4).length : Int) < (256 * rd l 2 + rd l 3) * 12
    · rw [if_pos (by simpa using hs), if_pos (by omega)]
      rfl
    · rw [if_neg (by simpa using hs), if_neg (by omega), rows_eq (l.drop 4) 4 (hb.drop 4) (by omega)]
      unfold rows
      rw [if_neg (by omega)]
      simp only [Option.bind_some]
      by_cases he : (l.length : Int) = 4 + 12 * (256 * rd l 2 + rd l 3)
      · have he' : ((l.drop 4).length : Int) = (256 * rd l 2 + rd l 3) * 12 := by omega
        have hm4 : ((l.drop 4).length : Int) % 4 = 0 := by omega
        rw [if_pos hm4]
        have e6 : chunks (4 : Int).toNat ((l.drop 4).length / (4 : Int).toNat) (l.drop 4) = chunks 4 ((l.length - 4) / 4) (l.drop 4) := by rw [hd]; rfl
        simp only [e6, he', decide_true, Bool.not_true, Bool.false_eq_true, if_false]
        by_cases h1 : rd l 1 = 0
        · simp only [h1, decide_true, Bool.not_true, Bool.false_eq_true, if_false]
          rw [if_pos (⟨he, trivial⟩ : (l.length : Int) = 4 + 12 * (256 * rd l 2 + rd l 3) ∧ True), fdiv_pos (by decide), show N / 2 ^ 24 = rd l 0 by omega, w64 (by omega)]
          have hgm := chunks_mem 4 ((l.length - 4) / 4) (l.drop 4) (hb.drop 4)
          have hgl := chunks_length 4 ((l.length - 4) / 4) (l.drop 4)
          refine read_loop (rd l 0) _ hgm (by rw [hgl]; omega) (by rw [hgl]; omega) b0 _ ?_ ?_
          · intro a b t r acc k hm hr hacc
            have ht := hm t (by simp)
            have h3 : (2 : Int) < ((a :: b :: t :: r).length : Int) := by simp; omega
            have h0 : (0 : Int) < ((a :: b :: t :: r).length : Int) := by omega
            have h1 : (1 : Int) < ((a :: b :: t :: r).length : Int) := by omega
            have h33 : (3 : Int) ≤ ((a :: b :: t :: r).length : Int) := by omega
            have r0 : rd (a :: b :: t :: r) (0 : Int).toNat = a := rfl
            have r1 : rd (a :: b :: t :: r) (1 : Int).toNat = b := rfl
            have r2 : rd (a :: b :: t :: r) (2 : Int).toNat = t := rfl
            have r3 : List.drop (3 : Int).toNat (a :: b :: t :: r) = r := rfl
            simp only [r0, r1, r2, r3, mid ht, low16 ht, Int.toNat_natCast, List.take_length]
            rw [if_pos (by simpa using h0), if_pos (by omega)]
            by_cases hz : t / 65536 % 256 = 0
            · rw [if_neg (by simp [hz]), if_pos hz, if_pos (by omega), if_pos (by omega), if_pos (by omega), if_pos (by omega), if_pos (by simp [maxBytes]; omega), if_pos (by omega), fdiv_pos (by decide), w64 (x := t / 2 ^ 24) (by omega), w64 (x := t % 65536) (by omega)]
              rfl
            · rw [if_pos (by simp [hz]), if_neg hz]
              rfl
          · intro acc k hacc
            rw [if_neg (by simp), mayR_eq (rd l 0) acc (by omega)]
            unfold fin
            simp only [Option.bind_some, zer, links, List.append_nil, Bool.true_and]
            cases mayR (rd l 0) acc <;> rfl
        · simp only [h1, decide_false, Bool.not_false, if_true]
          rw [if_neg (by simp)]
          rfl
      · have he' : ¬ ((l.drop 4).length : Int) = (256 * rd l 2 + rd l 3) * 12 := by omega
        rw [if_neg (show ¬ ((l.length : Int) = 4 + 12 * (256 * rd l 2 + rd l 3) ∧ rd l 1 = 0) from fun h => he h.1)]
        simp only [he', decide_false, Bool.not_false, if_true, ite_self]
        rfl
theorem rreadR_eq (l : List Int) (hb : By l) (hl : l.length ≤ 1400) : ref12_ReadRouter.p (l, ()) = some (readR l) := by
  unfold ref12_ReadRouter.p readR
  simp only [jn_eq]
  by_cases h4 : (l.length : Int) < 4
  · rw [if_pos (by simpa using h4), if_pos (show l.length < 4 ∨ (l.length : Int) < 4 + 12 * (256 * rd l 2 + rd l 3) by omega)]
    rfl
  · have b0 := hb.at 0 (by omega)
    have b1 := hb.at 1 (by omega)
    have b2 := hb.at 2 (by omega)
    have b3 := hb.at 3 (by omega)
    have r0 : rd l (0 : Int).toNat = rd l 0 := rfl
    have r1 : rd l (1 : Int).toNat = rd l 1 := rfl
    have r2 : rd l (2 : Int).toNat = rd l 2 := rfl
    have r3 : rd l (3 : Int).toNat = rd l 3 := rfl
    simp only [r0, r1, r2, r3, w64 (x := rd l 0) (by omega), w64 (x := rd l 2) (by omega), w64 (x := rd l 3) (by omega), w64 (x := 256 * rd l 2) (by omega), w64 (x := 256 * rd l 2 + rd l 3) (by omega), w64 (x := 12 * (256 * rd l 2 + rd l 3)) (by omega), w64 (x := 4 + 12 * (256 * rd l 2 + rd l 3)) (by omega)]
    rw [if_neg (by simpa using h4), if_pos (by omega), if_pos (by omega)]
    by_cases hs : (l.length : Int) < 4 + 12 * (256 * rd l 2 + rd l 3)
    · rw [if_pos (by simpa using hs), if_pos (.inr hs)]
      rfl
    · rw [if_neg (by simpa using hs), if_neg (show ¬ (l.length < 4 ∨ (l.length : Int) < 4 + 12 * (256 * rd l 2 + rd l 3)) by omega), if_pos (by omega), if_pos (by omega)]
      have hno : ∀ (b : (Bool × Int × (Int × List Lk × Unit) × Unit) → ((Bool × Int × (Int × List Lk × Unit) × Unit) → Option RR) → Option RR), (∀ i fl acc k, b (false, i, (fl, acc, ()), ()) k = some (no 3)) → iterK 4611686018427387904 b (false, 0, (rd l 0, [], ()), ()) = some (no 3) := by
        intro b hb'
        exact iterK_fix (F := fun _ => some (no 3)) (m := fun _ => 0) (I := fun x => x.1 = false) (fun x r hx _ => by obtain ⟨x1, i, ⟨fl, acc, _⟩, _⟩ := x; simp only at hx; subst hx; exact hb' i fl acc r) _ _ rfl (by decide)
      by_cases h1 : rd l 1 = 0
      · rw [if_pos (by simpa using h1)]
        by_cases he : (l.length : Int) = 4 + 12 * (256 * rd l 2 + rd l 3)
        · rw [if_pos (by simpa using he), if_pos ⟨he, h1⟩]
          have hq : (l.length - 4) / 4 = 3 * ((l.length - 4) / 12) := by omega
          by_cases hc : 256 * rd l 2 + rd l 3 ≤ 100
          · simp only [hc, decide_true]
            generalize hn : 256 * rd l 2 + rd l 3 = n at *
            refine (iterK_fix (F := fun x : Bool × Int × (Int × List Lk × Unit) × Unit => some (if x.1 = true then fin x.2.2.1.1 x.2.2.1.2.1 (chunks 4 (3 * (n.toNat - x.2.1.toNat)) (l.drop (4 + 12 * x.2.1.toNat))) else no 3)) (m := fun x => n.toNat - x.2.1.toNat) (I := fun x => (0 ≤ x.2.1 ∧ x.2.1 ≤ n) ∧ x.2.2.1.2.1.length ≤ 1000 + x.2.1.toNat ∧ x.2.2.1.1 = rd l 0) ?_ _ _ ⟨⟨by simp, by first | omega | (dsimp only; omega) | (simp only [List.length_cons, List.length_nil, List.length_append, List.length_drop, List.length_take, maxBytes]; omega) | (simp; omega)⟩, by simp, rfl⟩ (by first | omega | (dsimp only; omega) | (simp only [List.length_cons, List.length_nil, List.length_append, List.length_drop, List.length_take, maxBytes]; omega) | (simp; omega))).trans ?_
            · rintro ⟨ok, i, ⟨fl, acc, _⟩, _⟩ k ⟨⟨i0, i1⟩, i2, i3⟩ hk
              simp only at i0 i1 i2 i3 ⊢
              subst i3
              cases ok with
              | false => rfl
              | true =>
                obtain ⟨j, rfl⟩ := Int.eq_ofNat_of_zero_le i0
                simp only [Int.toNat_natCast] at *
                simp only [if_true]
                by_cases hj : (j : Int) < n
                · have hm : ∃ q, n.toNat - j = q + 1 := ⟨n.toNat - j - 1, by omega⟩
                  obtain ⟨q, hq'⟩ := hm
                  have e1 : (4 + 12 * (j : Int)).toNat = 4 + 12 * j := by omega
                  have e2 : (16 + 12 * (j : Int)).toNat = 16 + 12 * j := by omega
                  have hsl : List.drop (4 + 12 * j) (List.take (16 + 12 * j) l) = (l.drop (4 + 12 * j)).take 12 := by
                    rw [List.drop_take]; congr 1; omega
                  have hml : 12 ≤ (l.drop (4 + 12 * j)).length := by rw [List.length_drop]; omega
                  have hmb := hb.drop (4 + 12 * j)
                  have hdd : l.drop (4 + 12 * (j + 1)) = (l.drop (4 + 12 * j)).drop 12 := by rw [List.drop_drop]; congr 1
                  have hrows : rows ((l.drop (4 + 12 * j)).take 12) 4 = ([num ((l.drop (4 + 12 * j)).take 4), num (((l.drop (4 + 12 * j)).drop 4).take 4), num (((l.drop (4 + 12 * j)).drop 8).take 4)], 0, ()) := by
                    unfold rows
                    have hl12 : ((l.drop (4 + 12 * j)).take 12).length = 12 := by rw [List.length_take]; omega
                    rw [if_neg (by omega), hl12, if_pos (by decide)]
                    simp [chunks, List.take_take, List.drop_take, List.drop_drop]
                  have hch : chunks 4 (3 * (n.toNat - j)) (l.drop (4 + 12 * j)) = num ((l.drop (4 + 12 * j)).take 4) :: num (((l.drop (4 + 12 * j)).drop 4).take 4) :: num (((l.drop (4 + 12 * j)).drop 8).take 4) :: chunks 4 (3 * (n.toNat - (j + 1))) ((l.drop (4 + 12 * j)).drop 12) := by
                    rw [show 3 * (n.toNat - j) = 3 * (n.toNat - (j + 1)) + 1 + 1 + 1 by omega]
                    simp [chunks, List.drop_drop]
                  have ht := num_range (((l.drop (4 + 12 * j)).drop 8).take 4) ((hmb.drop 8).take 4)
                  rw [if_pos (by simpa using hj)]
                  rw [w64 (x := 12 * (j : Int)) (by omega), w64 (x := 4 + 12 * (j : Int)) (by omega), w64 (x := 16 + 12 * (j : Int)) (by omega), if_pos (by omega), e1, e2, hsl, rrows_eq _ 4 (hmb.take 12) (by simp; omega), hrows, hch]
                  generalize num ((l.drop (4 + 12 * j)).take 4) = a at *
                  generalize num (((l.drop (4 + 12 * j)).drop 4).take 4) = b at *
                  generalize num (((l.drop (4 + 12 * j)).drop 8).take 4) = t at *
                  have q0 : rd [a, b, t] (0 : Int).toNat = a := rfl
                  have q1 : rd [a, b, t] (1 : Int).toNat = b := rfl
                  have q2 : rd [a, b, t] (2 : Int).toNat = t := rfl
                  have ql : (([a, b, t] : List Int).length : Int) = 3 := rfl
                  simp only [Option.bind_some, q0, q1, q2, ql, tdiv_pos ht.1, tmod_pos ht.1, wu32]
                  rw [if_pos (by omega), if_pos (by omega), if_pos (by omega), if_pos (by omega), if_pos (by omega), tmod_pos (by omega), if_pos (by first | omega | (dsimp only; omega) | (simp only [List.length_cons, List.length_nil, List.length_append, List.length_drop, List.length_take, maxBytes]; omega) | (simp; omega)), w64 (x := (j : Int) + 1) (by omega), w64 (x := t % 65536) (by omega), w64 (x := t / 16777216 % 4294967296) (by omega), show t / 16777216 % 4294967296 = t / 16777216 by omega, show t / 65536 % 4294967296 % 256 = t / 65536 % 256 by omega, hk _ ⟨⟨by first | omega | (dsimp only; omega) | (simp only [List.length_cons, List.length_nil, List.length_append, List.length_drop, List.length_take, maxBytes]; omega) | (simp; omega), by first | omega | (dsimp only; omega) | (simp only [List.length_cons, List.length_nil, List.length_append, List.length_drop, List.length_take, maxBytes]; omega) | (simp; omega)⟩, by first | omega | (dsimp only; omega) | (simp only [List.length_cons, List.length_nil, List.length_append, List.length_drop, List.length_take, maxBytes]; omega) | (simp; omega), rfl⟩ (by first | omega | (dsimp only; omega) | (simp only [List.length_cons, List.length_nil, List.length_append, List.length_drop, List.length_take, maxBytes]; omega) | (simp; omega))]
                  simp only [show ((j : Int) + 1).toNat = j + 1 by omega, hdd]
                  by_cases hz : t / 65536 % 256 = 0
                  · simp only [hz, decide_true, if_true, fin, zer, links, Bool.true_and, List.append_assoc, List.cons_append, List.nil_append, lk]
                  · simp only [hz, decide_false, Bool.false_eq_true, if_false, fin, zer, Bool.false_and]
                · have hjn : n.toNat - j = 0 := by omega
                  rw [if_neg (by simpa using hj), hjn, rmayR_eq (rd l 0) acc (by first | omega | (dsimp only; omega) | (simp only [List.length_cons, List.length_nil, List.length_append, List.length_drop, List.length_take, maxBytes]; omega) | (simp; omega))]
                  simp only [Nat.mul_zero, chunks, fin, zer, links, List.append_nil, Bool.true_and, Bool.not_true, Bool.false_eq_true, if_false, Option.bind_some]
                  cases mayR (rd l 0) acc <;> rfl
            · simp only [if_true, Int.toNat_zero, Nat.sub_zero, Nat.mul_zero, Nat.add_zero]
              rw [hq, show (l.length - 4) / 12 = n.toNat by omega]
          · simp only [hc, decide_false]
            rw [hno _ (fun i fl acc k => rfl)]
            have hlk : (links (chunks 4 ((l.length - 4) / 4) (l.drop 4))).length = (l.length - 4) / 12 := links_length _ _ (by rw [chunks_length, hq])
            have hmr : mayR (rd l 0) ([] ++ links (chunks 4 ((l.length - 4) / 4) (l.drop 4))) = false := by
              unfold mayR
              rw [decide_eq_false (by rw [List.nil_append, hlk]; omega)]
              rfl
            unfold fin
            rw [hmr, Bool.and_false]
            rfl
        · rw [if_neg (by simpa using he), if_neg (fun h => he h.1), hno _ (fun i fl acc k => rfl)]
      · rw [if_neg (by simpa using h1), if_neg (fun h => h1 h.2), hno _ (fun i fl acc k => rfl)]
end Go.Proofs.YthbcmgpmjljdeaaGreat.F
