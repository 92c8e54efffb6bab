/- Things as bytes, and back. -/
import Derived.Test.YtocloebloblodaaLNum
import Derived.Test.YtocloebloblodaaLOct
set_option maxRecDepth 100000
set_option linter.unusedVariables false
set_option linter.unusedSimpArgs false
open Go Go.Proofs.Fr
namespace Go.Proofs.Ytocloebloblodaa.F
abbrev Th := Int × List Int × Unit
abbrev zTh : Th := (0, [], ())
def thOk (x : Th) : Bool := decide (0 ≤ x.1 ∧ x.1 ≤ 255 ∧ x.2.1.length ≤ 255)
def thB (x : Th) : List Int := [x.1, (x.2.1.length : Int)] ++ x.2.1
def thsB (l : List Th) : List Int := l.flatMap thB
theorem thsB_cons (x : Th) (l : List Th) : thsB (x :: l) = thB x ++ thsB l := by simp [thsB]
theorem thB_len (x : Th) : (thB x).length = 2 + x.2.1.length := by unfold thB; simp; omega
theorem thsB_by (l : List Th) (hb : ∀ x ∈ l, By x.2.1) (hm : l.all thOk = true) : By (thsB l) := by
  intro y hy
  simp only [thsB, List.mem_flatMap] at hy
  obtain ⟨x, hx, hy⟩ := hy
  have h1 := List.all_eq_true.1 hm x hx
  simp only [thOk, decide_eq_true_eq] at h1
  unfold thB at hy
  rcases List.mem_append.1 hy with hy | hy
  · simp only [List.mem_cons, List.not_mem_nil, or_false] at hy
    rcases hy with rfl | rfl <;> omega
  · exact hb x hx y hy
def putT (l : List Th) : List Int × Int × Unit := if l.all thOk = true then (thsB l, 0, ()) else ([], 1, ())
def Small (l : List Th) : Prop := l.length ≤ 110 ∧ ∀ x ∈ l, x.2.1.length ≤ 300
theorem tput_eq (l : List Th) (hs : Small l) : tlv_Put.p (l, ()) = some (putT l) := by
  unfold tlv_Put.p putT
  simp only [jn_eq]
  refine (iterK_fix (F := fun x => some (if (l.drop x.2.1.toNat).all thOk = true then (x.1 ++ thsB (l.drop x.2.1.toNat), 0, ()) else ([], 1, ()))) (m := fun x => l.length - x.2.1.toNat) (I := fun x => (0 ≤ x.2.1 ∧ x.2.1 ≤ (l.length : Int)) ∧ x.1.length ≤ 302 * x.2.1.toNat) ?_ _ _ ⟨by simp, by simp⟩ (by have := hs.1; simp; omega)).trans rfl
  rintro ⟨acc, i, _⟩ r ⟨⟨h0, h1⟩, h2⟩ hr
  obtain ⟨j, rfl⟩ := Int.eq_ofNat_of_zero_le h0
  simp only [Int.toNat_natCast] at *
  have hsl := hs.1
  by_cases hj : j < l.length
  · rw [if_pos (by simpa using hj), if_pos (by omega), drop_rdZ zTh l j hj]
    have hm := hs.2 _ (rdZ_mem zTh l j hj)
    obtain ⟨x, hx⟩ : ∃ x, rdZ zTh l j = x := ⟨_, rfl⟩
    simp only [hx] at hm ⊢
    rw [thsB_cons, List.all_cons]
    by_cases c1 : x.1 < 0
    · have hk : thOk x = false := by unfold thOk; simp only [decide_eq_false_iff_not]; omega
      simp [c1, hk]
    · by_cases c2 : x.1 > 255
      · have hk : thOk x = false := by unfold thOk; simp only [decide_eq_false_iff_not]; omega
        simp [c1, c2, hk]
      · by_cases c3 : (x.2.1.length : Int) > 255
        · have hk : thOk x = false := by unfold thOk; simp only [decide_eq_false_iff_not]; omega
          simp only [c1, c2, c3, hk, decide_true, decide_false, Bool.false_eq_true, if_false, if_true, Bool.false_and]
        · have hk : thOk x = true := by unfold thOk; simp only [decide_eq_true_eq]; omega
          have e1 : IntKind.u8.wrap x.1 = x.1 := by rw [wu8]; omega
          have e2 : IntKind.u8.wrap (x.2.1.length : Int) = (x.2.1.length : Int) := by rw [wu8]; omega
          simp only [c1, c2, c3, hk, e1, e2, decide_true, decide_false, Bool.false_eq_true, if_false, if_true, Bool.true_and]
          rw [if_pos (by simp only [List.length_cons, List.length_nil, maxBytes]; omega), if_pos (by simp only [List.length_append, List.length_cons, List.length_nil, maxBytes]; omega), w64 (by omega), hr _ ⟨by first | omega | (dsimp only; omega) | (simp only [List.length_cons, List.length_nil, List.length_append, List.length_drop, List.length_take, maxBytes]; omega) | (simp; omega), by simp only [List.length_append, List.length_cons, List.length_nil]; omega⟩ (by first | omega | (dsimp only; omega) | (simp only [List.length_cons, List.length_nil, List.length_append, List.length_drop, List.length_take, maxBytes]; omega) | (simp; omega))]
          simp only [show ((j : Int) + 1).toNat = j + 1 by omega, List.append_assoc, thB]
  · rw [if_neg (by simpa using hj), List.drop_eq_nil_of_le (by omega)]
    simp [thsB]
/-- Things off bytes. -/
def thOf : Nat → List Int → Option (List Th)
  | 0, _ => some []
  | n + 1, b => if b.length = 0 then some [] else if b.length < 2 + (rd b 1).toNat then none else (thOf n (b.drop (2 + (rd b 1).toNat))).map fun l => (rd b 0, (b.drop 2).take (rd b 1).toNat, ()) :: l
theorem thOf_fuel : ∀ (n m : Nat) (b : List Int), b.length ≤ n → b.length ≤ m → thOf n b = thOf m b := by
  intro n
  induction n with
  | zero =>
    intro m b h _
    cases m with
    | zero => rfl
    | succ m => unfold thOf; rw [if_pos (by omega)]
  | succ n ih =>
    intro m b h h'
    cases m with
    | zero => unfold thOf; rw [if_pos (by omega)]
    | succ m =>
      unfold thOf
      by_cases h0 : b.length = 0
      · rw [if_pos h0, if_pos h0]
      · rw [if_neg h0, if_neg h0]
        by_cases h1 : b.length < 2 + (rd b 1).toNat
        · rw [if_pos h1, if_pos h1]
        · rw [if_neg h1, if_neg h1, ih m _ (by rw [List.length_drop]; omega) (by rw [List.length_drop]; omega)]
def thsOf (b : List Int) : Option (List Th) := thOf b.length b
theorem thsOf_nil : thsOf [] = some [] := rfl
theorem thsOf_step {b : List Int} (h : b.length ≠ 0) : thsOf b = if b.length < 2 + (rd b 1).toNat then none else (thsOf (b.drop (2 + (rd b 1).toNat))).map fun l => (rd b 0, (b.drop 2).take (rd b 1).toNat, ()) :: l := by
  unfold thsOf
  obtain ⟨n, hn⟩ : ∃ n, b.length = n + 1 := ⟨b.length - 1, by omega⟩
  rw [hn]
  show (if b.length = 0 then some [] else if b.length < 2 + (rd b 1).toNat then none else (thOf n (b.drop (2 + (rd b 1).toNat))).map _) = _
  rw [if_neg h, hn]
  by_cases h1 : n + 1 < 2 + (rd b 1).toNat
  · rw [if_pos h1, if_pos h1]
  · rw [if_neg h1, if_neg h1, thOf_fuel n (b.drop (2 + (rd b 1).toNat)).length _ (by rw [List.length_drop]; omega) (Nat.le_refl _)]
theorem thsOf_len : ∀ (n : Nat) (b : List Int) (l : List Th), b.length ≤ n → thsOf b = some l → l.length ≤ b.length := by
  intro n
  induction n with
  | zero =>
    intro b l hb h
    have : b = [] := List.eq_nil_of_length_eq_zero (by omega)
    subst this
    rw [thsOf_nil] at h
    injection h with h
    subst h
    simp
  | succ n ih =>
    intro b l hb h
    by_cases h0 : b.length = 0
    · have : b = [] := List.eq_nil_of_length_eq_zero h0
      subst this
      rw [thsOf_nil] at h
      injection h with h
      subst h
      simp
    · rw [thsOf_step h0] at h
      split at h
      · cases h
      · rename_i h1
        cases hh : thsOf (b.drop (2 + (rd b 1).toNat)) with
        | none => rw [hh] at h; cases h
        | some k =>
          rw [hh] at h
          injection h with h
          subst h
          have := ih _ _ (by rw [List.length_drop]; omega) hh
          rw [List.length_drop] at this
          simp only [List.length_cons]
          omega
theorem thsOf_thsB (l : List Th) (hm : l.all thOk = true) : thsOf (thsB l) = some l := by
  induction l with
  | nil => rfl
  | cons x l ih =>
    rw [List.all_cons, Bool.and_eq_true] at hm
    have h1 := hm.1
    simp only [thOk, decide_eq_true_eq] at h1
    have e : thsB (x :: l) = x.1 :: (x.2.1.length : Int) :: (x.2.1 ++ thsB l) := by rw [thsB_cons]; simp [thB]
    have e0 : rd (x.1 :: (x.2.1.length : Int) :: (x.2.1 ++ thsB l)) 0 = x.1 := rfl
    have e1 : rd (x.1 :: (x.2.1.length : Int) :: (x.2.1 ++ thsB l)) 1 = x.2.1.length := rfl
    rw [thsOf_step (by rw [e]; simp), e, e0, e1, Int.toNat_natCast, if_neg (by simp; omega)]
    have ed : (x.1 :: (x.2.1.length : Int) :: (x.2.1 ++ thsB l)).drop (2 + x.2.1.length) = thsB l := by
      rw [Nat.add_comm]
      show (x.2.1 ++ thsB l).drop x.2.1.length = _
      exact List.drop_left' rfl
    have et : ((x.1 :: (x.2.1.length : Int) :: (x.2.1 ++ thsB l)).drop 2).take x.2.1.length = x.2.1 := List.take_left' rfl
    rw [ed, et, ih hm.2]
    rfl
def takeT (b : List Int) : List Th × Int × Unit := match thsOf b with
  | some l => (l, 0, ())
  | none => ([], 2, ())
theorem takeT_len (b : List Int) : (takeT b).1.length ≤ b.length := by
  unfold takeT
  cases h : thsOf b with
  | none => simp
  | some l => exact thsOf_len b.length b l (Nat.le_refl _) h
theorem takeT_of (l : List Th) (hm : l.all thOk = true) : takeT (thsB l) = (l, 0, ()) := by
  unfold takeT; rw [thsOf_thsB l hm]
def takeF (b : List Int) (acc : List Th) : List Th × Int × Unit := match thsOf b with
  | some l => (acc ++ l, 0, ())
  | none => ([], 2, ())
theorem takeF_step {b : List Int} (acc : List Th) (h : b.length ≠ 0) : takeF b acc = if b.length < 2 + (rd b 1).toNat then ([], 2, ()) else takeF (b.drop (2 + (rd b 1).toNat)) (acc ++ [(rd b 0, (b.drop 2).take (rd b 1).toNat, ())]) := by
  unfold takeF
  rw [thsOf_step h]
  by_cases h1 : b.length < 2 + (rd b 1).toNat
  · rw [if_pos h1, if_pos h1]
  · rw [if_neg h1, if_neg h1]
    cases thsOf (b.drop (2 + (rd b 1).toNat)) with
    | none => rfl
    | some l => simp
theorem ttake_eq (b : List Int) (hb : By b) (hl : b.length ≤ 1000000) : tlv_Take.p (b, ()) = some (takeT b) := by
  unfold tlv_Take.p
  simp only [jn_eq]
  refine (iterK_fix (F := fun x => some (takeF x.1 x.2.1)) (m := fun x => x.1.length) (I := fun x => By x.1 ∧ x.2.1.length + x.1.length ≤ 1000000) ?_ _ _ ⟨hb, by simpa using hl⟩ (by simp; omega)).trans (by
    unfold takeF takeT
    cases thsOf b <;> rfl)
  rintro ⟨k, acc, _⟩ r ⟨hk, hk2⟩ hr
  simp only at hk hk2 ⊢
  by_cases h0 : k.length = 0
  · have hk0 : k = [] := List.eq_nil_of_length_eq_zero h0
    subst hk0
    simp [takeF, thsOf_nil]
  · rw [if_pos (by simp only [decide_eq_true_eq]; omega), takeF_step acc h0, cut_eq k 2 (by omega)]
    unfold cut
    rw [if_neg (by omega)]
    have e2 : (2 : Int).toNat = 2 := rfl
    have e1 : (1 : Int).toNat = 1 := rfl
    have e0 : (0 : Int).toNat = 0 := rfl
    by_cases h2 : k.length < 2
    · rw [if_pos (by omega), if_pos (by omega)]
      rfl
    · rw [if_neg (by omega)]
      have hl2 : (k.take 2).length = 2 := by rw [List.length_take]; omega
      have hr1 : rd (k.take 2) 1 = rd k 1 := by rw [rd_get _ 1 (by omega), rd_get _ 1 (by omega), List.getElem_take]
      have hr0 : rd (k.take 2) 0 = rd k 0 := by rw [rd_get _ 0 (by omega), rd_get _ 0 (by omega), List.getElem_take]
      have b1 := hk.at 1 (by omega)
      have b0 := hk.at 0 (by omega)
      simp only [bind_eq, e0, e1, e2, hl2, hr0, hr1, decide_true, Bool.not_true, Bool.false_eq_true, if_false]
      rw [if_pos (by omega), w64 (by omega), cut_eq _ _ (by rw [List.length_drop]; omega)]
      unfold cut
      rw [if_neg (by omega)]
      by_cases h3 : rd k 1 > ((k.drop 2).length : Int)
      · rw [if_pos h3, if_pos (by rw [List.length_drop] at h3; omega)]
        rfl
      · rw [if_neg h3, if_neg (by rw [List.length_drop] at h3; omega)]
        simp only [bind_eq, decide_true, Bool.not_true, Bool.false_eq_true, if_false]
        rw [if_pos (by omega), w64 (by omega), if_pos (by simp only [List.length_cons, List.length_nil, maxBytes]; omega), List.drop_drop, hr _ ⟨hk.drop _, by simp only [List.length_append, List.length_cons, List.length_nil, List.length_drop]; omega⟩ (by simp only [List.length_drop]; omega)]
theorem rttake_eq (b : List Int) (hb : By b) (hl : b.length ≤ 1000000) : ref21_Take.p (b, ()) = some (takeT b) := by
  unfold ref21_Take.p
  simp only [jn_eq]
  refine (iterK_fix (F := fun x => some (takeF x.1 x.2.1)) (m := fun x => x.1.length) (I := fun x => By x.1 ∧ x.2.1.length + x.1.length ≤ 1000000) ?_ _ _ ⟨hb, by simpa using hl⟩ (by simp; omega)).trans (by
    unfold takeF takeT
    cases thsOf b <;> rfl)
  rintro ⟨k, acc, _⟩ r ⟨hk, hk2⟩ hr
  simp only at hk hk2 ⊢
  by_cases h0 : k.length = 0
  · have hk0 : k = [] := List.eq_nil_of_length_eq_zero h0
    subst hk0
    simp [takeF, thsOf_nil]
  · rw [if_pos (by simp only [decide_eq_true_eq]; omega), takeF_step acc h0]
    have e2 : (2 : Int).toNat = 2 := rfl
    have e1 : (1 : Int).toNat = 1 := rfl
    have e0 : (0 : Int).toNat = 0 := rfl
    by_cases h2 : k.length < 2
    · have h3 : k.length < 2 + (rd k 1).toNat := by omega
      rw [if_pos (by simp only [decide_eq_true_eq]; omega)]
      simp [h3]
    · have b1 := hk.at 1 (by omega)
      have b0 := hk.at 0 (by omega)
      have bn1 : (0 : Int) ≤ 1 ∧ (1 : Int) < (k.length : Int) := by omega
      have bn0 : (0 : Int) ≤ 0 ∧ (0 : Int) < (k.length : Int) := by omega
      rw [if_neg (by simp only [decide_eq_true_eq]; omega)]
      simp only [bn0, bn1, and_self, if_true, e0, e1, e2]
      rw [w64 (x := rd k 1) (by omega), w64 (x := rd k 0) (by omega), w64 (x := 2 + rd k 1) (by omega)]
      by_cases h3 : (k.length : Int) < 2 + rd k 1
      · rw [if_pos (by simpa using h3), if_pos (show k.length < 2 + (rd k 1).toNat by omega)]
      · rw [if_neg (by simpa using h3), if_neg (show ¬ k.length < 2 + (rd k 1).toNat by omega)]
        have et : (2 + rd k 1).toNat = 2 + (rd k 1).toNat := by omega
        have ec : List.drop 2 (List.take (2 + (rd k 1).toNat) k) = (k.drop 2).take (rd k 1).toNat := by rw [List.drop_take, show 2 + (rd k 1).toNat - 2 = (rd k 1).toNat by omega]
        simp only [et, ec, Int.toNat_natCast, List.take_length, List.nil_append]
        rw [if_pos (by omega), if_pos (by simp only [List.length_nil, List.length_take, List.length_drop, maxBytes]; omega), if_pos (by simp only [List.length_cons, List.length_nil, maxBytes]; omega), if_pos (by omega), hr _ ⟨hk.drop _, by simp only [List.length_append, List.length_cons, List.length_nil, List.length_drop]; omega⟩ (by simp only [List.length_drop]; omega)]
end Go.Proofs.Ytocloebloblodaa.F
