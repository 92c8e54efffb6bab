/- Updates: as bytes and back; the law. -/
import Derived.Test.YtmmkdalbcfjogaaLR11
import Derived.Test.YtmmkdalbcfjogaaFrc
set_option maxRecDepth 100000
set_option linter.unusedVariables false
set_option linter.unusedSimpArgs false
open Go Go.Proofs.Fr
namespace Go.Proofs.Ytmmkdalbcfjogaa.F
theorem aliveA : law13_alive.p () = some (true, ()) := by decide +kernel
def AdOk (a : Ad) : Prop := HdOk a.1 ∧ By a.2.1
def adW (a : Ad) : Bool := whole a.1 a.2.1
def adB (a : Ad) : List Int := b4 (headW a.1) ++ a.2.1
def adsB (l : List Ad) : List Int := l.flatMap adB
abbrev z8 : Hd := (0, 0, 0, 0, 0, 0, 0, 0, ())
abbrev zAd : Ad := (z8, [], ())
theorem adsB_cons (a : Ad) (l : List Ad) : adsB (a :: l) = adB a ++ adsB l := by simp [adsB]
theorem headB_len' (h : Hd) : (b4 (headW h)).length = 20 := by rw [b4_length]; rfl
theorem adB_len (a : Ad) : (adB a).length = 20 + a.2.1.length := by unfold adB; rw [List.length_append, headB_len']
theorem adsB_by (l : List Ad) (h : ∀ a ∈ l, AdOk a) : By (adsB l) := by
  intro x hx
  simp only [adsB, List.mem_flatMap] at hx
  obtain ⟨a, ha, hh⟩ := hx
  exact ((b4_by _).app (h a ha).2) x hh
def shortB (l : List Ad) : Bool := decide (l.length ≤ 60) && l.all fun a => decide (a.2.1.length ≤ 1600)
theorem short_eq (l : List Ad) : law13_short.p (l, ()) = some (shortB l, ()) := by
  unfold law13_short.p shortB
  simp only [jn_eq]
  refine (iterK_fix (F := fun x => some (decide (l.length ≤ 60) && (l.drop x.1.toNat).all fun a => decide (a.2.1.length ≤ 1600), ())) (m := fun x => 61 - x.1.toNat) (I := fun x => 0 ≤ x.1 ∧ x.1 ≤ 60 ∧ x.1 ≤ (l.length : Int)) ?_ _ _ (by simp) (by simp)).trans rfl
  rintro ⟨i, _⟩ r ⟨h0, h1, h2⟩ hr
  obtain ⟨j, rfl⟩ := Int.eq_ofNat_of_zero_le h0
  simp only [Int.toNat_natCast] at *
  by_cases hj : j < l.length
  · rw [if_pos (by simpa using hj)]
    by_cases h60 : j = 60
    · have : ¬ l.length ≤ 60 := by omega
      rw [if_pos (by simp only [decide_eq_true_eq]; omega)]
      simp [this]
    · rw [if_neg (by simp only [decide_eq_true_eq]; omega), if_pos (by omega), drop_rdZ zAd l j hj, List.all_cons]
      obtain ⟨a, ha⟩ : ∃ a, rdZ zAd l j = a := ⟨_, rfl⟩
      simp only [ha]
      by_cases hc : (a.2.1.length : Int) > 1600
      · have hc' : ¬ a.2.1.length ≤ 1600 := by omega
        simp [hc, hc']
      · have hc' : a.2.1.length ≤ 1600 := by omega
        simp only [hc, hc', decide_false, decide_true, Bool.false_eq_true, if_false, Bool.true_and]
        rw [w64 (by omega), hr _ ⟨by first | omega | (dsimp only; omega) | (simp only [List.length_cons, List.length_nil, List.length_append, List.length_drop, List.length_take, maxBytes]; omega) | (simp; omega), by first | omega | (dsimp only; omega) | (simp only [List.length_cons, List.length_nil, List.length_append, List.length_drop, List.length_take, maxBytes]; omega) | (simp; omega), by first | omega | (dsimp only; omega) | (simp only [List.length_cons, List.length_nil, List.length_append, List.length_drop, List.length_take, maxBytes]; omega) | (simp; omega)⟩ (by first | omega | (dsimp only; omega) | (simp only [List.length_cons, List.length_nil, List.length_append, List.length_drop, List.length_take, maxBytes]; omega) | (simp; omega))]
        simp only [show ((j : Int) + 1).toNat = j + 1 by omega]
  · rw [if_neg (by simpa using hj), List.drop_eq_nil_of_le (by omega)]
    have : l.length ≤ 60 := by omega
    simp [this]
def putAdsR (l : List Ad) : List Int × Int × Unit := if l.all adW = true ∧ l.length ≤ 50 ∧ (adsB l).length ≤ 1472 then (be l.length 4 ++ adsB l, 0, ()) else ([], 1, ())
theorem adW_may {a : Ad} (h : adW a = true) : mayAd a.1 a.2.1 = true := by
  unfold adW whole at h
  rw [Bool.and_eq_true] at h
  exact h.1
theorem putAds_eq (l : List Ad) (hu : ∀ a ∈ l, AdOk a) (hl : ∀ a ∈ l, a.2.1.length ≤ 1600) (hn : l.length ≤ 60) : dbd_PutAds.p (l, ()) = some (putAdsR l) := by
  unfold dbd_PutAds.p putAdsR
  simp only [jn_eq]
  have hw : IntKind.u32.wrap (l.length : Int) = (l.length : Int) := by rw [wu32]; omega
  have hput : putB [] (l.length : Int) 4 = (be l.length 4, 0, ()) := by
    unfold putB
    rw [if_neg (by omega), if_pos (by simp [fits])]
    rfl
  rw [hw, put_eq [] _ 4 (by omega) (by simp), hput]
  simp only [bind_eq]
  refine (iterK_fix (F := fun x => some (if (l.drop x.2.1.toNat).all adW = true ∧ l.length ≤ 50 ∧ x.1.length + (adsB (l.drop x.2.1.toNat)).length ≤ 1476 then (x.1 ++ adsB (l.drop x.2.1.toNat), 0, ()) else ([], 1, ()))) (m := fun x => l.length - x.2.1.toNat) (I := fun x => (0 ≤ x.2.1 ∧ x.2.1 ≤ (l.length : Int)) ∧ x.1.length ≤ 4 + 1620 * x.2.1.toNat) ?_ _ _ ⟨by simp, by simp [be_length]⟩ (by simp; omega)).trans ?_
  · rintro ⟨acc, i, _⟩ r ⟨⟨h0, h1⟩, h2⟩ hr
    obtain ⟨j, rfl⟩ := Int.eq_ofNat_of_zero_le h0
    simp only [Int.toNat_natCast] at *
    by_cases hj : j < l.length
    · rw [if_pos (by simpa using hj), if_pos (by omega), drop_rdZ zAd l j hj]
      have hm := hu _ (rdZ_mem zAd l j hj)
      have hml := hl _ (rdZ_mem zAd l j hj)
      obtain ⟨a, ha⟩ : ∃ a, rdZ zAd l j = a := ⟨_, rfl⟩
      simp only [ha] at hm hml ⊢
      rw [encode_eq a.1 a.2.1 hm.1 (by omega), whole_eq a.1 a.2.1 hm.1 hm.2 (by omega), adsB_cons, List.all_cons]
      simp only [bind_eq]
      change _ = some (if (adW a && _) = true ∧ _ then _ else _)
      cases hma : mayAd a.1 a.2.1 with
      | false =>
        have hw : adW a = false := by unfold adW whole; rw [hma]; rfl
        simp [hw]
      | true =>
        simp only [if_true, decide_true, Bool.not_true, Bool.false_eq_true, if_false]
        change (if (!adW a) = true then _ else _) = _
        cases hw : adW a with
        | false => simp
        | true =>
          have hb := adB_len a
          unfold adB at hb
          simp only [Bool.not_true, Bool.false_eq_true, if_false, Bool.true_and]
          rw [if_pos (by simp only [hb, maxBytes]; omega), w64 (by omega), hr _ ⟨⟨by first | omega | (dsimp only; omega) | (simp only [List.length_cons, List.length_nil, List.length_append, List.length_drop, List.length_take, maxBytes]; omega) | (simp; omega), by first | omega | (dsimp only; omega) | (simp only [List.length_cons, List.length_nil, List.length_append, List.length_drop, List.length_take, maxBytes]; omega) | (simp; omega)⟩, by simp only [List.length_append, hb]; omega⟩ (by first | omega | (dsimp only; omega) | (simp only [List.length_cons, List.length_nil, List.length_append, List.length_drop, List.length_take, maxBytes]; omega) | (simp; omega))]
          simp only [show ((j : Int) + 1).toNat = j + 1 by omega, List.append_assoc, List.length_append, adB, Nat.add_assoc]
    · rw [if_neg (by simpa using hj), List.drop_eq_nil_of_le (by omega)]
      by_cases c1 : (l.length : Int) > 50
      · have e1 : ¬ l.length ≤ 50 := by omega
        simp [c1, e1]
      · have e1 : l.length ≤ 50 := by omega
        by_cases c2 : (acc.length : Int) > 1476
        · have e2 : ¬ acc.length ≤ 1476 := by omega
          simp [c1, e1, c2, e2, adsB]
        · have e2 : acc.length ≤ 1476 := by omega
          simp [c1, e1, c2, e2, adsB]
  · have e : (4 + (adsB l).length ≤ 1476) = ((adsB l).length ≤ 1472) := by apply propext; omega
    simp only [Int.toNat_zero, List.drop_zero, be_length, e]
theorem rputAds_eq (l : List Ad) (hu : ∀ a ∈ l, AdOk a) (hl : ∀ a ∈ l, a.2.1.length ≤ 1600) (hn : l.length ≤ 60) : ref13_PutAds.p (l, ()) = some (putAdsR l) := by
  unfold ref13_PutAds.p putAdsR
  simp only [jn_eq]
  have hw : IntKind.u32.wrap (l.length : Int) = (l.length : Int) := by rw [wu32]; omega
  rw [hw, four_eq _ (by unfold U32; omega)]
  simp only [bind_eq]
  refine (iterK_fix (F := fun x => some (if (l.drop x.2.1.toNat).all adW = true ∧ l.length ≤ 50 ∧ x.1.length + (adsB (l.drop x.2.1.toNat)).length ≤ 1472 then (be l.length 4 ++ x.1 ++ adsB (l.drop x.2.1.toNat), 0, ()) else ([], 1, ()))) (m := fun x => l.length - x.2.1.toNat) (I := fun x => (0 ≤ x.2.1 ∧ x.2.1 ≤ (l.length : Int)) ∧ x.1.length ≤ 4 + 1620 * x.2.1.toNat) ?_ _ _ ⟨by simp, by simp [be_length]⟩ (by simp; omega)).trans ?_
  · rintro ⟨acc, i, _⟩ r ⟨⟨h0, h1⟩, h2⟩ hr
    obtain ⟨j, rfl⟩ := Int.eq_ofNat_of_zero_le h0
    simp only [Int.toNat_natCast] at *
    by_cases hj : j < l.length
    · have hbnd : (0 : Int) ≤ j ∧ (j : Int) < (l.length : Int) := by omega
      rw [if_pos (by simpa using hj), drop_rdZ zAd l j hj]
      have hm := hu _ (rdZ_mem zAd l j hj)
      have hml := hl _ (rdZ_mem zAd l j hj)
      obtain ⟨a, ha⟩ : ∃ a, rdZ zAd l j = a := ⟨_, rfl⟩
      simp only [ha] at hm hml ⊢
      simp only [hbnd, and_self, if_true]
      rw [rencode_eq a.1 a.2.1 hm.1 (by omega), rwhole_eq a.1 a.2.1 hm.1 hm.2 (by omega), adsB_cons, List.all_cons]
      simp only [bind_eq]
      change _ = some (if (adW a && _) = true ∧ _ then _ else _)
      cases hma : mayAd a.1 a.2.1 with
      | false =>
        have hw : adW a = false := by unfold adW whole; rw [hma]; rfl
        simp [hw]
      | true =>
        simp only [if_true, decide_true, Bool.not_true, Bool.false_eq_true, if_false]
        change (if (!adW a) = true then _ else _) = _
        cases hw : adW a with
        | false => simp
        | true =>
          have hb := adB_len a
          unfold adB at hb
          simp only [Bool.not_true, Bool.false_eq_true, if_false, Bool.true_and]
          rw [if_pos (by simp only [hb, maxBytes]; omega), w64 (by omega), hr _ ⟨⟨by first | omega | (dsimp only; omega) | (simp only [List.length_cons, List.length_nil, List.length_append, List.length_drop, List.length_take, maxBytes]; omega) | (simp; omega), by first | omega | (dsimp only; omega) | (simp only [List.length_cons, List.length_nil, List.length_append, List.length_drop, List.length_take, maxBytes]; omega) | (simp; omega)⟩, by simp only [List.length_append, hb]; omega⟩ (by first | omega | (dsimp only; omega) | (simp only [List.length_cons, List.length_nil, List.length_append, List.length_drop, List.length_take, maxBytes]; omega) | (simp; omega))]
          simp only [show ((j : Int) + 1).toNat = j + 1 by omega, List.append_assoc, List.length_append, adB, Nat.add_assoc]
    · rw [if_neg (by simpa using hj), List.drop_eq_nil_of_le (by omega)]
      by_cases c1 : (l.length : Int) > 50
      · have e1 : ¬ l.length ≤ 50 := by omega
        simp [c1, e1]
      · have e1 : l.length ≤ 50 := by omega
        by_cases c2 : (acc.length : Int) > 1472
        · have e2 : ¬ acc.length ≤ 1472 := by omega
          simp [c1, e1, c2, e2, adsB]
        · have e2 : acc.length ≤ 1472 := by omega
          have e3 : (be (l.length : Int) 4).length + acc.length ≤ maxBytes / 1 := by simp only [be_length, maxBytes]; omega
          simp only [c1, e1, c2, e2, e3, decide_false, Bool.false_eq_true, if_false, if_true, adsB, List.flatMap_nil, List.append_nil, List.length_nil, Nat.add_zero, List.all_nil, and_self]
  · simp only [Int.toNat_zero, List.drop_zero, List.length_nil, Nat.zero_add, List.append_nil]
/-- One advertisement off bytes. -/
def hdA (b : List Int) : Hd := (readH b).1
def bodyA (b : List Int) : List Int := (b.drop 20).take (lenOf (hdA b) - 20).toNat
def restA (b : List Int) : List Int := b.drop (lenOf (hdA b)).toNat
def errA (b : List Int) : Int := if ¬ (readH b).2.2.1 = 0 then (readH b).2.2.1 else if lenOf (hdA b) > (b.length : Int) then 2 else 0
theorem errA_not4 (b : List Int) : errA b ≠ 4 := by
  have h0 : (readH b).2.2.1 ≠ 4 := by
    unfold readH
    split
    · simp
    · split <;> simp
  unfold errA
  split
  · exact h0
  · split <;> simp
theorem errA_zero {b : List Int} (hb : By b) (h : errA b = 0) : (readH b).2.2.1 = 0 ∧ 20 ≤ lenOf (hdA b) ∧ lenOf (hdA b) ≤ 1400 ∧ lenOf (hdA b) ≤ (b.length : Int) ∧ HdOk (hdA b) ∧ (readH b).2.1 = b.drop 20 ∧ mayH (hdA b) = true := by
  unfold errA at h
  split at h
  · rename_i h1; exact absurd h h1
  · rename_i h1
    obtain ⟨k0, k1, k2, k3, k4, k5⟩ := readH_ok hb (Decidable.not_not.1 h1)
    have hm := (mayH_iff _).1 k2
    split at h
    · cases h
    · rename_i h2
      exact ⟨Decidable.not_not.1 h1, hm.2.2.2.2.1, hm.2.2.2.2.2, by omega, k4, k3, k2⟩
theorem dec_step {b : List Int} (hb : By b) : dec b = if ¬ errA b = 0 then ((noH, [], ()), [], errA b, ()) else if whole (hdA b) (bodyA b) = true then ((hdA b, bodyA b, ()), restA b, 0, ()) else ((noH, [], ()), [], 4, ()) := by
  unfold dec
  by_cases h1 : (readH b).2.2.1 = 0
  · obtain ⟨k0, k1, k2, k3, k4, k5⟩ := readH_ok hb h1
    have hm : 20 ≤ lenOf (readH b).1 ∧ lenOf (readH b).1 ≤ 1400 := ((mayH_iff _).1 k2).2.2.2.2
    rw [if_neg (by simpa using h1)]
    by_cases h2 : lenOf (hdA b) > (b.length : Int)
    · have e : errA b = 2 := by unfold errA; rw [if_neg (by simpa using h1), if_pos h2]
      have ec : cut (readH b).2.1 (lenOf (readH b).1 - 20) = ([], [], 2, ()) := by
        unfold cut
        unfold hdA at h2
        rw [if_neg (by omega), if_pos (by rw [k3, List.length_drop]; omega)]
      rw [e, ec]
      simp
    · have e : errA b = 0 := by unfold errA; rw [if_neg (by simpa using h1), if_neg h2]
      have ec : cut (readH b).2.1 (lenOf (readH b).1 - 20) = (bodyA b, restA b, 0, ()) := by
        unfold cut bodyA restA
        unfold hdA at h2 ⊢
        rw [if_neg (by omega), if_neg (by rw [k3, List.length_drop]; omega), k3, List.drop_drop, show 20 + (lenOf (readH b).1 - 20).toNat = (lenOf (readH b).1).toNat by omega]
      rw [e, ec]
      simp only [not_true_eq_false, if_false]
      rfl
  · have e : errA b = (readH b).2.2.1 := by unfold errA; rw [if_pos h1]
    rw [if_pos h1, e, if_pos h1]
def adsOf : Nat → List Int → List Ad → Int → List Ad × Int × Int × Unit
  | 0, b, acc, odd => if (b.length : Int) > 0 then ([], 0, 3, ()) else (acc, odd, 0, ())
  | n + 1, b, acc, odd => if ¬ errA b = 0 then ([], 0, errA b, ()) else if whole (hdA b) (bodyA b) = true then adsOf n (restA b) (acc ++ [(hdA b, bodyA b, ())]) odd else adsOf n (restA b) acc (odd + 1)
def takeAdsR (b : List Int) : List Ad × Int × Int × Unit := if b.length < 4 then ([], 0, 2, ()) else if num (b.take 4) > 50 then ([], 0, 3, ()) else adsOf (num (b.take 4)).toNat (b.drop 4) [] 0
theorem restA_by {b : List Int} (hb : By b) : By (restA b) := hb.drop _
theorem restA_len (b : List Int) : (restA b).length ≤ b.length := by unfold restA; rw [List.length_drop]; omega
theorem bodyA_by {b : List Int} (hb : By b) : By (bodyA b) := (hb.drop _).take _
theorem bodyA_len (b : List Int) : (bodyA b).length ≤ b.length := by unfold bodyA; rw [List.length_take, List.length_drop]; omega
theorem takeAds_eq (b : List Int) (hb : By b) (hl : b.length ≤ 1000000) : dbd_TakeAds.p (b, ()) = some (takeAdsR b) := by
  unfold dbd_TakeAds.p takeAdsR
  rw [take_eq b 4 hb (by omega)]
  unfold take
  rw [if_neg (by omega)]
  by_cases h4 : b.length < 4
  · rw [if_pos (by omega), if_pos h4]
    rfl
  · rw [if_neg (by omega), if_neg h4]
    have e4 : (4 : Int).toNat = 4 := rfl
    simp only [e4, bind_eq, decide_true, Bool.not_true, Bool.false_eq_true, if_false]
    have hnr := num_range _ (hb.take 4)
    by_cases h50 : num (b.take 4) > 50
    · rw [if_pos (by simpa using h50), if_pos h50]
    · rw [if_neg (by simpa using h50), if_neg h50]
      obtain ⟨n, hn⟩ := Int.eq_ofNat_of_zero_le hnr.1
      have hb4 := hb.drop 4
      have hl4 : (b.drop 4).length ≤ 1000000 := by rw [List.length_drop]; omega
      generalize b.drop 4 = c at hb4 hl4 ⊢
      rw [hn] at h50 ⊢
      rw [Int.toNat_natCast]
      cases n with
      | zero =>
        rw [if_pos (by simp)]
        show _ = some (if (c.length : Int) > 0 then ([], 0, 3, ()) else ([], 0, 0, ()))
        by_cases hc : (c.length : Int) > 0
        · rw [if_pos hc, if_pos (by simpa using hc)]
        · rw [if_neg hc, if_neg (by simpa using hc)]
      | succ n =>
        rw [if_neg (show ¬ decide (((n + 1 : Nat) : Int) = 0) = true by simp only [decide_eq_true_eq]; omega), decode_eq c hb4 hl4, dec_step hb4]
        show _ = some (if ¬ errA c = 0 then ([], 0, errA c, ()) else if whole (hdA c) (bodyA c) = true then adsOf n (restA c) ([] ++ [(hdA c, bodyA c, ())]) 0 else adsOf n (restA c) [] (0 + 1))
        have e1 : IntKind.u32.wrap (((n + 1 : Nat) : Int) - 1) = (n : Int) := by rw [wu32]; omega
        have hwl := errA_not4 c
        by_cases he : errA c = 0
        · obtain ⟨q1, q2, q3, q4, q5, q6, q7⟩ := errA_zero hb4 he
          have hle : (0 : Int) ≤ lenOf (hdA c) ∧ lenOf (hdA c) ≤ (c.length : Int) := by omega
          simp only [he, not_true_eq_false, if_false, e1]
          cases hw : whole (hdA c) (bodyA c) with
          | true =>
            simp only [bind_eq, if_true, decide_true]
            rw [if_pos (by simp [maxBytes])]
            refine (iterK_fix (F := fun x => some (adsOf x.2.2.1.toNat x.2.2.2.1 x.1 x.2.1)) (m := fun x => x.2.2.1.toNat) (I := fun x => (0 ≤ x.2.2.1 ∧ x.2.2.1 ≤ 50) ∧ (0 ≤ x.2.1 ∧ x.2.1 + x.2.2.1 ≤ 60) ∧ By x.2.2.2.1 ∧ x.2.2.2.1.length ≤ 1000000 ∧ (x.1.length : Int) + x.2.2.1 ≤ 60) ?_ _ _ ⟨by first | omega | (dsimp only; omega) | (simp only [List.length_cons, List.length_nil, List.length_append, List.length_drop, List.length_take, maxBytes]; omega) | (simp; omega), by first | omega | (dsimp only; omega) | (simp only [List.length_cons, List.length_nil, List.length_append, List.length_drop, List.length_take, maxBytes]; omega) | (simp; omega), restA_by hb4, Nat.le_trans (restA_len c) hl4, by first | omega | (dsimp only; omega) | (simp only [List.length_cons, List.length_nil, List.length_append, List.length_drop, List.length_take, maxBytes]; omega) | (simp; omega)⟩ (by first | omega | (dsimp only; omega) | (simp only [List.length_cons, List.length_nil, List.length_append, List.length_drop, List.length_take, maxBytes]; omega) | (simp; omega))).trans rfl
            rintro ⟨acc, odd, left, k, _⟩ r ⟨⟨i0, i1⟩, ⟨i2, i3⟩, i4, i5, i6⟩ hr
            obtain ⟨m, rfl⟩ := Int.eq_ofNat_of_zero_le i0
            simp only at i1 i2 i3 i4 i5 i6 ⊢
            cases m with
            | zero =>
              rw [if_pos (by simp)]
              show _ = some (if (k.length : Int) > 0 then ([], 0, 3, ()) else (acc, odd, 0, ()))
              by_cases hc : (k.length : Int) > 0
              · rw [if_pos hc, if_pos (by simpa using hc)]
              · rw [if_neg hc, if_neg (by simpa using hc)]
            | succ m =>
              rw [if_neg (by simp only [decide_eq_true_eq]; omega), decode_eq k i4 i5, dec_step i4]
              show _ = some (if ¬ errA k = 0 then ([], 0, errA k, ()) else if whole (hdA k) (bodyA k) = true then adsOf m (restA k) (acc ++ [(hdA k, bodyA k, ())]) odd else adsOf m (restA k) acc (odd + 1))
              have e1 : IntKind.u32.wrap (((m + 1 : Nat) : Int) - 1) = (m : Int) := by rw [wu32]; omega
              have hwl := errA_not4 k
              by_cases he : errA k = 0
              · obtain ⟨q1, q2, q3, q4, q5, q6, q7⟩ := errA_zero i4 he
                have hle : (0 : Int) ≤ lenOf (hdA k) ∧ lenOf (hdA k) ≤ (k.length : Int) := by omega
                simp only [he, not_true_eq_false, if_false, e1]
                cases hw : whole (hdA k) (bodyA k) with
                | true =>
                  simp only [bind_eq, if_true, decide_true]
                  rw [if_pos (by simp only [List.length_cons, List.length_nil, maxBytes]; omega), hr _ ⟨by first | omega | (dsimp only; omega) | (simp only [List.length_cons, List.length_nil, List.length_append, List.length_drop, List.length_take, maxBytes]; omega) | (simp; omega), by first | omega | (dsimp only; omega) | (simp only [List.length_cons, List.length_nil, List.length_append, List.length_drop, List.length_take, maxBytes]; omega) | (simp; omega), restA_by i4, Nat.le_trans (restA_len k) i5, by first | omega | (dsimp only; omega) | (simp only [List.length_cons, List.length_nil, List.length_append, List.length_drop, List.length_take, maxBytes]; omega) | (simp; omega)⟩ (by first | omega | (dsimp only; omega) | (simp only [List.length_cons, List.length_nil, List.length_append, List.length_drop, List.length_take, maxBytes]; omega) | (simp; omega))]
                  rfl
                | false =>
                  have hRH := readH_eq k i4 i5
                  simp only [hRH, bind_eq, Bool.false_eq_true, if_false, decide_true, if_true, show ¬ (4 : Int) = 0 by decide, decide_false, Int.toNat_natCast, List.take_length]
                  rw [if_pos ⟨hle.1, hle.2, Int.le_refl _⟩, w64 (by omega), hr _ ⟨by first | omega | (dsimp only; omega) | (simp only [List.length_cons, List.length_nil, List.length_append, List.length_drop, List.length_take, maxBytes]; omega) | (simp; omega), by first | omega | (dsimp only; omega) | (simp only [List.length_cons, List.length_nil, List.length_append, List.length_drop, List.length_take, maxBytes]; omega) | (simp; omega), i4.drop _, by rw [List.length_drop]; omega, by first | omega | (dsimp only; omega) | (simp only [List.length_cons, List.length_nil, List.length_append, List.length_drop, List.length_take, maxBytes]; omega) | (simp; omega)⟩ (by first | omega | (dsimp only; omega) | (simp only [List.length_cons, List.length_nil, List.length_append, List.length_drop, List.length_take, maxBytes]; omega) | (simp; omega))]
                  rfl
              · simp only [he, not_false_eq_true, if_true, bind_eq, decide_false, Bool.false_eq_true, if_false, hwl]
          | false =>
            have hRH := readH_eq c hb4 hl4
            simp only [hRH, bind_eq, Bool.false_eq_true, if_false, decide_true, if_true, show ¬ (4 : Int) = 0 by decide, decide_false, Int.toNat_natCast, List.take_length]
            rw [if_pos ⟨hle.1, hle.2, Int.le_refl _⟩, w64 (by omega)]
            refine (iterK_fix (F := fun x => some (adsOf x.2.2.1.toNat x.2.2.2.1 x.1 x.2.1)) (m := fun x => x.2.2.1.toNat) (I := fun x => (0 ≤ x.2.2.1 ∧ x.2.2.1 ≤ 50) ∧ (0 ≤ x.2.1 ∧ x.2.1 + x.2.2.1 ≤ 60) ∧ By x.2.2.2.1 ∧ x.2.2.2.1.length ≤ 1000000 ∧ (x.1.length : Int) + x.2.2.1 ≤ 60) ?_ _ _ ⟨by first | omega | (dsimp only; omega) | (simp only [List.length_cons, List.length_nil, List.length_append, List.length_drop, List.length_take, maxBytes]; omega) | (simp; omega), by first | omega | (dsimp only; omega) | (simp only [List.length_cons, List.length_nil, List.length_append, List.length_drop, List.length_take, maxBytes]; omega) | (simp; omega), hb4.drop _, by rw [List.length_drop]; omega, by first | omega | (dsimp only; omega) | (simp only [List.length_cons, List.length_nil, List.length_append, List.length_drop, List.length_take, maxBytes]; omega) | (simp; omega)⟩ (by first | omega | (dsimp only; omega) | (simp only [List.length_cons, List.length_nil, List.length_append, List.length_drop, List.length_take, maxBytes]; omega) | (simp; omega))).trans rfl
            rintro ⟨acc, odd, left, k, _⟩ r ⟨⟨i0, i1⟩, ⟨i2, i3⟩, i4, i5, i6⟩ hr
            obtain ⟨m, rfl⟩ := Int.eq_ofNat_of_zero_le i0
            simp only at i1 i2 i3 i4 i5 i6 ⊢
            cases m with
            | zero =>
              rw [if_pos (by simp)]
              show _ = some (if (k.length : Int) > 0 then ([], 0, 3, ()) else (acc, odd, 0, ()))
              by_cases hc : (k.length : Int) > 0
              · rw [if_pos hc, if_pos (by simpa using hc)]
              · rw [if_neg hc, if_neg (by simpa using hc)]
            | succ m =>
              rw [if_neg (by simp only [decide_eq_true_eq]; omega), decode_eq k i4 i5, dec_step i4]
              show _ = some (if ¬ errA k = 0 then ([], 0, errA k, ()) else if whole (hdA k) (bodyA k) = true then adsOf m (restA k) (acc ++ [(hdA k, bodyA k, ())]) odd else adsOf m (restA k) acc (odd + 1))
              have e1 : IntKind.u32.wrap (((m + 1 : Nat) : Int) - 1) = (m : Int) := by rw [wu32]; omega
              have hwl := errA_not4 k
              by_cases he : errA k = 0
              · obtain ⟨q1, q2, q3, q4, q5, q6, q7⟩ := errA_zero i4 he
                have hle : (0 : Int) ≤ lenOf (hdA k) ∧ lenOf (hdA k) ≤ (k.length : Int) := by omega
                simp only [he, not_true_eq_false, if_false, e1]
                cases hw : whole (hdA k) (bodyA k) with
                | true =>
                  simp only [bind_eq, if_true, decide_true]
                  rw [if_pos (by simp only [List.length_cons, List.length_nil, maxBytes]; omega), hr _ ⟨by first | omega | (dsimp only; omega) | (simp only [List.length_cons, List.length_nil, List.length_append, List.length_drop, List.length_take, maxBytes]; omega) | (simp; omega), by first | omega | (dsimp only; omega) | (simp only [List.length_cons, List.length_nil, List.length_append, List.length_drop, List.length_take, maxBytes]; omega) | (simp; omega), restA_by i4, Nat.le_trans (restA_len k) i5, by first | omega | (dsimp only; omega) | (simp only [List.length_cons, List.length_nil, List.length_append, List.length_drop, List.length_take, maxBytes]; omega) | (simp; omega)⟩ (by first | omega | (dsimp only; omega) | (simp only [List.length_cons, List.length_nil, List.length_append, List.length_drop, List.length_take, maxBytes]; omega) | (simp; omega))]
                  rfl
                | false =>
                  have hRH := readH_eq k i4 i5
                  simp only [hRH, bind_eq, Bool.false_eq_true, if_false, decide_true, if_true, show ¬ (4 : Int) = 0 by decide, decide_false, Int.toNat_natCast, List.take_length]
                  rw [if_pos ⟨hle.1, hle.2, Int.le_refl _⟩, w64 (by omega), hr _ ⟨by first | omega | (dsimp only; omega) | (simp only [List.length_cons, List.length_nil, List.length_append, List.length_drop, List.length_take, maxBytes]; omega) | (simp; omega), by first | omega | (dsimp only; omega) | (simp only [List.length_cons, List.length_nil, List.length_append, List.length_drop, List.length_take, maxBytes]; omega) | (simp; omega), i4.drop _, by rw [List.length_drop]; omega, by first | omega | (dsimp only; omega) | (simp only [List.length_cons, List.length_nil, List.length_append, List.length_drop, List.length_take, maxBytes]; omega) | (simp; omega)⟩ (by first | omega | (dsimp only; omega) | (simp only [List.length_cons, List.length_nil, List.length_append, List.length_drop, List.length_take, maxBytes]; omega) | (simp; omega))]
                  rfl
              · simp only [he, not_false_eq_true, if_true, bind_eq, decide_false, Bool.false_eq_true, if_false, hwl]
        · simp only [he, not_false_eq_true, if_true, bind_eq, decide_false, Bool.false_eq_true, if_false, hwl]
theorem rtakeAds_eq (b : List Int) (hb : By b) (hl : b.length ≤ 1000000) : ref13_TakeAds.p (b, ()) = some (takeAdsR b) := by
  unfold ref13_TakeAds.p takeAdsR
  rw [rtake_eq b 4 hb (by omega)]
  unfold take
  simp only [jn_eq]
  rw [if_neg (by omega)]
  by_cases h4 : b.length < 4
  · rw [if_pos (by omega), if_pos h4]
    rfl
  · rw [if_neg (by omega), if_neg h4]
    have e4 : (4 : Int).toNat = 4 := rfl
    simp only [e4, bind_eq, decide_true, Bool.not_true, Bool.false_eq_true, if_false]
    have hnr := num_range _ (hb.take 4)
    by_cases h50 : num (b.take 4) > 50
    · rw [if_pos (by simpa using h50), if_pos h50]
    · rw [if_neg (by simpa using h50), if_neg h50]
      obtain ⟨n, hn⟩ := Int.eq_ofNat_of_zero_le hnr.1
      have hb4 := hb.drop 4
      have hl4 : (b.drop 4).length ≤ 1000000 := by rw [List.length_drop]; omega
      generalize b.drop 4 = c at hb4 hl4 ⊢
      rw [hn] at h50 ⊢
      rw [Int.toNat_natCast]
      refine (iterK_fix (F := fun x => some (adsOf (n - x.2.2.2.1.toNat) x.1 x.2.1 x.2.2.1)) (m := fun x => n - x.2.2.2.1.toNat) (I := fun x => (0 ≤ x.2.2.2.1 ∧ x.2.2.2.1 ≤ (n : Int)) ∧ (0 ≤ x.2.2.1 ∧ x.2.2.1 ≤ x.2.2.2.1) ∧ By x.1 ∧ x.1.length ≤ 1000000 ∧ (x.2.1.length : Int) ≤ x.2.2.2.1) ?_ _ _ ⟨by first | omega | (dsimp only; omega) | (simp only [List.length_cons, List.length_nil, List.length_append, List.length_drop, List.length_take, maxBytes]; omega) | (simp; omega), by first | omega | (dsimp only; omega) | (simp only [List.length_cons, List.length_nil, List.length_append, List.length_drop, List.length_take, maxBytes]; omega) | (simp; omega), hb4, hl4, by first | omega | (dsimp only; omega) | (simp only [List.length_cons, List.length_nil, List.length_append, List.length_drop, List.length_take, maxBytes]; omega) | (simp; omega)⟩ (by first | omega | (dsimp only; omega) | (simp only [List.length_cons, List.length_nil, List.length_append, List.length_drop, List.length_take, maxBytes]; omega) | (simp; omega))).trans rfl
      rintro ⟨k, acc, odd, i, _⟩ r ⟨⟨i0, i1⟩, ⟨i2, i3⟩, i4, i5, i6⟩ hr
      obtain ⟨m, rfl⟩ := Int.eq_ofNat_of_zero_le i0
      simp only [Int.toNat_natCast] at i1 i2 i3 i4 i5 i6 ⊢
      by_cases hm : m < n
      · obtain ⟨q, hq⟩ : ∃ q, n - m = q + 1 := ⟨n - m - 1, by omega⟩
        have e1 : IntKind.u32.wrap ((m : Int) + 1) = ((m + 1 : Nat) : Int) := by rw [wu32]; omega
        rw [if_pos (by simp only [decide_eq_true_eq]; omega), rreadH_eq k i4 i5, hq]
        show _ = some (if ¬ errA k = 0 then ([], 0, errA k, ()) else if whole (hdA k) (bodyA k) = true then adsOf q (restA k) (acc ++ [(hdA k, bodyA k, ())]) odd else adsOf q (restA k) acc (odd + 1))
        simp only [bind_eq]
        by_cases h1 : (readH k).2.2.1 = 0
        · obtain ⟨k0, k1, k2, k3, k4, k5⟩ := readH_ok i4 h1
          have hmm : 20 ≤ lenOf (readH k).1 ∧ lenOf (readH k).1 ≤ 1400 := ((mayH_iff _).1 k2).2.2.2.2
          change 20 ≤ (readH k).1.2.2.2.2.2.2.2.1 ∧ (readH k).1.2.2.2.2.2.2.2.1 ≤ 1400 at hmm
          rw [if_neg (by simp [h1]), w64 (x := (readH k).1.2.2.2.2.2.2.2.1 - 20) (by omega), k3]
          by_cases h2 : lenOf (hdA k) > (k.length : Int)
          · have e : errA k = 2 := by unfold errA; rw [if_neg (by simpa using h1), if_pos h2]
            change (readH k).1.2.2.2.2.2.2.2.1 > _ at h2
            rw [e, if_pos (by simp only [List.length_drop, decide_eq_true_eq]; omega)]
            rfl
          · have e : errA k = 0 := by unfold errA; rw [if_neg (by simpa using h1), if_neg h2]
            have hbd : List.take (Int.toNat ((readH k).1.2.2.2.2.2.2.2.1 - 20)) (k.drop 20) = bodyA k := rfl
            have hrs : List.drop (Int.toNat ((readH k).1.2.2.2.2.2.2.2.1 - 20)) (k.drop 20) = restA k := by
              unfold restA hdA
              rw [List.drop_drop]
              congr 1
              change 20 + ((readH k).1.2.2.2.2.2.2.2.1 - 20).toNat = (readH k).1.2.2.2.2.2.2.2.1.toNat
              omega
            change ¬ (readH k).1.2.2.2.2.2.2.2.1 > _ at h2
            rw [e, if_neg (by simp only [List.length_drop, decide_eq_true_eq]; omega), if_pos (by simp only [List.length_drop]; omega), hbd, rwhole_eq _ _ k4 (bodyA_by i4) (Nat.le_trans (bodyA_len k) i5)]
            simp only [bind_eq, not_true_eq_false, if_false]
            have hle : (0 : Int) ≤ (readH k).1.2.2.2.2.2.2.2.1 - 20 ∧ (readH k).1.2.2.2.2.2.2.2.1 - 20 ≤ ((k.drop 20).length : Int) ∧ ((k.drop 20).length : Int) ≤ ((k.drop 20).length : Int) := by rw [List.length_drop]; omega
            have hq' : n - (m + 1) = q := by omega
            change (if whole (hdA k) (bodyA k) = true then _ else _) = _
            cases hw : whole (hdA k) (bodyA k) with
            | true =>
              simp only [if_true, hle, and_self, Int.toNat_natCast, List.take_length, hrs, e1]
              rw [if_pos (by simp only [List.length_cons, List.length_nil, maxBytes]; omega), hr _ ⟨by first | omega | (dsimp only; omega) | (simp only [List.length_cons, List.length_nil, List.length_append, List.length_drop, List.length_take, maxBytes]; omega) | (simp; omega), by first | omega | (dsimp only; omega) | (simp only [List.length_cons, List.length_nil, List.length_append, List.length_drop, List.length_take, maxBytes]; omega) | (simp; omega), restA_by i4, Nat.le_trans (restA_len k) i5, by first | omega | (dsimp only; omega) | (simp only [List.length_cons, List.length_nil, List.length_append, List.length_drop, List.length_take, maxBytes]; omega) | (simp; omega)⟩ (by first | omega | (dsimp only; omega) | (simp only [List.length_cons, List.length_nil, List.length_append, List.length_drop, List.length_take, maxBytes]; omega) | (simp; omega))]
              simp only [Int.toNat_natCast, hq']
              rfl
            | false =>
              simp only [Bool.false_eq_true, if_false, if_true, hle, and_self, Int.toNat_natCast, List.take_length, hrs, e1]
              rw [w64 (by omega), hr _ ⟨by first | omega | (dsimp only; omega) | (simp only [List.length_cons, List.length_nil, List.length_append, List.length_drop, List.length_take, maxBytes]; omega) | (simp; omega), by first | omega | (dsimp only; omega) | (simp only [List.length_cons, List.length_nil, List.length_append, List.length_drop, List.length_take, maxBytes]; omega) | (simp; omega), restA_by i4, Nat.le_trans (restA_len k) i5, by first | omega | (dsimp only; omega) | (simp only [List.length_cons, List.length_nil, List.length_append, List.length_drop, List.length_take, maxBytes]; omega) | (simp; omega)⟩ (by first | omega | (dsimp only; omega) | (simp only [List.length_cons, List.length_nil, List.length_append, List.length_drop, List.length_take, maxBytes]; omega) | (simp; omega))]
              simp only [Int.toNat_natCast, hq']
        · have e : errA k = (readH k).2.2.1 := by unfold errA; rw [if_pos h1]
          rw [e, if_pos (by simpa using h1), if_pos h1]
      · have hq : n - m = 0 := by omega
        rw [if_neg (by simp only [decide_eq_true_eq]; omega), hq]
        show _ = some (if (k.length : Int) > 0 then ([], 0, 3, ()) else (acc, odd, 0, ()))
        by_cases hc : (k.length : Int) > 0
        · rw [if_pos hc, if_pos (by simpa using hc)]
        · rw [if_neg hc, if_neg (by simpa using hc)]
theorem read_adB {a : Ad} (ho : AdOk a) (hw : adW a = true) (rest : List Int) (hr : By rest) : errA (adB a ++ rest) = 0 ∧ hdA (adB a ++ rest) = a.1 ∧ bodyA (adB a ++ rest) = a.2.1 ∧ restA (adB a ++ rest) = rest := by
  obtain ⟨hm, hlen, hf⟩ := whole_len hw
  have hbl := headB_len' a.1
  have hch : chunks 4 5 (b4 (headW a.1) ++ a.2.1 ++ rest) = headW a.1 := by
    rw [← chunks_take 5 _ 20 (by omega), List.append_assoc, List.take_left' hbl]
    exact chunks_b4 (headW a.1) (headW_u32 hm ho.1)
  have hrd : readH (b4 (headW a.1) ++ a.2.1 ++ rest) = (a.1, a.2.1 ++ rest, 0, ()) := by
    unfold readH
    rw [if_neg (by simp only [List.length_append, hbl]; omega), hch, hdOf_headW hm, if_pos hm, List.append_assoc, List.drop_left' hbl]
  have hh : hdA (adB a ++ rest) = a.1 := by unfold hdA adB; rw [hrd]
  have hL : ((adB a ++ rest).length : Int) = 20 + a.2.1.length + rest.length := by rw [List.length_append, adB_len]; omega
  refine ⟨?_, hh, ?_, ?_⟩
  · unfold errA
    rw [hh, if_neg (by unfold adB; rw [hrd]; simp), if_neg (by omega)]
  · unfold bodyA
    rw [hh, hlen]
    unfold adB
    rw [List.append_assoc, List.drop_left' hbl, show (20 + (a.2.1.length : Int) - 20).toNat = a.2.1.length by omega, List.take_left' rfl]
  · unfold restA
    rw [hh, hlen, show (20 + (a.2.1.length : Int)).toNat = 20 + a.2.1.length by omega, List.drop_left' (adB_len a)]
theorem adsOf_adsB (l : List Ad) : ∀ (acc : List Ad), (∀ a ∈ l, AdOk a) → l.all adW = true → adsOf l.length (adsB l) acc 0 = (acc ++ l, 0, 0, ()) := by
  induction l with
  | nil => intro acc _ _; simp [adsOf, adsB]
  | cons a l ih =>
    intro acc hu hm
    rw [List.all_cons, Bool.and_eq_true] at hm
    obtain ⟨q1, q2, q3, q4⟩ := read_adB (hu a (.head _)) hm.1 (adsB l) (adsB_by l fun x hx => hu x (.tail _ hx))
    rw [adsB_cons]
    show (if ¬ errA (adB a ++ adsB l) = 0 then _ else if whole (hdA (adB a ++ adsB l)) (bodyA (adB a ++ adsB l)) = true then adsOf l.length (restA (adB a ++ adsB l)) (acc ++ [(hdA (adB a ++ adsB l), bodyA (adB a ++ adsB l), ())]) 0 else _) = _
    rw [if_neg (by simp [q1]), q2, q3, q4, if_pos (show whole a.1 a.2.1 = true from hm.1), ih _ (fun x hx => hu x (.tail _ hx)) hm.2]
    simp [List.append_assoc]
theorem takeAdsR_of (l : List Ad) (hu : ∀ a ∈ l, AdOk a) (hm : l.all adW = true) (hl : l.length ≤ 50) : takeAdsR (be l.length 4 ++ adsB l) = (l, 0, 0, ()) := by
  have hbl : (be (l.length : Int) 4).length = 4 := be_length _ _
  unfold takeAdsR
  rw [if_neg (by rw [List.length_append, hbl]; omega), List.take_left' hbl, num_be _ (by unfold U32; omega), if_neg (by omega), List.drop_left' hbl, Int.toNat_natCast, adsOf_adsB l [] hu hm]
  rfl
theorem Same_same (a : Ad) : ref11_Same.p (a, a, ()) = some (true, ()) := by
  unfold ref11_Same.p
  simp [jn_eq]
theorem All_same (l : List Ad) (hl : l.length ≤ 1000000) : ref11_All.p (l, l, ()) = some (true, ()) := by
  unfold ref11_All.p
  simp only [jn_eq, decide_true, Bool.not_true, Bool.false_eq_true, if_false]
  refine iterK_fix (F := fun x => some (true, ())) (m := fun x => l.length - x.1.toNat) (I := fun x => 0 ≤ x.1 ∧ x.1 ≤ (l.length : Int)) ?_ _ _ (by simp) (by simp; omega)
  rintro ⟨i, _⟩ r ⟨h0, h1⟩ hr
  obtain ⟨j, rfl⟩ := Int.eq_ofNat_of_zero_le h0
  simp only [Int.toNat_natCast] at *
  by_cases hj : j < l.length
  · rw [if_pos (by simpa using hj), if_pos (by omega), if_pos (by omega)]
    have := Same_same ((rdZ zAd l j).1, (rdZ zAd l j).2.1, ())
    rw [this]
    simp only [bind_eq, Bool.not_true, Bool.false_eq_true, if_false]
    rw [w64 (by omega), hr _ ⟨by first | omega | (dsimp only; omega) | (simp only [List.length_cons, List.length_nil, List.length_append, List.length_drop, List.length_take, maxBytes]; omega) | (simp; omega), by first | omega | (dsimp only; omega) | (simp only [List.length_cons, List.length_nil, List.length_append, List.length_drop, List.length_take, maxBytes]; omega) | (simp; omega)⟩ (by first | omega | (dsimp only; omega) | (simp only [List.length_cons, List.length_nil, List.length_append, List.length_drop, List.length_take, maxBytes]; omega) | (simp; omega))]
  · rw [if_neg (by simpa using hj)]
theorem adsOf_len (n : Nat) : ∀ (b : List Int) (acc : List Ad) (odd : Int), (adsOf n b acc odd).1.length ≤ acc.length + n := by
  induction n with
  | zero => intro b acc odd; unfold adsOf; split <;> simp
  | succ n ih =>
    intro b acc odd
    unfold adsOf
    split
    · simp
    · split
      · refine Nat.le_trans (ih _ _ _) ?_
        simp only [List.length_append, List.length_cons, List.length_nil]; omega
      · refine Nat.le_trans (ih _ _ _) ?_
        omega
theorem takeAdsR_len (b : List Int) (hb : By b) : (takeAdsR b).1.length ≤ 100 := by
  unfold takeAdsR
  split
  · simp
  · split
    · simp
    · have := adsOf_len (num (b.take 4)).toNat (b.drop 4) [] 0
      simp only [List.length_nil] at this
      omega
theorem dbdAds (l : List Ad) (b : List Int) (hu : ∀ a ∈ l, AdOk a) (hb : By b) : law13_DbdAds.p (l, b, ()) = some (true, ()) := by
  unfold law13_DbdAds.p
  simp only [aliveA, short_eq, jn_eq, bind_eq, if_true]
  cases hs : shortB l with
  | false => simp
  | true =>
    unfold shortB at hs
    rw [Bool.and_eq_true, decide_eq_true_eq, List.all_eq_true] at hs
    have hs2 : ∀ a ∈ l, a.2.1.length ≤ 1600 := fun a ha => of_decide_eq_true (hs.2 a ha)
    by_cases h2 : (b.length : Int) > 1600
    · simp [h2]
    · have hp : By (putAdsR l).1 ∧ (putAdsR l).1.length ≤ 1000000 := by
        unfold putAdsR
        split
        · rename_i hc
          exact ⟨(be_by _ _).app (adsB_by l hu), by rw [List.length_append, be_length]; omega⟩
        · exact ⟨fun x hx => (by cases hx), by simp⟩
      have hsm := All_same (takeAdsR b).1 (Nat.le_trans (takeAdsR_len b hb) (by omega))
      simp only [h2, decide_false, Bool.not_true, Bool.false_eq_true, if_false, List.nil_append]
      rw [if_pos (by simp only [List.length_nil, maxBytes]; omega)]
      simp only [putAds_eq l hu hs2 hs.1, rputAds_eq l hu hs2 hs.1, takeAds_eq b hb (by omega), rtakeAds_eq b hb (by omega), takeAds_eq _ hp.1 hp.2, bind_eq, hsm, decide_true, if_true]
      unfold putAdsR
      by_cases hc : l.all adW = true ∧ l.length ≤ 50 ∧ (adsB l).length ≤ 1472
      · rw [if_pos hc]
        simp only [decide_true, Bool.not_true, Bool.false_eq_true, if_false, if_true, takeAdsR_of l hu hc.1 hc.2.1, All_same l (by omega), bind_eq]
      · rw [if_neg hc]
        simp
abbrev tH : Ty := (.cons (.int .i64) (.cons (.int .i64) (.cons (.int .i64) (.cons (.int .u32) (.cons (.int .u32) (.cons (.int .u32) (.cons (.int .i64) (.cons (.int .i64) .nil))))))))
theorem dbdAdsW {P : Program} {x : dens (List.map K.v [(.sl 64 (.cons tH (.cons (.sl 5 (.int .u8)) .nil))), (.sl 5 (.int .u8))])} (h : WfA P [(.sl 64 (.cons tH (.cons (.sl 5 (.int .u8)) .nil))), (.sl 5 (.int .u8))] x) : ∃ y, law13_DbdAds.p x = some y ∧ y.1 = true :=
  ⟨_, dbdAds x.1 x.2.1 (fun a ha => ⟨⟨wf_u32 (h.1.2 a ha).1.2.2.2.1, wf_u32 (h.1.2 a ha).1.2.2.2.2.1, wf_u32 (h.1.2 a ha).1.2.2.2.2.2.1⟩, fun y hy => wf_u8 ((h.1.2 a ha).2.1.2 y hy)⟩) (fun y hy => wf_u8 (h.2.1.2 y hy)), rfl⟩
end Go.Proofs.Ytmmkdalbcfjogaa.F
