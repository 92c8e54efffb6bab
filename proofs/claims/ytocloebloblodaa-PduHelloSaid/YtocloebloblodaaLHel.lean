/- Greetings: as bytes and back; the law. -/
import Derived.Test.YtocloebloblodaaLPl
set_option maxRecDepth 100000
set_option linter.unusedVariables false
set_option linter.unusedSimpArgs false
open Go Go.Proofs.Fr
namespace Go.Proofs.Ytocloebloblodaa.F
abbrev Hel := Int × Int × Int × Int × List Th × Unit
abbrev zH : Hel := (0, 0, 0, 0, [], ())
def HelOk (x : Hel) : Prop := (0 ≤ x.2.1 ∧ x.2.1 < 18446744073709551616) ∧ (∀ y ∈ x.2.2.2.2.1, By y.2.1) ∧ Small x.2.2.2.2.1
def okH (x : Hel) : Prop := x.2.2.2.2.1.all thOk = true ∧ (1 ≤ x.1 ∧ x.1 ≤ 3) ∧ x.2.1 / 281474976710656 = 0 ∧ (0 ≤ x.2.2.1 ∧ x.2.2.1 ≤ 65535) ∧ (0 ≤ x.2.2.2.1 ∧ x.2.2.2.1 ≤ 255) ∧ (thsB x.2.2.2.2.1).length ≤ 1472
instance (x : Hel) : Decidable (okH x) := by unfold okH; infer_instance
def helB (x : Hel) : List Int := beg 17 ++ (be x.1 1 ++ (be x.2.1 6 ++ (be x.2.2.1 2 ++ (be (20 + ((thsB x.2.2.2.2.1).length : Int)) 2 ++ (be x.2.2.2.1 1 ++ thsB x.2.2.2.2.1)))))
theorem helB_len (x : Hel) : (helB x).length = 20 + (thsB x.2.2.2.2.1).length := by
  unfold helB; simp only [List.length_append, be_length, beg, List.length_cons, List.length_nil]; omega
theorem helB_by {x : Hel} (h : okH x) (hx : HelOk x) : By (helB x) := by
  unfold helB
  refine By.app ?_ ((be_by _ _).app ((be_by _ _).app ((be_by _ _).app ((be_by _ _).app ((be_by _ _).app (thsB_by _ hx.2.1 h.1))))))
  intro y hy
  simp only [beg, List.mem_cons, List.not_mem_nil, or_false, show hdO 17 = 20 by decide] at hy
  rcases hy with rfl | rfl | rfl | rfl | rfl | rfl | rfl | rfl <;> omega
def putH (x : Hel) : List Int × Int × Unit := if okH x then (helB x, 0, ()) else ([], 1, ())
theorem be1 (n : Int) (h : 0 ≤ n ∧ n ≤ 255) : be n 1 = [n] := by
  show [n / 256 ^ 0 % 256] = _
  rw [Int.pow_zero, Int.ediv_one]
  congr 1
  omega
theorem putHello_eq (x : Hel) (hx : HelOk x) : pdu_PutHello.p (x, ()) = some (putH x) := by
  obtain ⟨c, s, hold, loc, th, _⟩ := x
  obtain ⟨hid, hbt, hs⟩ := hx
  simp only at hid hbt hs
  have hth := thsB_small hs
  have hsl := hs.1
  have p1 : ∀ (b : List Int) (n : Int), 0 ≤ n ∧ n < 18446744073709551616 → b.length ≤ 1000000 → pdu_page_put.p (b, n, 1, ()) = some (b ++ be n 1, ()) := fun b n h hb => pput_eq b n 1 h (by omega) hb
  have p2 : ∀ (b : List Int) (n : Int), 0 ≤ n ∧ n < 18446744073709551616 → b.length ≤ 1000000 → pdu_page_put.p (b, n, 2, ()) = some (b ++ be n 2, ()) := fun b n h hb => pput_eq b n 2 h (by omega) hb
  have p6 : ∀ (b : List Int) (n : Int), 0 ≤ n ∧ n < 18446744073709551616 → b.length ≤ 1000000 → pdu_page_put.p (b, n, 6, ()) = some (b ++ be n 6, ()) := fun b n h hb => pput_eq b n 6 h (by omega) hb
  unfold pdu_PutHello.p putH okH
  simp only [tput_eq th hs, headOf_eq, isIn_eq, begin_eq 17 (by omega), bind_eq, jn_eq, show hdO 17 = 20 by decide]
  unfold putT
  rw [fdiv_pos (by decide), show (2 : Int) ^ 48 = 281474976710656 by decide]
  by_cases c0 : th.all thOk = true
  case neg =>
    rw [if_neg c0]
    simp [c0]
  case pos =>
    simp only [c0, if_true, decide_true, Bool.not_true, Bool.false_eq_true, if_false, true_and]
    rw [w64 (x := 20 + ((thsB th).length : Int)) (by omega)]
    by_cases c1 : 1 ≤ c ∧ c ≤ 3
    · have c1a : ¬ c < 1 := by omega
      have c1b : ¬ c > 3 := by omega
      by_cases c2 : s / 281474976710656 = 0
      · by_cases c3 : 0 ≤ hold ∧ hold ≤ 65535
        · by_cases c4 : 0 ≤ loc ∧ loc ≤ 255
          · by_cases c5 : (thsB th).length ≤ 1472
            · have c5' : ¬ 20 + ((thsB th).length : Int) > 1492 := by omega
              simp only [c1, c1a, c1b, c2, c3, c4, c5, c5', and_self, if_true, decide_true, decide_false, Bool.not_true, Bool.false_eq_true, if_false]
              have hbl : (beg 17).length = 8 := rfl
              rw [wu64 (x := 20 + ((thsB th).length : Int)) (by omega), wu64 (x := c) (by omega), wu64 (x := hold) (by omega), wu64 (x := loc) (by omega)]
              rw [p1 _ _ (by omega) (by omega)]
              simp only [bind_eq]
              rw [p6 _ _ hid (by simp only [List.length_append, be_length]; omega)]
              simp only [bind_eq]
              rw [p2 _ _ (by omega) (by simp only [List.length_append, be_length]; omega)]
              simp only [bind_eq]
              rw [p2 _ _ (by omega) (by simp only [List.length_append, be_length]; omega)]
              simp only [bind_eq]
              rw [p1 _ _ (by omega) (by simp only [List.length_append, be_length]; omega)]
              simp only [bind_eq]
              rw [if_pos (by simp only [List.length_append, be_length, maxBytes]; omega)]
              unfold helB
              simp only [List.append_assoc]
            · have c5' : 20 + ((thsB th).length : Int) > 1492 := by omega
              simp only [c1, c1a, c1b, c2, c3, c4, c5, c5', and_self, if_true, decide_true, decide_false, Bool.not_true, Bool.false_eq_true, if_false, and_false]
          · simp only [c1, c1a, c1b, c2, c3, c4, and_self, if_true, decide_true, decide_false, Bool.not_true, Bool.not_false, Bool.false_eq_true, if_false, and_false, false_and]
        · simp only [c1, c1a, c1b, c2, c3, and_self, if_true, decide_true, decide_false, Bool.not_true, Bool.not_false, Bool.false_eq_true, if_false, and_false, false_and]
      · simp only [c1, c1a, c1b, c2, and_self, if_true, decide_true, decide_false, Bool.not_true, Bool.not_false, Bool.false_eq_true, if_false, and_false, false_and]
    · by_cases c1a : c < 1
      · simp only [c1, c1a, and_self, if_true, decide_true, decide_false, Bool.not_true, Bool.not_false, Bool.false_eq_true, if_false, and_false, false_and]
      · have c1b : c > 3 := by omega
        simp only [c1, c1a, c1b, and_self, if_true, decide_true, decide_false, Bool.not_true, Bool.not_false, Bool.false_eq_true, if_false, and_false, false_and]
theorem rputHello_eq (x : Hel) (hx : HelOk x) : ref22_PutHello.p (x, ()) = some (putH x) := by
  obtain ⟨c, s, hold, loc, th, _⟩ := x
  obtain ⟨hid, hbt, hs⟩ := hx
  simp only at hid hbt hs
  have hth := thsB_small hs
  have hsl := hs.1
  have hbg : ref22_begin.p (20, 17, ()) = some (beg 17, ()) := by
    have := rbegin_eq 17 (by omega)
    rw [show hdO 17 = 20 by decide] at this
    exact this
  unfold ref22_PutHello.p putH okH
  simp only [rtput_eq th hs, rshort_eq, hbg, reight_eq s hid, bind_eq, jn_eq, Int.toNat_natCast, List.take_length]
  unfold putT
  rw [fdiv_pos (by decide), show (2 : Int) ^ 48 = 281474976710656 by decide]
  by_cases c0 : th.all thOk = true
  case neg =>
    rw [if_neg c0]
    simp [c0]
  case pos =>
    simp only [c0, if_true, decide_true, Bool.not_true, Bool.false_eq_true, if_false, true_and]
    by_cases c1 : 1 ≤ c ∧ c ≤ 3
    · have c1a : ¬ c < 1 := by omega
      have c1b : ¬ c > 3 := by omega
      by_cases c2 : s / 281474976710656 = 0
      · by_cases c3 : 0 ≤ hold ∧ hold ≤ 65535
        · by_cases c4 : 0 ≤ loc ∧ loc ≤ 255
          · have c4a : ¬ loc < 0 := by omega
            have c4b : ¬ loc > 255 := by omega
            by_cases c5 : (thsB th).length ≤ 1472
            · have c5' : ¬ ((thsB th).length : Int) > 1472 := by omega
              simp only [c1, c1a, c1b, c2, c3, c4, c4a, c4b, c5, c5', and_self, if_true, decide_true, decide_false, Bool.not_true, Bool.false_eq_true, if_false]
              have hbl : (beg 17).length = 8 := rfl
              have e6 : (be s 8).drop (2 : Int).toNat = be s 6 := rfl
              rw [w64 (x := 20 + ((thsB th).length : Int)) (by omega), rtwo_eq hold (by omega), rtwo_eq _ (by omega), wu8, wu8, show c % 256 = c by omega, show loc % 256 = loc by omega, e6]
              simp only [bind_eq]
              rw [if_pos (by simp only [List.length_cons, List.length_nil, maxBytes]; omega), if_pos (by simp only [be_length]; omega), if_pos (by simp only [List.length_append, List.length_cons, List.length_nil, be_length, maxBytes]; omega), if_pos (by simp only [List.length_append, List.length_cons, List.length_nil, be_length, maxBytes]; omega), if_pos (by simp only [List.length_append, List.length_cons, List.length_nil, be_length, maxBytes]; omega), if_pos (by simp only [List.length_append, List.length_cons, List.length_nil, be_length, maxBytes]; omega), if_pos (by simp only [List.length_append, List.length_cons, List.length_nil, be_length, maxBytes]; omega)]
              unfold helB
              simp only [List.append_assoc, be1 c (by omega), be1 loc c4]
            · have c5' : ((thsB th).length : Int) > 1472 := by omega
              simp only [c1, c1a, c1b, c2, c3, c4, c4a, c4b, c5, c5', and_self, if_true, decide_true, decide_false, Bool.not_true, Bool.false_eq_true, if_false, and_false]
          · by_cases c4a : loc < 0
            · simp only [c1, c1a, c1b, c2, c3, c4, c4a, and_self, if_true, decide_true, decide_false, Bool.not_true, Bool.not_false, Bool.false_eq_true, if_false, and_false, false_and]
            · have c4b : loc > 255 := by omega
              simp only [c1, c1a, c1b, c2, c3, c4, c4a, c4b, and_self, if_true, decide_true, decide_false, Bool.not_true, Bool.not_false, Bool.false_eq_true, if_false, and_false, false_and]
        · simp only [c1, c1a, c1b, c2, c3, and_self, if_true, decide_true, decide_false, Bool.not_true, Bool.not_false, Bool.false_eq_true, if_false, and_false, false_and]
      · simp only [c1, c1a, c1b, c2, and_self, if_true, decide_true, decide_false, Bool.not_true, Bool.not_false, Bool.false_eq_true, if_false, and_false, false_and]
    · by_cases c1a : c < 1
      · simp only [c1, c1a, and_self, if_true, decide_true, decide_false, Bool.not_true, Bool.not_false, Bool.false_eq_true, if_false, and_false, false_and]
      · have c1b : c > 3 := by omega
        simp only [c1, c1a, c1b, and_self, if_true, decide_true, decide_false, Bool.not_true, Bool.not_false, Bool.false_eq_true, if_false, and_false, false_and]
def q1 : Int → Bool := memb [17]
def takeH (b : List Int) : Hel × Int × Unit :=
  if fin q1 b = true then (if (takeT (b.drop 20)).2.1 = 0 then ((rd b 8, sl b 9 6, sl b 15 2, rd b 19, (takeT (b.drop 20)).1, ()), 0, ()) else (zH, (takeT (b.drop 20)).2.1, ())) else (zH, err q1 b, ())
theorem fin_q1 {b : List Int} (h : fin q1 b = true) : rd b 4 = 17 ∧ 20 ≤ b.length := by
  obtain ⟨_, h2, h3, h4, _⟩ := fin_len h
  have hk : rd b 4 = 17 := by
    simp only [q1, memb, List.any_cons, List.any_nil, Bool.or_false, decide_eq_true_eq] at h2
    exact h2
  rw [hk, show hdO 17 = 20 by decide] at h3
  exact ⟨hk, by omega⟩
theorem takeHello_eq (b : List Int) (hb : By b) (hl : b.length ≤ 1000000) : pdu_TakeHello.p (b, ()) = some (takeH b) := by
  unfold pdu_TakeHello.p takeH
  rw [open_eq [17] b (by simp) hb hl]
  simp only [bind_eq]
  unfold openR
  change _ = some (if fin (memb [17]) b = true then _ else _)
  cases hf : fin (memb [17]) b with
  | false =>
    have he := err_ne (memb [17]) b
    simp only [Bool.false_eq_true, if_false]
    rw [if_pos (by simpa using he)]
    rfl
  | true =>
    obtain ⟨hk, h20⟩ := fin_q1 (b := b) hf
    have e20 : (20 : Int).toNat = 20 := rfl
    simp only [if_true, hk, show hdO 17 = 20 by decide, e20]
    by_cases ht : (takeT (b.drop 20)).2.1 = 0
    · rw [if_neg (by simpa using ht), if_pos ht]
      have t1 : ∀ (l : List Int), By l → 1 ≤ l.length → pdu_reader_take_2.p ((l, ()), 1, ()) = some (nm (l.take 1), (l.drop 1, ()), ()) := fun l h h' => rtake2_eq l 1 h (by omega) h'
      have t2 : ∀ (l : List Int), By l → 2 ≤ l.length → pdu_reader_take_2.p ((l, ()), 2, ()) = some (nm (l.take 2), (l.drop 2, ()), ()) := fun l h h' => rtake2_eq l 2 h (by omega) h'
      have t6 : ∀ (l : List Int), By l → 6 ≤ l.length → pdu_reader_take_2.p ((l, ()), 6, ()) = some (nm (l.take 6), (l.drop 6, ()), ()) := fun l h h' => rtake2_eq l 6 h (by omega) h'
      rw [t1 _ (hb.drop 8) (by rw [List.length_drop]; omega)]
      simp only [bind_eq, List.drop_drop]
      rw [t6 _ (hb.drop _) (by rw [List.length_drop]; omega)]
      simp only [bind_eq, List.drop_drop]
      rw [t2 _ (hb.drop _) (by rw [List.length_drop]; omega)]
      simp only [bind_eq, List.drop_drop]
      rw [t2 _ (hb.drop _) (by rw [List.length_drop]; omega)]
      simp only [bind_eq, List.drop_drop]
      rw [t1 _ (hb.drop _) (by rw [List.length_drop]; omega)]
      simp only [bind_eq, List.drop_drop]
      have r2 := sl_range hb 15 2
      have r8 := hb.at 8 (by omega)
      have r19 := hb.at 19 (by omega)
      rw [show (256 : Int) ^ 2 = 65536 by decide] at r2
      have s1 : nm ((b.drop 8).take 1) = rd b 8 := sl1 8 (by omega)
      have s2 : nm ((b.drop (8 + 1)).take 6) = sl b 9 6 := rfl
      have s3 : nm ((b.drop (8 + 1 + 6)).take 2) = sl b 15 2 := rfl
      have s5 : nm ((b.drop (8 + 1 + 6 + 2 + 2)).take 1) = rd b 19 := sl1 19 (by omega)
      simp only [s1, s2, s3, s5]
      rw [w64 (x := rd b 8) (by omega), w64 (x := rd b 19) (by omega), w64 (x := sl b 15 2) (by omega)]
    · rw [if_pos (by simpa using ht), if_neg ht]
theorem rtakeHello_eq (b : List Int) (hb : By b) (hl : b.length ≤ 1000000) : ref22_TakeHello.p (b, ()) = some (takeH b) := by
  unfold ref22_TakeHello.p takeH
  have ho := ropen_eq 17 17 17 b hb hl (by omega)
  rw [show ((17 : Nat) : Int) = 17 from rfl, show memb [17, 17] = memb [17] by funext k; simp [memb]] at ho
  rw [ho]
  simp only [bind_eq]
  change _ = some (if fin (memb [17]) b = true then _ else _)
  cases hf : fin (memb [17]) b with
  | false =>
    have he := err_ne (memb [17]) b
    simp only [Bool.false_eq_true, if_false]
    rw [if_pos (by simpa using he)]
    rfl
  | true =>
    obtain ⟨hk, h20⟩ := fin_q1 (b := b) hf
    have e20 : (20 : Int).toNat = 20 := rfl
    simp only [if_true, hk, show hdO 17 = 20 by decide, e20]
    by_cases ht : (takeT (b.drop 20)).2.1 = 0
    · rw [if_neg (show ¬ (!decide ((takeT (b.drop 20)).2.1 = 0)) = true by simp [ht]), if_pos ht]
      have r2 := sl_range hb 15 2
      have r8 := hb.at 8 (by omega)
      have r19 := hb.at 19 (by omega)
      rw [show (256 : Int) ^ 2 = 65536 by decide] at r2
      have e8 : (8 : Int).toNat = 8 := rfl
      have e9 : (9 : Int).toNat = 9 := rfl
      have e15 : (15 : Int).toNat = 15 := rfl
      have e17 : (17 : Int).toNat = 17 := rfl
      have e19 : (19 : Int).toNat = 19 := rfl
      have g : ∀ i m : Nat, m ≤ 8 → ref22_number.p (List.drop i (List.take (i + m) b), ()) = some (sl b i m, ()) := by
        intro i m hm
        rw [rnumber_eq _ ((hb.take _).drop _) (by rw [List.length_drop, List.length_take]; omega), List.drop_take, show i + m - i = m by omega]
        rfl
      have g1 : ref22_number.p (List.drop 9 (List.take 15 b), ()) = some (sl b 9 6, ()) := g 9 6 (by omega)
      have g2 : ref22_number.p (List.drop 15 (List.take 17 b), ()) = some (sl b 15 2, ()) := g 15 2 (by omega)
      have n1 : (0 : Int) ≤ 8 ∧ (8 : Int) < (b.length : Int) := by omega
      have n2 : (0 : Int) ≤ 9 ∧ (9 : Int) ≤ 15 ∧ (15 : Int) ≤ (b.length : Int) := by omega
      have n3 : (0 : Int) ≤ 15 ∧ (15 : Int) ≤ 17 ∧ (17 : Int) ≤ (b.length : Int) := by omega
      have n4 : (0 : Int) ≤ 19 ∧ (19 : Int) < (b.length : Int) := by omega
      simp only [e8, e9, e15, e17, e19, g1, g2, n1, n2, n3, n4, and_self, if_true, bind_eq]
      rw [w64 (x := rd b 8) (by omega), w64 (x := rd b 19) (by omega), w64 (x := sl b 15 2) (by omega)]
    · rw [if_pos (show (!decide ((takeT (b.drop 20)).2.1 = 0)) = true by simp [ht]), if_neg ht]
theorem takeH_of {x : Hel} (h : okH x) (hx : HelOk x) : takeH (helB x) = (x, 0, ()) := by
  have hlen := helB_len x
  obtain ⟨c, s, hold, loc, th, _⟩ := x
  obtain ⟨h0, h1, h2, h3, h4, h5⟩ := h
  obtain ⟨hid, hbt, hs⟩ := hx
  simp only at h0 h1 h2 h3 h4 h5 hid hbt hs hlen
  have r4 : rd (helB (c, s, hold, loc, th, ())) 4 = 17 := rfl
  have k8 : (helB (c, s, hold, loc, th, ())).take 8 = beg 17 := rfl
  have r8 : rd (helB (c, s, hold, loc, th, ())) 8 = c / 256 ^ 0 % 256 := rfl
  have r17 : rd (helB (c, s, hold, loc, th, ())) 17 = (20 + ((thsB th).length : Int)) / 256 ^ 1 % 256 := rfl
  have r18 : rd (helB (c, s, hold, loc, th, ())) 18 = (20 + ((thsB th).length : Int)) / 256 ^ 0 % 256 := rfl
  have r19 : rd (helB (c, s, hold, loc, th, ())) 19 = loc / 256 ^ 0 % 256 := rfl
  rw [show (256 : Int) ^ 1 = 256 by decide] at r17
  rw [Int.pow_zero, Int.ediv_one] at r8 r18 r19
  have d9 : (helB (c, s, hold, loc, th, ())).drop 9 = be s 6 ++ (be hold 2 ++ (be (20 + ((thsB th).length : Int)) 2 ++ (be loc 1 ++ thsB th))) := rfl
  have d15 : (helB (c, s, hold, loc, th, ())).drop 15 = be hold 2 ++ (be (20 + ((thsB th).length : Int)) 2 ++ (be loc 1 ++ thsB th)) := rfl
  have d20 : (helB (c, s, hold, loc, th, ())).drop 20 = thsB th := rfl
  have hfin : fin q1 (helB (c, s, hold, loc, th, ())) = true := by
    unfold fin okK wr
    rw [r4, k8, show hdO 17 = 20 by decide, hlen, r17, r18, r8, show q1 17 = true by decide, if_pos rfl]
    simp only [decide_true, Bool.true_and, Bool.and_true, Bool.and_eq_true, decide_eq_true_eq]
    refine ⟨by omega, by omega, by omega, by omega, by omega, by omega⟩
  unfold takeH
  rw [if_pos hfin, d20, takeT_of th h0, if_pos rfl]
  have s2 : sl (helB (c, s, hold, loc, th, ())) 9 6 = s := by
    unfold sl
    rw [d9, List.take_left' (be_length _ _), nm_be 6 s (by omega) (by rw [show (256 : Int) ^ 6 = 281474976710656 by decide]; omega)]
  have s3 : sl (helB (c, s, hold, loc, th, ())) 15 2 = hold := by
    unfold sl
    rw [d15, List.take_left' (be_length _ _), nm_be 2 hold (by omega) (by rw [show (256 : Int) ^ 2 = 65536 by decide]; omega)]
  rw [s2, s3, r8, r19, show c % 256 = c by omega, show loc % 256 = loc by omega]
theorem hello_eq (x : Hel) (hl : x.2.2.2.2.1.length ≤ 1000000) : law22_hello.p (x, ()) = some (x, ()) := by
  unfold law22_hello.p
  simp only [things_eq _ hl, bind_eq]
theorem SameHello_same (x : Hel) (hl : x.2.2.2.2.1.length ≤ 1000000) : ref22_SameHello.p (x, x, ()) = some (true, ()) := by
  unfold ref22_SameHello.p
  simp only [Things_same _ hl, jn_eq, decide_true, if_true, bind_eq]
theorem takeH_small (b : List Int) : (takeH b).1.2.2.2.2.1.length ≤ b.length := by
  unfold takeH
  split
  · split
    · refine Nat.le_trans (takeT_len _) ?_
      rw [List.length_drop]; omega
    · simp
  · simp
theorem pduHello (x : Hel) (b : List Int) (hid : 0 ≤ x.2.1 ∧ x.2.1 < 18446744073709551616) (hth : ∀ y ∈ x.2.2.2.2.1, By y.2.1) (hb : By b) : law22_PduHello.p (x, b, ()) = some (true, ()) := by
  unfold law22_PduHello.p
  simp only [aliveP, small_eq, jn_eq, bind_eq, if_true]
  cases hs : smallB x.2.2.2.2.1 with
  | false => simp
  | true =>
    have hsm := small_of hs
    have hx : HelOk x := ⟨hid, hth, hsm⟩
    have hxl := hsm.1
    by_cases h2 : (b.length : Int) > 1600
    · simp [h2]
    · have hp : By (putH x).1 ∧ (putH x).1.length ≤ 1000000 := by
        unfold putH
        split
        · rename_i hc
          have := hc.2.2.2.2.2
          exact ⟨helB_by hc hx, by rw [helB_len]; omega⟩
        · exact ⟨fun x hx => (by cases hx), by simp⟩
      have htl := takeH_small b
      have hl1 := hello_eq x (by omega)
      simp only [h2, decide_false, Bool.not_true, Bool.false_eq_true, if_false, putHello_eq x hx, rputHello_eq x hx, hl1, takeHello_eq b hb (by omega), rtakeHello_eq b hb (by omega), takeHello_eq _ hp.1 hp.2, kind_eq b hb (by omega), rkind_eq b hb (by omega), bind_eq, hello_eq (takeH b).1 (by omega), SameHello_same (takeH b).1 (by omega), decide_true, if_true]
      unfold putH
      by_cases h : okH x
      · rw [if_pos h]
        simp only [decide_true, Bool.not_true, Bool.false_eq_true, if_false, if_true, takeH_of h hx, hl1, SameHello_same x (by omega), bind_eq]
      · rw [if_neg h]
        simp
abbrev tHel : Ty := .cons (.int .i64) (.cons (.int .u64) (.cons (.int .i64) (.cons (.int .i64) (.cons (.sl 78 tTh) .nil))))
theorem pduHelloW {P : Program} {x : dens (List.map K.v [tHel, (.sl 5 (.int .u8))])} (h : WfA P [tHel, (.sl 5 (.int .u8))] x) : ∃ y, law22_PduHello.p x = some y ∧ y.1 = true :=
  ⟨_, pduHello x.1 x.2.1 (wf_u64 h.1.2.1) (fun y hy z hz => wf_u8 ((h.1.2.2.2.2.1.2 y hy).2.1.2 z hz)) (fun y hy => wf_u8 (h.2.1.2 y hy)), rfl⟩
end Go.Proofs.Ytocloebloblodaa.F
