/- Lists of entries: as they are written. -/
import Derived.Test.YtocloebloblodaaLLst2
set_option maxRecDepth 100000
set_option linter.unusedVariables false
set_option linter.unusedSimpArgs false
open Go Go.Proofs.Fr
namespace Go.Proofs.Ytocloebloblodaa.F
theorem pbe_eq (n : Int) (m : Nat) : pdu_entries.p_be n m = be n m := by
  induction m with
  | zero => rfl
  | succ m ih => simp [pdu_entries.p_be, be, ih]
def eB (x : Ent) : List Int := be x.1 2 ++ be x.2.1 8 ++ be x.2.2.1 4 ++ be x.2.2.2.1 2
theorem pe_eq (x : Ent) : pdu_entries.p_e x = eB x := by simp only [pdu_entries.p_e, eB, pbe_eq]
theorem eB_len (x : Ent) : (eB x).length = 16 := by simp [eB, be_length]
theorem at_cons (n j : Nat) (x : Ent) (l : List Ent) : pdu_entries.p_at n j (x :: l) = (if j % 15 = 0 then [9, ((16 * min 15 (n - j) : Nat) : Int)] else []) ++ eB x ++ pdu_entries.p_at n (j + 1) l := by
  rw [← pe_eq]; rfl
theorem at_len (n : Nat) : ∀ (l : List Ent) (j : Nat), (pdu_entries.p_at n j l).length ≤ 18 * l.length
  | [], j => by simp [pdu_entries.p_at]
  | x :: l, j => by
    have := at_len n l (j + 1)
    rw [at_cons, List.length_append, List.length_append, eB_len, List.length_cons]
    split
    · simp only [List.length_cons, List.length_nil]; omega
    · simp only [List.length_nil]; omega
theorem eB_by (x : Ent) : By (eB x) := (((be_by _ _).app (be_by _ _)).app (be_by _ _)).app (be_by _ _)
theorem at_by (n : Nat) : ∀ (l : List Ent) (j : Nat), By (pdu_entries.p_at n j l)
  | [], j => fun x hx => by cases hx
  | x :: l, j => by
    rw [at_cons]
    refine By.app (By.app ?_ (eB_by x)) (at_by n l (j + 1))
    split
    · intro y hy
      simp only [List.mem_cons, List.not_mem_nil, or_false] at hy
      rcases hy with rfl | rfl <;> omega
    · intro y hy; cases hy
abbrev fit (x : Ent) : Bool := pdu_entries.p_fit x
theorem fit_iff (x : Ent) : fit x = true ↔ 0 ≤ x.1 ∧ x.1 ≤ 65535 ∧ 0 ≤ x.2.2.2.1 ∧ x.2.2.2.1 ≤ 65535 := by
  unfold fit pdu_entries.p_fit
  rw [decide_eq_true_eq]
def wfE (x : Ent) : Prop := (0 ≤ x.2.1 ∧ x.2.1 < 18446744073709551616) ∧ 0 ≤ x.2.2.1 ∧ x.2.2.1 < 4294967296
def LstOk (x : Lst) : Prop := (0 ≤ x.2.2.1 ∧ x.2.2.1 < 18446744073709551616) ∧ (0 ≤ x.2.2.2.1 ∧ x.2.2.2.1 < 18446744073709551616) ∧ (0 ≤ x.2.2.2.2.1 ∧ x.2.2.2.2.1 < 18446744073709551616) ∧ (∀ y ∈ x.2.2.2.2.2.1, wfE y) ∧ x.2.2.2.2.2.1.length ≤ 110
def tl (x : Lst) : List Int := pdu_entries.p_at x.2.2.2.2.2.1.length 0 x.2.2.2.2.2.1
def hd (x : Lst) : Int := if x.2.1 = true then 33 else 17
def kd (x : Lst) : Int := if x.2.1 = true then 23 + x.1 else 25 + x.1
def okL (x : Lst) : Prop := x.2.2.2.2.2.1.all fit = true ∧ (x.1 = 1 ∨ x.1 = 2) ∧ x.2.2.1 / 281474976710656 = 0 ∧ (x.2.1 = true ∨ x.2.2.2.1 = 0 ∧ x.2.2.2.2.1 = 0) ∧ hd x + ((tl x).length : Int) ≤ 1492
instance (x : Lst) : Decidable (okL x) := by unfold okL; infer_instance
def lstB (x : Lst) : List Int := beg (kd x) ++ (be (hd x + ((tl x).length : Int)) 2 ++ (be x.2.2.1 6 ++ (be 0 1 ++ ((if x.2.1 = true then be x.2.2.2.1 8 ++ be x.2.2.2.2.1 8 else []) ++ tl x))))
def putL (x : Lst) : List Int × Int × Unit := if okL x then (lstB x, 0, ()) else ([], 1, ())
theorem tl_len {x : Lst} (h : LstOk x) : (tl x).length ≤ 1980 := by
  have h1 := at_len x.2.2.2.2.2.1.length x.2.2.2.2.2.1 0
  have h2 := h.2.2.2.2
  unfold tl
  omega
theorem entries_p {l : List Ent} (hw : ∀ y ∈ l, wfE y) (hl : l.length ≤ 110) : pdu_entries.p (l, ()) = some (if l.all fit = true then (pdu_entries.p_at l.length 0 l, 0, ()) else ([], 1, ())) := by
  unfold pdu_entries.p
  rw [if_pos]
  refine ⟨by show l.length ≤ 10000; omega, ?_⟩
  rw [List.all_eq_true]
  intro y hy
  unfold pdu_entries.p_wf
  rw [decide_eq_true_eq]
  exact hw y hy
theorem isLevel_eq (n : Int) : pdu_isLevel.p (n, ()) = some (decide (n = 1 ∨ n = 2), ()) := by
  unfold pdu_isLevel.p
  simp only [jn_eq]
  by_cases h : n = 1
  · simp [h]
  · by_cases h2 : n = 2 <;> simp [h, h2]
theorem kind_L (x : Lst) (h : x.1 = 1 ∨ x.1 = 2) : pdu_List_kind.p (x, ()) = some (kd x, ()) := by
  unfold pdu_List_kind.p kd
  cases x.2.1 with
  | true => rw [if_pos rfl, if_pos rfl, w64 (x := 24 + x.1) (by omega), w64 (by omega), show 24 + x.1 - 1 = 23 + x.1 by omega]
  | false => rw [if_neg (by simp), if_neg (by simp), w64 (x := 26 + x.1) (by omega), w64 (by omega), show 26 + x.1 - 1 = 25 + x.1 by omega]
theorem hd_kd (x : Lst) (h : x.1 = 1 ∨ x.1 = 2) : hdO (kd x) = hd x := by
  unfold kd hd
  cases x.2.1 with
  | true => rcases h with h | h <;> rw [h] <;> decide
  | false => rcases h with h | h <;> rw [h] <;> decide
theorem putList_eq (x : Lst) (hx : LstOk x) : pdu_PutList.p (x, ()) = some (putL x) := by
  have htl := tl_len hx
  obtain ⟨hs, hlo, hhi, hw, hl⟩ := hx
  have p1 : ∀ (b : List Int) (n : Int), 0 ≤ n ∧ n < 18446744073709551616 → b.length ≤ 1000000 → pdu_page_put.p (b, n, 1, ()) = some (b ++ be n 1, ()) := fun b n h hb => pput_eq b n 1 h (by omega) hb
  have p2 : ∀ (b : List Int) (n : Int), 0 ≤ n ∧ n < 18446744073709551616 → b.length ≤ 1000000 → pdu_page_put.p (b, n, 2, ()) = some (b ++ be n 2, ()) := fun b n h hb => pput_eq b n 2 h (by omega) hb
  have p6 : ∀ (b : List Int) (n : Int), 0 ≤ n ∧ n < 18446744073709551616 → b.length ≤ 1000000 → pdu_page_put.p (b, n, 6, ()) = some (b ++ be n 6, ()) := fun b n h hb => pput_eq b n 6 h (by omega) hb
  have p8 : ∀ (b : List Int) (n : Int), 0 ≤ n ∧ n < 18446744073709551616 → b.length ≤ 1000000 → pdu_page_put.p (b, n, 8, ()) = some (b ++ be n 8, ()) := fun b n h hb => pput_eq b n 8 h (by omega) hb
  unfold pdu_PutList.p putL
  simp only [jn_eq, entries_p hw hl, bind_eq, isLevel_eq]
  rw [fdiv_pos (by decide), show (2 : Int) ^ 48 = 281474976710656 by decide]
  by_cases c0 : x.2.2.2.2.2.1.all fit = true
  case neg =>
    have hn : ¬ okL x := fun h => c0 h.1
    rw [if_neg hn, if_neg c0]
    simp
  simp only [c0, if_true, decide_true, Bool.not_true, Bool.false_eq_true, if_false]
  by_cases c1 : x.1 = 1 ∨ x.1 = 2
  case neg =>
    have hn : ¬ okL x := fun h => c1 h.2.1
    rw [if_neg hn]
    simp [c1]
  simp only [c1, decide_true, Bool.not_true, Bool.false_eq_true, if_false]
  by_cases c2 : x.2.2.1 / 281474976710656 = 0
  case neg =>
    have hn : ¬ okL x := fun h => c2 h.2.2.1
    rw [if_neg hn]
    simp [c2]
  simp only [c2, decide_true, Bool.not_true, Bool.false_eq_true, if_false]
  have hT : pdu_entries.p_at x.2.2.2.2.2.1.length 0 x.2.2.2.2.2.1 = tl x := rfl
  rw [hT]
  have hk : 0 ≤ kd x ∧ kd x ≤ 255 := by unfold kd; split <;> omega
  have hh : 0 ≤ hd x ∧ hd x ≤ 33 := by unfold hd; split <;> omega
  have hbl : (beg (kd x)).length = 8 := rfl
  simp only [kind_L x c1, headOf_eq, hd_kd x c1, begin_eq _ hk, bind_eq]
  rw [w64 (x := hd x + ((tl x).length : Int)) (by omega)]
  cases hwh : x.2.1 with
  | true =>
    simp only [Bool.not_true, Bool.false_eq_true, if_false, if_true]
    by_cases c5 : hd x + ((tl x).length : Int) ≤ 1492
    · have hy : okL x := ⟨c0, c1, c2, .inl hwh, c5⟩
      rw [if_neg (show ¬ decide (hd x + ((tl x).length : Int) > 1492) = true by simp; omega), if_pos hy, wu64 (x := hd x + ((tl x).length : Int)) (by omega)]
      rw [p2 _ _ (by omega) (by omega)]
      simp only [bind_eq]
      rw [p6 _ _ hs (by simp only [List.length_append, be_length]; omega)]
      simp only [bind_eq]
      rw [p1 _ _ (by omega) (by simp only [List.length_append, be_length]; omega)]
      simp only [bind_eq]
      rw [p8 _ _ hlo (by simp only [List.length_append, be_length]; omega)]
      simp only [bind_eq]
      rw [p8 _ _ hhi (by simp only [List.length_append, be_length]; omega)]
      simp only [bind_eq]
      rw [if_pos (by simp only [List.length_append, be_length, maxBytes]; omega)]
      unfold lstB
      rw [if_pos hwh]
      simp only [List.append_assoc]
    · have hn : ¬ okL x := fun h => c5 h.2.2.2.2
      rw [if_pos (show decide (hd x + ((tl x).length : Int) > 1492) = true by simp; omega), if_neg hn]
  | false =>
    simp only [Bool.not_false, Bool.false_eq_true, if_false, if_true]
    by_cases c3 : x.2.2.2.1 = 0
    case neg =>
      have hn : ¬ okL x := fun h => (h.2.2.2.1.elim (fun e => by rw [hwh] at e; cases e) (fun e => c3 e.1))
      rw [if_neg hn]
      simp [c3]
    by_cases c4 : x.2.2.2.2.1 = 0
    case neg =>
      have hn : ¬ okL x := fun h => (h.2.2.2.1.elim (fun e => by rw [hwh] at e; cases e) (fun e => c4 e.2))
      rw [if_neg hn]
      simp [c3, c4]
    simp only [c3, c4, decide_true, Bool.not_true, Bool.false_eq_true, if_false]
    by_cases c5 : hd x + ((tl x).length : Int) ≤ 1492
    · have hy : okL x := ⟨c0, c1, c2, .inr ⟨c3, c4⟩, c5⟩
      rw [if_neg (show ¬ decide (hd x + ((tl x).length : Int) > 1492) = true by simp; omega), if_pos hy, wu64 (x := hd x + ((tl x).length : Int)) (by omega)]
      rw [p2 _ _ (by omega) (by omega)]
      simp only [bind_eq]
      rw [p6 _ _ hs (by simp only [List.length_append, be_length]; omega)]
      simp only [bind_eq]
      rw [p1 _ _ (by omega) (by simp only [List.length_append, be_length]; omega)]
      simp only [bind_eq]
      rw [if_pos (by simp only [List.length_append, be_length, maxBytes]; omega)]
      unfold lstB
      rw [if_neg (by rw [hwh]; simp)]
      simp only [List.append_assoc, List.nil_append]
    · have hn : ¬ okL x := fun h => c5 h.2.2.2.2
      rw [if_pos (show decide (hd x + ((tl x).length : Int) > 1492) = true by simp; omega), if_neg hn]
def finP (x : Lst) (t : List Int) : List Int × Int × Unit := if hd x + (t.length : Int) ≤ 1492 ∧ (x.2.1 = true ∨ x.2.2.2.1 = 0 ∧ x.2.2.2.2.1 = 0) then (beg (kd x) ++ (be (hd x + (t.length : Int)) 2 ++ (be x.2.2.1 6 ++ (be 0 1 ++ ((if x.2.1 = true then be x.2.2.2.1 8 ++ be x.2.2.2.2.1 8 else []) ++ t)))), 0, ()) else ([], 1, ())
def goP (x : Lst) (n : Nat) : Nat → List Int → List Ent → List Int × Int × Unit
  | _, t, [] => finP x t
  | j, t, y :: l => if fit y = true then goP x n (j + 1) (t ++ (if j % 15 = 0 then [9, ((16 * min 15 (n - j) : Nat) : Int)] else []) ++ eB y) l else ([], 1, ())
theorem goP_cons (x : Lst) (n j : Nat) (t : List Int) (y : Ent) (l : List Ent) : goP x n j t (y :: l) = if fit y = true then goP x n (j + 1) (t ++ (if j % 15 = 0 then [9, ((16 * min 15 (n - j) : Nat) : Int)] else []) ++ eB y) l else ([], 1, ()) := rfl
theorem goP_eq (x : Lst) (n : Nat) : ∀ (l : List Ent) (j : Nat) (t : List Int), goP x n j t l = if l.all fit = true then finP x (t ++ pdu_entries.p_at n j l) else ([], 1, ())
  | [], j, t => by simp [goP, pdu_entries.p_at]
  | y :: l, j, t => by
    rw [goP_cons, goP_eq x n l (j + 1), at_cons]
    by_cases h : fit y = true
    · simp only [h, if_true, List.all_cons, Bool.true_and, List.append_assoc]
    · have h' : fit y = false := by simpa using h
      simp only [h', List.all_cons, Bool.false_and, Bool.false_eq_true, if_false]
theorem goP_putL (x : Lst) (c1 : x.1 = 1 ∨ x.1 = 2) (c2 : x.2.2.1 / 281474976710656 = 0) : goP x x.2.2.2.2.2.1.length 0 [] x.2.2.2.2.2.1 = putL x := by
  rw [goP_eq]
  unfold putL
  by_cases c0 : x.2.2.2.2.2.1.all fit = true
  · rw [if_pos c0]
    unfold finP
    rw [List.nil_append, show pdu_entries.p_at x.2.2.2.2.2.1.length 0 x.2.2.2.2.2.1 = tl x from rfl]
    by_cases c3 : hd x + ((tl x).length : Int) ≤ 1492 ∧ (x.2.1 = true ∨ x.2.2.2.1 = 0 ∧ x.2.2.2.2.1 = 0)
    · rw [if_pos c3, if_pos (show okL x from ⟨c0, c1, c2, c3.2, c3.1⟩)]
      rfl
    · rw [if_neg c3, if_neg (show ¬ okL x from fun h => c3 ⟨h.2.2.2.2, h.2.2.2.1⟩)]
  · rw [if_neg c0, if_neg (show ¬ okL x from fun h => c0 h.1)]
theorem rputList_eq (x : Lst) (hx : LstOk x) : ref22_PutList.p (x, ()) = some (putL x) := by
  have htl := tl_len hx
  obtain ⟨hs, hlo, hhi, hw, hl⟩ := hx
  unfold ref22_PutList.p putL
  simp only [jn_eq, bind_eq]
  rw [fdiv_pos (by decide), show (2 : Int) ^ 48 = 281474976710656 by decide]
  by_cases c1 : x.1 = 1 ∨ x.1 = 2
  case neg =>
    have hn : ¬ okL x := fun h => c1 h.2.1
    rw [if_neg hn]
    by_cases c1a : x.1 < 1
    · simp [c1a]
    · have c1b : x.1 > 2 := by omega
      simp [c1a, c1b]
  rw [if_neg (show ¬ decide (x.1 < 1) = true by simp; omega), if_neg (show ¬ decide (x.1 > 2) = true by simp; omega)]
  by_cases c2 : x.2.2.1 / 281474976710656 = 0
  case neg =>
    have hn : ¬ okL x := fun h => c2 h.2.2.1
    rw [if_neg hn]
    simp [c2]
  rw [if_neg (by simp [c2])]
  have hk : 0 ≤ kd x ∧ kd x ≤ 255 := by unfold kd; split <;> omega
  have hh : 0 ≤ hd x ∧ hd x ≤ 33 := by unfold hd; split <;> omega
  have hbl : (beg (kd x)).length = 8 := rfl
  have hbg : ref22_begin.p (hd x, kd x, ()) = some (beg (kd x), ()) := by
    rw [← hd_kd x c1]
    exact rbegin_eq _ hk
  obtain ⟨l, hxl⟩ : ∃ l, x.2.2.2.2.2.1 = l := ⟨_, rfl⟩
  simp only [hxl] at hw hl ⊢
  have hG := goP_putL x c1 c2
  unfold putL at hG
  rw [hxl] at hG
  refine (iterK_fix (F := fun y => some (goP x l.length y.2.1.toNat y.1 (l.drop y.2.1.toNat))) (m := fun y => l.length - y.2.1.toNat) (I := fun y => (0 ≤ y.2.1 ∧ y.2.1 ≤ (l.length : Int)) ∧ y.1.length ≤ 18 * y.2.1.toNat) ?_ _ _ ⟨by simp, by simp⟩ (by simp; omega)).trans (by rw [← hG]; rfl)
  · rintro ⟨t, i, _⟩ r ⟨⟨h0, h1⟩, h2⟩ hr
    obtain ⟨j, rfl⟩ := Int.eq_ofNat_of_zero_le h0
    simp only [Int.toNat_natCast] at *
    by_cases hj : j < l.length
    · have hy := hw _ (rdZ_mem ((0, 0, 0, 0, ()) : Ent) l j hj)
      have bn : (0 : Int) ≤ (j : Int) ∧ (j : Int) < (l.length : Int) := by omega
      obtain ⟨y, hyy⟩ : ∃ y, rdZ ((0, 0, 0, 0, ()) : Ent) l j = y := ⟨_, rfl⟩
      have hyy2 : rdZ (((0 : Int), ((0 : Int), ((0 : Int), ((0 : Int), ()))))) l j = y := hyy
      rw [if_pos (by simpa using hj)]
      simp only [bn, and_self, if_true, hyy2, rshort_eq, bind_eq]
      rw [hyy] at hy
      rw [drop_rdZ ((0, 0, 0, 0, ()) : Ent) l j hj, hyy, goP_cons]
      by_cases f1 : 0 ≤ y.1 ∧ y.1 ≤ 65535
      case neg =>
        have hf : fit y = false := by
          cases h : fit y with
          | false => rfl
          | true => have := (fit_iff y).1 h; omega
        rw [if_neg (show ¬ fit y = true by rw [hf]; simp)]
        simp [f1]
      by_cases f2 : 0 ≤ y.2.2.2.1 ∧ y.2.2.2.1 ≤ 65535
      case neg =>
        have hf : fit y = false := by
          cases h : fit y with
          | false => rfl
          | true => have := (fit_iff y).1 h; omega
        rw [if_neg (show ¬ fit y = true by rw [hf]; simp)]
        simp [f1, f2]
      have hf : fit y = true := (fit_iff y).2 ⟨f1.1, f1.2, f2.1, f2.2⟩
      simp only [f1, f2, and_self, decide_true, Bool.not_true, Bool.false_eq_true, if_false, rtwo_eq y.1 f1, rtwo_eq y.2.2.2.1 f2, reight_eq y.2.1 hy.1, nfour_eq y.2.2.1 hy.2, bind_eq]
      rw [if_pos hf]
      have htm : Int.tmod (j : Int) 15 = ((j % 15 : Nat) : Int) := by rw [tmod_pos (by omega)]; omega
      by_cases hz : j % 15 = 0
      · have hmn : IntKind.u8.wrap (IntKind.i64.wrap (16 * (if IntKind.i64.wrap ((l.length : Int) - (j : Int)) < 15 then IntKind.i64.wrap ((l.length : Int) - (j : Int)) else 15))) = ((16 * min 15 (l.length - j) : Nat) : Int) := by
          rw [w64 (x := (l.length : Int) - (j : Int)) (by omega)]
          split
          · rw [w64 (by omega), wu8]; omega
          · rw [w64 (by omega), wu8]; omega
        rw [if_pos (show decide (Int.tmod (j : Int) 15 = 0) = true by rw [htm, hz]; rfl), hmn, if_pos hz]
        simp only [List.length_append, List.length_cons, List.length_nil, be_length]
        rw [if_pos (by simp only [maxBytes]; omega), if_pos (by simp only [maxBytes]; omega), if_pos (by simp only [maxBytes]; omega), if_pos (by simp only [maxBytes]; omega), if_pos (by simp only [maxBytes]; omega), w64 (by omega), hr _ ⟨by (dsimp only; omega), by (dsimp only; simp only [List.length_append, List.length_cons, List.length_nil, be_length]; omega)⟩ (by (dsimp only; omega))]
        simp only [show ((j : Int) + 1).toNat = j + 1 by omega, eB, List.append_assoc]
      · rw [if_neg (show ¬ decide (Int.tmod (j : Int) 15 = 0) = true by rw [htm]; simp; omega), if_neg hz, List.append_nil]
        simp only [List.length_append, be_length]
        rw [if_pos (by simp only [maxBytes]; omega), if_pos (by simp only [maxBytes]; omega), if_pos (by simp only [maxBytes]; omega), if_pos (by simp only [maxBytes]; omega), w64 (by omega), hr _ ⟨by (dsimp only; omega), by (dsimp only; simp only [List.length_append, be_length]; omega)⟩ (by (dsimp only; omega))]
        simp only [show ((j : Int) + 1).toNat = j + 1 by omega, eB, List.append_assoc]
    · rw [if_neg (by simpa using hj), List.drop_eq_nil_of_le (by omega)]
      show _ = some (finP x t)
      unfold finP
      have hjl : j = l.length := by omega
      have ht : t.length ≤ 1980 := by omega
      have e6 : (be x.2.2.1 8).drop (2 : Int).toNat = be x.2.2.1 6 := rfl
      have hb0 : be 0 1 = [0] := by decide
      have hJ : ∀ (w : Bool), x.2.1 = w → True := fun _ _ => trivial
      cases hwh : x.2.1 with
      | true =>
        have h1 : hd x = 33 := by unfold hd; rw [hwh]; rfl
        have h2 : kd x = 23 + x.1 := by unfold kd; rw [hwh]; rfl
        rw [h1] at hbg ⊢
        rw [h2] at hbg ⊢
        simp only [if_true, Bool.not_true, Bool.false_eq_true, if_false]
        rw [w64 (x := 23 + x.1) (by omega), w64 (x := 33 + (t.length : Int)) (by omega)]
        by_cases c5 : (33 : Int) + (t.length : Int) ≤ 1492
        · rw [if_neg (show ¬ decide ((33 : Int) + (t.length : Int) > 1492) = true by simp; omega), hbg, rtwo_eq _ (by omega), reight_eq _ hs, reight_eq _ hlo, reight_eq _ hhi]
          simp only [bind_eq, Int.toNat_natCast, List.take_length, e6]
          rw [h2] at hbl
          rw [if_pos (by simp only [be_length, maxBytes]; omega), if_pos (by simp only [be_length]; omega), if_pos (by simp only [List.length_append, be_length, maxBytes]; omega), if_pos (by simp only [List.length_append, be_length, List.length_cons, List.length_nil, maxBytes]; omega), if_pos (by simp only [List.length_append, be_length, List.length_cons, List.length_nil, maxBytes]; omega), if_pos (by simp only [List.length_append, be_length, List.length_cons, List.length_nil, maxBytes]; omega), if_pos (by simp only [List.length_append, be_length, List.length_cons, List.length_nil, maxBytes]; omega), if_pos ⟨c5, .inl trivial⟩, hb0]
          simp only [List.append_assoc]
        · rw [if_pos (show decide ((33 : Int) + (t.length : Int) > 1492) = true by simp; omega), if_neg fun h => c5 h.1]
      | false =>
        have h1 : hd x = 17 := by unfold hd; rw [hwh]; rfl
        have h2 : kd x = 25 + x.1 := by unfold kd; rw [hwh]; rfl
        rw [h1] at hbg ⊢
        rw [h2] at hbg ⊢
        simp only [if_true, Bool.not_false, Bool.false_eq_true, if_false]
        rw [w64 (x := 25 + x.1) (by omega), w64 (x := 17 + (t.length : Int)) (by omega)]
        by_cases c5 : (17 : Int) + (t.length : Int) ≤ 1492
        · rw [if_neg (show ¬ decide ((17 : Int) + (t.length : Int) > 1492) = true by simp; omega)]
          by_cases c3 : x.2.2.2.1 = 0
          case neg =>
            rw [if_pos (show (!decide (x.2.2.2.1 = 0)) = true by simp [c3]), if_neg fun h => h.2.elim (fun e => by simp at e) (fun e => c3 e.1)]
          by_cases c4 : x.2.2.2.2.1 = 0
          case neg =>
            rw [if_neg (show ¬ (!decide (x.2.2.2.1 = 0)) = true by simp [c3]), if_pos (show (!decide (x.2.2.2.2.1 = 0)) = true by simp [c4]), if_neg fun h => h.2.elim (fun e => by simp at e) (fun e => c4 e.2)]
          rw [if_neg (show ¬ (!decide (x.2.2.2.1 = 0)) = true by simp [c3]), if_neg (show ¬ (!decide (x.2.2.2.2.1 = 0)) = true by simp [c4]), hbg, rtwo_eq _ (by omega), reight_eq _ hs]
          simp only [bind_eq, Int.toNat_natCast, List.take_length, e6]
          rw [h2] at hbl
          rw [if_pos (by simp only [be_length, maxBytes]; omega), if_pos (by simp only [be_length]; omega), if_pos (by simp only [List.length_append, be_length, maxBytes]; omega), if_pos (by simp only [List.length_append, be_length, List.length_cons, List.length_nil, maxBytes]; omega), if_pos (by simp only [List.length_append, be_length, List.length_cons, List.length_nil, maxBytes]; omega), if_pos ⟨c5, .inr ⟨c3, c4⟩⟩, hb0]
          simp only [List.append_assoc, List.nil_append]
        · rw [if_pos (show decide ((17 : Int) + (t.length : Int) > 1492) = true by simp; omega), if_neg fun h => c5 h.1]
end Go.Proofs.Ytocloebloblodaa.F
