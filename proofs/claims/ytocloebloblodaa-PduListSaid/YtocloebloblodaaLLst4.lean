/- Lists of entries: there and back; the law. -/
import Derived.Test.YtocloebloblodaaLLst3
import Derived.Test.YtocloebloblodaaFrd
set_option maxRecDepth 100000
set_option linter.unusedVariables false
set_option linter.unusedSimpArgs false
open Go Go.Proofs.Fr
namespace Go.Proofs.Ytocloebloblodaa.F
def eBs (l : List Ent) : List Int := l.flatMap eB
theorem eBs_cons (x : Ent) (l : List Ent) : eBs (x :: l) = eB x ++ eBs l := by simp [eBs]
theorem eBs_len (l : List Ent) : (eBs l).length = 16 * l.length := by
  induction l with
  | nil => rfl
  | cons x l ih => rw [eBs_cons, List.length_append, eB_len, ih, List.length_cons]; omega
def chs (l : List Ent) : List Th := if h : 0 < l.length then (9, eBs (l.take 15), ()) :: chs (l.drop 15) else []
termination_by l.length
decreasing_by rw [List.length_drop]; omega
theorem chs_step {l : List Ent} (h : 0 < l.length) : chs l = (9, eBs (l.take 15), ()) :: chs (l.drop 15) := by rw [chs, dif_pos h]
theorem chs_nil : chs [] = [] := by rw [chs, dif_neg (by simp)]
theorem at_app (n : Nat) : ∀ (a b : List Ent) (j : Nat), pdu_entries.p_at n j (a ++ b) = pdu_entries.p_at n j a ++ pdu_entries.p_at n (j + a.length) b
  | [], b, j => rfl
  | x :: a, b, j => by
    rw [List.cons_append, at_cons, at_cons, at_app n a b (j + 1), List.length_cons, show j + 1 + a.length = j + (a.length + 1) by omega]
    simp only [List.append_assoc]
theorem at_rest (n : Nat) : ∀ (a : List Ent) (j : Nat), 0 < j % 15 → j % 15 + a.length ≤ 15 → pdu_entries.p_at n j a = eBs a
  | [], j, _, _ => rfl
  | x :: a, j, h, h2 => by
    rw [List.length_cons] at h2
    rw [at_cons, if_neg (by omega), eBs_cons, List.nil_append]
    by_cases ha : a = []
    · subst ha; rfl
    · have : 0 < a.length := List.length_pos_iff.2 ha
      rw [at_rest n a (j + 1) (by omega) (by omega)]
theorem at_row (n j : Nat) (a : List Ent) (hj : j % 15 = 0) (h0 : 0 < a.length) (h : a.length ≤ 15) : pdu_entries.p_at n j a = [9, ((16 * min 15 (n - j) : Nat) : Int)] ++ eBs a := by
  cases a with
  | nil => simp at h0
  | cons x a =>
    rw [List.length_cons] at h
    rw [at_cons, if_pos hj, eBs_cons]
    by_cases ha : a = []
    · subst ha; simp [eBs, pdu_entries.p_at]
    · have : 0 < a.length := List.length_pos_iff.2 ha
      rw [at_rest n a (j + 1) (by omega) (by omega), List.append_assoc]
theorem at_chs (n : Nat) : ∀ (k : Nat) (l : List Ent) (j : Nat), l.length ≤ k → j % 15 = 0 → n = j + l.length → pdu_entries.p_at n j l = thsB (chs l) := by
  intro k
  induction k with
  | zero =>
    intro l j h _ _
    have : l = [] := List.eq_nil_of_length_eq_zero (by omega)
    subst this
    rw [chs_nil]; rfl
  | succ k ih =>
    intro l j h hj hn
    by_cases h0 : 0 < l.length
    · have hl : (l.take 15).length = min 15 l.length := List.length_take
      have e := at_app n (l.take 15) (l.drop 15) j
      rw [List.take_append_drop] at e
      rw [e, at_row n j _ hj (by omega) (by omega), chs_step h0, thsB_cons]
      have hm : 16 * min 15 (n - j) = (eBs (l.take 15)).length := by rw [eBs_len, hl]; omega
      rw [hm]
      congr 1
      by_cases h15 : l.length ≤ 15
      · rw [List.drop_eq_nil_of_le h15, chs_nil]; rfl
      · exact ih _ _ (by rw [List.length_drop]; omega) (by omega) (by rw [List.length_drop]; omega)
    · have : l = [] := List.eq_nil_of_length_eq_zero (by omega)
      subst this
      rw [chs_nil]; rfl
theorem chs_ok : ∀ (k : Nat) (l : List Ent), l.length ≤ k → (chs l).all thOk = true ∧ kinds (chs l) = false := by
  intro k
  induction k with
  | zero =>
    intro l h
    have : l = [] := List.eq_nil_of_length_eq_zero (by omega)
    subst this
    rw [chs_nil]; exact ⟨rfl, rfl⟩
  | succ k ih =>
    intro l h
    by_cases h0 : 0 < l.length
    · obtain ⟨h1, h2⟩ := ih (l.drop 15) (by rw [List.length_drop]; omega)
      rw [chs_step h0]
      unfold kinds at h2 ⊢
      rw [List.all_cons, List.any_cons, h1, h2]
      refine ⟨?_, rfl⟩
      unfold thOk
      rw [Bool.and_true, decide_eq_true_eq]
      show (0 : Int) ≤ 9 ∧ (9 : Int) ≤ 255 ∧ (eBs (l.take 15)).length ≤ 255
      rw [eBs_len, List.length_take]
      omega
    · have : l = [] := List.eq_nil_of_length_eq_zero (by omega)
      subst this
      rw [chs_nil]; exact ⟨rfl, rfl⟩
theorem enD_one (x : Ent) (rest : List Int) (hf : fit x = true) (hw : wfE x) : enD (eB x ++ rest) = x :: enD rest := by
  obtain ⟨f1, f2, f3, f4⟩ := (fit_iff x).1 hf
  obtain ⟨hid, hsq⟩ := hw
  obtain ⟨lf, id, sq, sm, _⟩ := x
  simp only at f1 f2 f3 f4 hid hsq
  rw [enD_step (by rw [List.length_append, eB_len]; omega)]
  have hd16 : (eB (lf, id, sq, sm, ()) ++ rest).drop 16 = rest := List.drop_left' (eB_len _)
  rw [hd16]
  congr 1
  unfold enD1
  have e : eB (lf, id, sq, sm, ()) ++ rest = be lf 2 ++ (be id 8 ++ (be sq 4 ++ (be sm 2 ++ rest))) := by unfold eB; simp only [List.append_assoc]
  rw [e]
  have d2 : (be lf 2 ++ (be id 8 ++ (be sq 4 ++ (be sm 2 ++ rest)))).drop 2 = be id 8 ++ (be sq 4 ++ (be sm 2 ++ rest)) := rfl
  have d10 : (be lf 2 ++ (be id 8 ++ (be sq 4 ++ (be sm 2 ++ rest)))).drop 10 = be sq 4 ++ (be sm 2 ++ rest) := rfl
  have d14 : (be lf 2 ++ (be id 8 ++ (be sq 4 ++ (be sm 2 ++ rest)))).drop 14 = be sm 2 ++ rest := rfl
  unfold sl
  rw [List.drop_zero, d2, d10, d14, List.take_left' (be_length _ _), List.take_left' (be_length _ _), List.take_left' (be_length _ _), List.take_left' (be_length _ _),
    nm_be 2 lf (by omega) (by rw [show (256 : Int) ^ 2 = 65536 by decide]; omega), nm_be 8 id (by omega) (by rw [show (256 : Int) ^ 8 = 18446744073709551616 by decide]; omega),
    nm_be 4 sq (by omega) (by rw [show (256 : Int) ^ 4 = 4294967296 by decide]; omega), nm_be 2 sm (by omega) (by rw [show (256 : Int) ^ 2 = 65536 by decide]; omega)]
theorem enD_all : ∀ (l : List Ent), l.all fit = true → (∀ y ∈ l, wfE y) → enD (eBs l) = l
  | [], _, _ => enD_nil (by simp [eBs])
  | x :: l, hf, hw => by
    rw [List.all_cons, Bool.and_eq_true] at hf
    rw [eBs_cons, enD_one x _ hf.1 (hw x (by simp)), enD_all l hf.2 fun y hy => hw y (List.mem_cons_of_mem _ hy)]
theorem ensOf_chs : ∀ (k : Nat) (l acc : List Ent), l.length ≤ k → l.all fit = true → (∀ y ∈ l, wfE y) → ensOf (chs l) acc = (acc ++ l, 0, ()) := by
  intro k
  induction k with
  | zero =>
    intro l acc h _ _
    have : l = [] := List.eq_nil_of_length_eq_zero (by omega)
    subst this
    rw [chs_nil, List.append_nil]; rfl
  | succ k ih =>
    intro l acc h hf hw
    by_cases h0 : 0 < l.length
    · rw [chs_step h0]
      unfold ensOf
      have hft : (l.take 15).all fit = true := by
        rw [List.all_eq_true] at hf ⊢
        exact fun y hy => hf y (List.mem_of_mem_take hy)
      have hfd : (l.drop 15).all fit = true := by
        rw [List.all_eq_true] at hf ⊢
        exact fun y hy => hf y (List.mem_of_mem_drop hy)
      have hm : (eBs (l.take 15)).length % 16 = 0 := by rw [eBs_len]; omega
      rw [if_pos hm, enD_all _ hft fun y hy => hw y (List.mem_of_mem_take hy), ih _ _ (by rw [List.length_drop]; omega) hfd fun y hy => hw y (List.mem_of_mem_drop hy), List.append_assoc, List.take_append_drop]
    · have : l = [] := List.eq_nil_of_length_eq_zero (by omega)
      subst this
      rw [chs_nil, List.append_nil]; rfl
theorem lstB_len (x : Lst) : ((lstB x).length : Int) = hd x + ((tl x).length : Int) := by
  unfold lstB hd
  have hb : (beg (kd x)).length = 8 := rfl
  simp only [List.length_append, be_length, hb]
  split
  · simp only [List.length_append, be_length]; omega
  · simp only [List.length_nil]; omega
theorem lstB_by {x : Lst} (h : okL x) : By (lstB x) := by
  unfold lstB
  refine By.app ?_ ((be_by _ _).app ((be_by _ _).app ((be_by _ _).app (By.app ?_ (at_by _ _ _)))))
  · have hr := hdO_range (kd x)
    have hk : 0 ≤ kd x ∧ kd x ≤ 255 := by have := h.2.1; unfold kd; split <;> omega
    intro y hy
    simp only [beg, List.mem_cons, List.not_mem_nil, or_false] at hy
    rcases hy with rfl | rfl | rfl | rfl | rfl | rfl | rfl | rfl <;> omega
  · split
    · exact (be_by _ _).app (be_by _ _)
    · intro y hy; cases hy
theorem takeLst_of {x : Lst} (h : okL x) (hx : LstOk x) : takeLst (lstB x) = (x, 0, ()) := by
  have hlen := lstB_len x
  have htl := tl_len hx
  obtain ⟨h0, h1, h2, h3, h4⟩ := h
  obtain ⟨hs, hlo, hhi, hw, hl⟩ := hx
  have hh := hd_kd x h1
  have hT : takeT (tl x) = (chs x.2.2.2.2.2.1, 0, ()) := by
    unfold tl
    rw [at_chs _ _ x.2.2.2.2.2.1 0 (Nat.le_refl _) rfl (by omega), takeT_of _ (chs_ok _ _ (Nat.le_refl _)).1]
  have hE : kF (chs x.2.2.2.2.2.1) (finL (lstOf (lstB x) []) (ensOf (chs x.2.2.2.2.2.1) [])) = (lstOf (lstB x) x.2.2.2.2.2.1, 0, ()) := by
    unfold kF
    rw [if_neg (by rw [(chs_ok _ _ (Nat.le_refl _)).2]; simp), ensOf_chs _ _ _ (Nat.le_refl _) h0 hw]
    rfl
  have r4 : rd (lstB x) 4 = kd x := rfl
  have k8 : (lstB x).take 8 = beg (kd x) := rfl
  have r8 : rd (lstB x) 8 = (hd x + ((tl x).length : Int)) / 256 ^ 1 % 256 := rfl
  have r9 : rd (lstB x) 9 = (hd x + ((tl x).length : Int)) / 256 ^ 0 % 256 := rfl
  have r16 : rd (lstB x) 16 = 0 := rfl
  have d10 : ((lstB x).drop 10).take 6 = be x.2.2.1 6 := rfl
  rw [show (256 : Int) ^ 1 = 256 by decide] at r8
  rw [Int.pow_zero, Int.ediv_one] at r9
  have hhd : hd x = 33 ∨ hd x = 17 := by unfold hd; split <;> simp
  have hkd : kd x = 24 ∨ kd x = 25 ∨ kd x = 26 ∨ kd x = 27 := by unfold kd; split <;> omega
  have hq : q4 (kd x) = true := by rcases hkd with e | e | e | e <;> rw [e] <;> rfl
  have hfin : fin q4 (lstB x) = true := by
    unfold fin okK wr
    rw [r4, k8, hh, r8, r9, r16, hq, if_neg (by omega), if_neg (by omega)]
    simp only [decide_true, Bool.true_and, Bool.and_true, Bool.and_eq_true, decide_eq_true_eq, and_true]
    refine ⟨by omega, by omega, by omega, by omega⟩
  have hD : (lstB x).drop (hdO (rd (lstB x) 4)).toNat = tl x := by
    rw [r4, hh]
    have e : lstB x = (beg (kd x) ++ (be (hd x + ((tl x).length : Int)) 2 ++ (be x.2.2.1 6 ++ (be 0 1 ++ (if x.2.1 = true then be x.2.2.2.1 8 ++ be x.2.2.2.2.1 8 else []))))) ++ tl x := by unfold lstB; simp only [List.append_assoc]
    rw [e]
    refine List.drop_left' ?_
    have hb : (beg (kd x)).length = 8 := rfl
    unfold hd
    simp only [List.length_append, be_length, hb]
    split
    · simp only [List.length_append, be_length]; omega
    · simp only [List.length_nil]; omega
  rw [takeLst_fin hfin (by rw [hD]; exact hT), hE]
  refine congrArg (fun z => (z, (0 : Int), ())) ?_
  have hsrc : sl (lstB x) 10 6 = x.2.2.1 := by
    unfold sl
    rw [d10, nm_be 6 x.2.2.1 (by omega) (by rw [show (256 : Int) ^ 6 = 281474976710656 by decide]; omega)]
  unfold lstOf
  rw [r4, hsrc]
  obtain ⟨lv, wh, src, lo, hi, l, _⟩ := x
  simp only at h1 h3 hlo hhi
  cases wh with
  | true =>
    have hk : kd (lv, true, src, lo, hi, l, ()) = 23 + lv := rfl
    have d17 : ((lstB (lv, true, src, lo, hi, l, ())).drop 17).take 8 = be lo 8 := rfl
    have d25 : ((lstB (lv, true, src, lo, hi, l, ())).drop 25).take 8 = be hi 8 := rfl
    unfold sl
    rw [hk, if_pos (by omega), if_pos (by omega), d17, d25, nm_be 8 lo (by omega) (by rw [show (256 : Int) ^ 8 = 18446744073709551616 by decide]; omega), nm_be 8 hi (by omega) (by rw [show (256 : Int) ^ 8 = 18446744073709551616 by decide]; omega), decide_eq_true (show 23 + lv < 26 by omega), show (23 + lv) % 2 + 1 = lv by omega]
  | false =>
    have hk : kd (lv, false, src, lo, hi, l, ()) = 25 + lv := rfl
    obtain ⟨rfl, rfl⟩ : lo = 0 ∧ hi = 0 := h3.elim (fun e => by cases e) fun e => e
    rw [hk, if_neg (by omega), if_neg (by omega), decide_eq_false (show ¬ 25 + lv < 26 by omega), show (25 + lv) % 2 + 1 = lv by omega]
theorem list_eq (x : Lst) (hl : x.2.2.2.2.2.1.length ≤ 1000000) : law22_list.p (x, ()) = some (x, ()) := by
  obtain ⟨lv, wh, src, lo, hi, l, _⟩ := x
  simp only at hl
  unfold law22_list.p
  simp only [jn_eq]
  refine (iterK_fix (F := fun x => some ((lv, wh, src, lo, hi, x.2.1.2.2.2.2.2.1 ++ l.drop x.1.toNat, ()), ())) (m := fun x => l.length - x.1.toNat) (I := fun x => (0 ≤ x.1 ∧ x.1 ≤ (l.length : Int)) ∧ x.2.1.2.2.2.2.2.1.length = x.1.toNat ∧ x.2.1 = (lv, wh, src, lo, hi, x.2.1.2.2.2.2.2.1, ())) ?_ _ _ ⟨by simp, by simp, rfl⟩ (by simp; omega)).trans (by simp)
  rintro ⟨i, ⟨s1, s2, s3, s4, s5, acc, _⟩, _⟩ r ⟨⟨h0, h1⟩, h2, h3⟩ hr
  simp only [Prod.mk.injEq, and_true] at h3
  obtain ⟨rfl, rfl, rfl, rfl, rfl⟩ := h3
  obtain ⟨j, rfl⟩ := Int.eq_ofNat_of_zero_le h0
  simp only [Int.toNat_natCast] at *
  by_cases hj : j < l.length
  · have bn : (0 : Int) ≤ (j : Int) ∧ (j : Int) < (l.length : Int) := by omega
    rw [if_pos (by simpa using hj)]
    simp only [bn, and_self, if_true]
    rw [if_pos (by simp only [List.length_cons, List.length_nil, maxBytes]; omega), w64 (by omega), hr _ ⟨by (dsimp only; omega), by (simp only [List.length_append, List.length_cons, List.length_nil]; omega), rfl⟩ (by (dsimp only; omega)), drop_rdZ ((0, 0, 0, 0, ()) : Ent) l j hj]
    simp only [show ((j : Int) + 1).toNat = j + 1 by omega, List.append_assoc, List.cons_append, List.nil_append]
  · rw [if_neg (by simpa using hj), List.drop_eq_nil_of_le (by omega), List.append_nil]
theorem Entries_same (l : List Ent) (hl : l.length ≤ 1000000) : ref22_Entries.p (l, l, ()) = some (true, ()) := by
  unfold ref22_Entries.p
  simp only [jn_eq, decide_true, Bool.not_true, Bool.false_eq_true, if_false]
  refine (iterK_fix (F := fun x => some (true, ())) (m := fun x => l.length - x.1.toNat) (I := fun x => 0 ≤ x.1 ∧ x.1 ≤ (l.length : Int)) ?_ _ _ ⟨by simp, by simp⟩ (by simp; omega))
  rintro ⟨i, _⟩ r ⟨h0, h1⟩ hr
  obtain ⟨j, rfl⟩ := Int.eq_ofNat_of_zero_le h0
  simp only [Int.toNat_natCast] at *
  by_cases hj : j < l.length
  · have bn : (0 : Int) ≤ (j : Int) ∧ (j : Int) < (l.length : Int) := by omega
    rw [if_pos (by simpa using hj)]
    simp only [bn, and_self, if_true, decide_true, Bool.and_self, Bool.not_true, Bool.false_eq_true, if_false]
    rw [w64 (by omega), hr _ ⟨by (dsimp only; omega), by (dsimp only; omega)⟩ (by (dsimp only; omega))]
  · rw [if_neg (by simpa using hj)]
theorem SameList_same (x : Lst) (hl : x.2.2.2.2.2.1.length ≤ 1000000) : ref22_SameList.p (x, x, ()) = some (true, ()) := by
  unfold ref22_SameList.p
  simp only [Entries_same _ hl, jn_eq, decide_true, BEq.rfl, if_true, bind_eq]
theorem ensOf_len : ∀ (t : List Th) (acc : List Ent), (∀ x ∈ t, x.2.1.length ≤ 255) → (ensOf t acc).1.length ≤ acc.length + 255 * t.length
  | [], acc, _ => by simp [ensOf]
  | x :: t, acc, h => by
    unfold ensOf
    split
    · have h1 := ensOf_len t (acc ++ enD x.2.1) fun y hy => h y (List.mem_cons_of_mem _ hy)
      have h2 := enD_len _ x.2.1 (Nat.le_refl _)
      have h3 := h x (by simp)
      rw [List.length_append] at h1
      rw [List.length_cons]
      omega
    · simp
theorem takeLst_small (b : List Int) (hb : By b) (hl : b.length ≤ 1600) : (takeLst b).1.2.2.2.2.2.1.length ≤ 1000000 := by
  unfold takeLst
  split
  · split
    · split
      · show (entsR _).1.length ≤ 1000000
        unfold entsR
        split
        · simp
        · have hT := takeT_by (b := b.drop (hdO (rd b 4)).toNat) (hb.drop _) (by rw [List.length_drop]; omega)
          have h1 := ensOf_len (takeT (b.drop (hdO (rd b 4)).toNat)).1 [] fun x hx => (hT.2 x hx).2
          have h2 := takeT_len (b.drop (hdO (rd b 4)).toNat)
          rw [List.length_drop] at h2
          simp only [List.length_nil] at h1
          omega
      · simp
    · simp
  · simp
theorem pduList (x : Lst) (b : List Int) (hx : LstOk x ∨ 110 < x.2.2.2.2.2.1.length) (hb : By b) : law22_PduList.p (x, b, ()) = some (true, ()) := by
  unfold law22_PduList.p
  simp only [aliveP, jn_eq, bind_eq, if_true]
  by_cases h1 : (x.2.2.2.2.2.1.length : Int) > 110
  · simp [h1]
  · rw [if_neg (by simpa using h1)]
    have hx : LstOk x := hx.elim id fun h => absurd h (by omega)
    have hxl := hx.2.2.2.2
    by_cases h2 : (b.length : Int) > 1600
    · simp [h2]
    · have hp : By (putL x).1 ∧ (putL x).1.length ≤ 1000000 := by
        unfold putL
        split
        · rename_i hc
          have h4 := hc.2.2.2.2
          have h5 := lstB_len x
          exact ⟨lstB_by hc, by show (lstB x).length ≤ 1000000; omega⟩
        · exact ⟨fun x hx => (by cases hx), by simp⟩
      have htl := takeLst_small b hb (by omega)
      have hl1 := list_eq x (by omega)
      simp only [h2, decide_false, Bool.not_true, Bool.false_eq_true, if_false, putList_eq x hx, rputList_eq x hx, hl1, takeList_eq b hb (by omega), rtakeList_eq b hb (by omega), takeList_eq _ hp.1 hp.2, bind_eq, list_eq (takeLst b).1 htl, SameList_same (takeLst b).1 htl, decide_true, if_true]
      unfold putL
      by_cases h : okL x
      · rw [if_pos h]
        simp only [decide_true, Bool.not_true, Bool.false_eq_true, if_false, if_true, takeLst_of h hx, hl1, SameList_same x (by omega), bind_eq]
      · rw [if_neg h]
        simp
abbrev tEnt : Ty := .cons (.int .i64) (.cons (.int .u64) (.cons (.int .u32) (.cons (.int .i64) .nil)))
abbrev tLst : Ty := .cons (.int .i64) (.cons .bool (.cons (.int .u64) (.cons (.int .u64) (.cons (.int .u64) (.cons (.sl 111 tEnt) .nil)))))
theorem pduListW {P : Program} {x : dens (List.map K.v [tLst, (.sl 5 (.int .u8))])} (h : WfA P [tLst, (.sl 5 (.int .u8))] x) : ∃ y, law22_PduList.p x = some y ∧ y.1 = true := by
  refine ⟨_, pduList x.1 x.2.1 ?_ (fun y hy => wf_u8 (h.2.1.2 y hy)), rfl⟩
  by_cases hl : List.length (α := Ent) x.1.2.2.2.2.2.1 ≤ 110
  · exact .inl ⟨wf_u64 h.1.2.2.1, wf_u64 h.1.2.2.2.1, wf_u64 h.1.2.2.2.2.1, fun y hy => ⟨wf_u64 (h.1.2.2.2.2.2.1.2 y hy).2.1, wf_u32 (h.1.2.2.2.2.2.1.2 y hy).2.2.1⟩, hl⟩
  · exact .inr (Nat.lt_of_not_le hl)
end Go.Proofs.Ytocloebloblodaa.F
