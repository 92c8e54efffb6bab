/- Lists of entries: as bytes and back. -/
import Derived.Test.YtocloebloblodaaLPdu
set_option maxRecDepth 100000
set_option linter.unusedVariables false
set_option linter.unusedSimpArgs false
open Go Go.Proofs.Fr
namespace Go.Proofs.Ytocloebloblodaa.F
theorem aliveP : law22_alive.p () = some (true, ()) := by decide +kernel
abbrev Ent := Int × Int × Int × Int × Unit
abbrev Lst := Int × Bool × Int × Int × Int × List Ent × Unit
abbrev zL : Lst := (0, false, 0, 0, 0, [], ())
def sl (b : List Int) (i m : Nat) : Int := nm ((b.drop i).take m)
theorem sl_range {b : List Int} (hb : By b) (i m : Nat) : 0 ≤ sl b i m ∧ sl b i m < 256 ^ m := by
  unfold sl
  have h := nm_range _ ((hb.drop i).take m)
  have : (256 : Int) ^ ((b.drop i).take m).length ≤ 256 ^ m := by
    have hle : ((b.drop i).take m).length ≤ m := by rw [List.length_take]; omega
    exact_mod_cast Nat.pow_le_pow_right (by omega) hle
  omega
theorem sl1 {b : List Int} (i : Nat) (h : i < b.length) : sl b i 1 = rd b i := by
  unfold sl
  rw [drop_rd b i h]
  simp [nm]
/-- Entries off bytes. -/
def enD1 (c : List Int) : Ent := (sl c 0 2, sl c 2 8, sl c 10 4, sl c 14 2, ())
def enD (c : List Int) : List Ent := if h : 16 ≤ c.length then enD1 c :: enD (c.drop 16) else []
termination_by c.length
decreasing_by rw [List.length_drop]; omega
theorem enD_step {c : List Int} (h : 16 ≤ c.length) : enD c = enD1 c :: enD (c.drop 16) := by rw [enD, dif_pos h]
theorem enD_nil {c : List Int} (h : c.length < 16) : enD c = [] := by rw [enD, dif_neg (by omega)]
theorem enD_len : ∀ (n : Nat) (c : List Int), c.length ≤ n → (enD c).length ≤ c.length := by
  intro n
  induction n with
  | zero => intro c h; rw [enD_nil (by omega)]; exact Nat.zero_le _
  | succ n ih =>
    intro c h
    by_cases h16 : 16 ≤ c.length
    · rw [enD_step h16, List.length_cons]
      have := ih (c.drop 16) (by rw [List.length_drop]; omega)
      rw [List.length_drop] at this
      omega
    · rw [enD_nil (by omega)]; exact Nat.zero_le _
def ensOf : List Th → List Ent → List Ent × Int × Unit
  | [], acc => (acc, 0, ())
  | x :: t, acc => if x.2.1.length % 16 = 0 then ensOf t (acc ++ enD x.2.1) else ([], 2, ())
def kinds (t : List Th) : Bool := t.any fun x => !decide (x.1 = 9)
def entsR (t : List Th) : List Ent × Int × Unit := if kinds t = true then ([], 3, ()) else ensOf t []
/-- Things that come off bytes. -/
def ThB (t : List Th) : Prop := t.length ≤ 1000000 ∧ ∀ x ∈ t, By x.2.1 ∧ x.2.1.length ≤ 255
theorem thsOf_by : ∀ (n : Nat) (b : List Int) (l : List Th), By b → b.length ≤ n → thsOf b = some l → ∀ x ∈ l, By x.2.1 ∧ x.2.1.length ≤ 255 := by
  intro n
  induction n with
  | zero =>
    intro b l _ hb h
    have : b = [] := List.eq_nil_of_length_eq_zero (by omega)
    subst this
    rw [thsOf_nil] at h
    injection h with h
    subst h
    intro x hx
    cases hx
  | succ n ih =>
    intro b l hB hb h
    by_cases h0 : b.length = 0
    · have : b = [] := List.eq_nil_of_length_eq_zero h0
      subst this
      rw [thsOf_nil] at h
      injection h with h
      subst h
      intro x hx
      cases hx
    · rw [thsOf_step h0] at h
      split at h
      · cases h
      · rename_i h1
        cases hh : thsOf (b.drop (2 + (rd b 1).toNat)) with
        | none => rw [hh] at h; cases h
        | some k =>
          rw [hh] at h
          injection h with h
          subst h
          intro x hx
          rcases List.mem_cons.1 hx with rfl | hx
          · refine ⟨(hB.drop 2).take _, ?_⟩
            have h2 := hB.at 1 (by omega)
            show ((b.drop 2).take (rd b 1).toNat).length ≤ 255
            rw [List.length_take]
            omega
          · exact ih _ _ (hB.drop _) (by rw [List.length_drop]; omega) hh x hx
theorem takeT_by {b : List Int} (hb : By b) (hl : b.length ≤ 1000000) : ThB (takeT b).1 := by
  refine ⟨Nat.le_trans (takeT_len b) hl, ?_⟩
  unfold takeT
  cases h : thsOf b with
  | none => intro x hx; cases hx
  | some l => exact thsOf_by b.length b l hb (Nat.le_refl _) h
theorem kinds_eq (t : List Th) (hl : t.length ≤ 1000000) : slices_ContainsFunc_tlv_Thing_tlv_Thing.p (t, (), ()) = some (kinds t, ()) := by
  have h : ∃ i : Int, slices_IndexFunc_tlv_Thing_tlv_Thing.p (t, (), ()) = some (i, ()) ∧ decide (i ≥ 0) = kinds t := by
    unfold slices_IndexFunc_tlv_Thing_tlv_Thing.p
    simp only [jn_eq]
    have key := iterK_ex (b := fun (x3 : Int × Unit) r4 => (if (decide (x3.1 < ((t, (), ()) : List Th × Unit × Unit).1.length)) = true then (if (0 : Int) ≤ x3.1 ∧ x3.1 < (t.length : Int) then ((pdu_entriesOf_1.p ((rdZ zTh t (Int.toNat x3.1)), ())).bind fun y5 => (if y5.1 = true then (some (x3.1, ())) else (r4 (IntKind.i64.wrap (x3.1 + 1), ())))) else none) else (some ((-1 : Int), ()))))
      (Q := fun y => decide (y.1 ≥ 0) = kinds t) (m := fun x => t.length - x.1.toNat) (I := fun x => (0 ≤ x.1 ∧ x.1 ≤ (t.length : Int)) ∧ kinds t = kinds (t.drop x.1.toNat)) ?_ 4611686018427387904 (0, ()) ⟨by simp, by simp⟩ (by simp; omega)
    · obtain ⟨y, hy, hQ⟩ := key
      exact ⟨y.1, hy, hQ⟩
    · rintro ⟨i, _⟩ r ⟨⟨h0, h1⟩, h2⟩ hr
      obtain ⟨j, rfl⟩ := Int.eq_ofNat_of_zero_le h0
      simp only [Int.toNat_natCast] at *
      by_cases hj : j < t.length
      · rw [drop_rdZ zTh t j hj] at h2
        rw [if_pos (by simpa using hj), if_pos (by omega)]
        unfold pdu_entriesOf_1.p
        simp only [bind_eq]
        by_cases hk : (rdZ zTh t j).1 = 9
        · rw [if_neg (by simp [hk]), w64 (by omega)]
          refine hr _ ⟨by first | omega | (dsimp only; omega) | (simp only [List.length_cons, List.length_nil, List.length_append, List.length_drop, List.length_take, maxBytes]; omega) | (simp; omega), ?_⟩ (by first | omega | (dsimp only; omega) | (simp only [List.length_cons, List.length_nil, List.length_append, List.length_drop, List.length_take, maxBytes]; omega) | (simp; omega))
          rw [h2, show ((j : Int) + 1).toNat = j + 1 by omega]
          simp [kinds, hk]
        · rw [if_pos (by simp [hk])]
          refine ⟨_, rfl, ?_⟩
          rw [h2]
          have : (0 : Int) ≤ (j : Int) := by omega
          simp [kinds, hk, this]
      · rw [if_neg (by simpa using hj)]
        refine ⟨_, rfl, ?_⟩
        rw [h2, List.drop_eq_nil_of_le (by omega)]
        rfl
  obtain ⟨i, hi, hk⟩ := h
  unfold slices_ContainsFunc_tlv_Thing_tlv_Thing.p
  simp only [hi, bind_eq, hk]
theorem entries_eq (t : List Th) (ht : ThB t) : pdu_entriesOf.p (t, ()) = some (entsR t) := by
  unfold pdu_entriesOf.p entsR
  obtain ⟨hl, hb⟩ := ht
  rw [kinds_eq t hl]
  simp only [bind_eq, jn_eq]
  cases hk : kinds t with
  | true => rw [if_pos rfl]; rfl
  | false =>
    rw [if_neg (by simp)]
    refine (iterK_fix (F := fun x => some (ensOf (t.drop x.2.1.toNat) x.1)) (m := fun x => t.length - x.2.1.toNat) (I := fun x => (0 ≤ x.2.1 ∧ x.2.1 ≤ (t.length : Int)) ∧ x.1.length ≤ 255 * x.2.1.toNat) ?_ _ _ ⟨by simp, by simp⟩ (by simp; omega)).trans (by simp)
    rintro ⟨acc, i, _⟩ r ⟨⟨h0, h1⟩, h2⟩ hr
    obtain ⟨j, rfl⟩ := Int.eq_ofNat_of_zero_le h0
    simp only [Int.toNat_natCast] at *
    by_cases hj : j < t.length
    · obtain ⟨hB, hL⟩ := hb _ (rdZ_mem zTh t j hj)
      have hL2 : (rdZ ((0 : Int), ([] : List Int), ()) t j).2.1.length ≤ 255 := hL
      have hd := enD_len _ (rdZ zTh t j).2.1 (Nat.le_refl _)
      have hd2 : (enD (rdZ ((0 : Int), ([] : List Int), ()) t j).2.1).length ≤ 255 := Nat.le_trans hd hL
      rw [if_pos (by simpa using hj), if_pos (by omega), drop_rdZ zTh t j hj]
      unfold ensOf
      have htm : Int.tmod ((((rdZ zTh t j).2).1).length : Int) 16 = ((((rdZ zTh t j).2.1).length % 16 : Nat) : Int) := by rw [tmod_pos (by omega)]; omega
      by_cases hm : (rdZ zTh t j).2.1.length % 16 = 0
      · rw [if_neg (show ¬ (!decide (Int.tmod (((rdZ zTh t j).2.1).length : Int) 16 = 0)) = true by rw [htm, hm]; simp), if_pos hm]
        refine (iterK_fix (F := fun x => r (x.1 ++ enD x.2.1, IntKind.i64.wrap ((j : Int) + 1), ())) (m := fun x => x.2.1.length) (I := fun x => By x.2.1 ∧ x.2.1.length % 16 = 0 ∧ x.1.length + x.2.1.length ≤ 255 * (j + 1)) ?_ _ _ ⟨hB, hm, by dsimp only; omega⟩ (by dsimp only; omega)).trans ?_
        · rintro ⟨a2, c, _⟩ r2 ⟨g0, g1, g2⟩ hr2
          simp only at g0 g1 g2
          by_cases hc : c.length = 0
          · have hcn : c = [] := List.eq_nil_of_length_eq_zero hc
            subst hcn
            rw [if_neg (by simp), enD_nil (by simp)]
            simp
          · have c16 : 16 ≤ c.length := by omega
            have t2 : ∀ (l : List Int), By l → 2 ≤ l.length → pdu_reader_take_2.p (l, 2, ()) = some (nm (l.take 2), (l.drop 2), ()) := fun l h h' => rtake2_eq l 2 h (by omega) h'
            have t4 : ∀ (l : List Int), By l → 4 ≤ l.length → pdu_reader_take_2.p (l, 4, ()) = some (nm (l.take 4), (l.drop 4), ()) := fun l h h' => rtake2_eq l 4 h (by omega) h'
            have t8 : ∀ (l : List Int), By l → 8 ≤ l.length → pdu_reader_take_2.p (l, 8, ()) = some (nm (l.take 8), (l.drop 8), ()) := fun l h h' => rtake2_eq l 8 h (by omega) h'
            rw [if_pos (by simp only [decide_eq_true_eq]; omega), t2 c g0 (by omega)]
            simp only [bind_eq, List.drop_drop]
            rw [t8 _ (g0.drop _) (by rw [List.length_drop]; omega)]
            simp only [bind_eq, List.drop_drop]
            rw [t4 _ (g0.drop _) (by rw [List.length_drop]; omega)]
            simp only [bind_eq, List.drop_drop]
            rw [t2 _ (g0.drop _) (by rw [List.length_drop]; omega)]
            simp only [bind_eq, List.drop_drop]
            have r0 := sl_range g0 0 2
            have r10 := sl_range g0 10 4
            have r14 := sl_range g0 14 2
            rw [show (256 : Int) ^ 2 = 65536 by decide] at r0 r14
            rw [show (256 : Int) ^ 4 = 4294967296 by decide] at r10
            have s0 : nm (c.take 2) = sl c 0 2 := rfl
            have s1 : nm ((c.drop 2).take 8) = sl c 2 8 := rfl
            have s2 : nm ((c.drop (2 + 8)).take 4) = sl c 10 4 := rfl
            have s3 : nm ((c.drop (2 + 8 + 4)).take 2) = sl c 14 2 := rfl
            rw [s0, s1, s2, s3, w64 (x := sl c 0 2) (by omega), w64 (x := sl c 14 2) (by omega), wu32, Int.emod_eq_of_lt (by omega) (by omega), if_pos (by simp only [List.length_cons, List.length_nil, maxBytes]; omega), hr2 _ ⟨g0.drop _, by (simp only [List.length_drop]; omega), by (simp only [List.length_drop, List.length_append, List.length_cons, List.length_nil]; omega)⟩ (by simp only [List.length_drop]; omega), enD_step c16]
            simp only [List.append_assoc, List.cons_append, List.nil_append]
            rfl
        · rw [w64 (by omega), hr _ ⟨by dsimp only; omega, by (dsimp only; simp only [List.length_append]; omega)⟩ (by dsimp only; omega)]
          simp only [show ((j : Int) + 1).toNat = j + 1 by omega]
      · rw [if_pos (show (!decide (Int.tmod (((rdZ zTh t j).2.1).length : Int) 16 = 0)) = true by rw [htm]; simp; omega), if_neg hm]
    · rw [if_neg (by simpa using hj), List.drop_eq_nil_of_le (by omega)]
      rfl
def q4 : Int → Bool := memb [24, 25, 26, 27]
def lstOf (b : List Int) (l : List Ent) : Lst := (rd b 4 % 2 + 1, decide (rd b 4 < 26), sl b 10 6, if rd b 4 < 26 then sl b 17 8 else 0, if rd b 4 < 26 then sl b 25 8 else 0, l, ())
def takeLst (b : List Int) : Lst × Int × Unit :=
  if fin q4 b = true then
    (if (takeT (b.drop (hdO (rd b 4)).toNat)).2.1 = 0 then (if (entsR (takeT (b.drop (hdO (rd b 4)).toNat)).1).2.1 = 0 then (lstOf b (entsR (takeT (b.drop (hdO (rd b 4)).toNat)).1).1, 0, ()) else (zL, (entsR (takeT (b.drop (hdO (rd b 4)).toNat)).1).2.1, ()))
      else (zL, (takeT (b.drop (hdO (rd b 4)).toNat)).2.1, ()))
  else (zL, err q4 b, ())
theorem fin_q4 {b : List Int} (h : fin q4 b = true) : (rd b 4 = 24 ∨ rd b 4 = 25 ∨ rd b 4 = 26 ∨ rd b 4 = 27) ∧ 17 ≤ b.length ∧ (rd b 4 < 26 → hdO (rd b 4) = 33 ∧ 33 ≤ b.length) ∧ (¬ rd b 4 < 26 → hdO (rd b 4) = 17) := by
  obtain ⟨_, h2, h3, _, h5, _⟩ := fin_len h
  have hk : rd b 4 = 24 ∨ rd b 4 = 25 ∨ rd b 4 = 26 ∨ rd b 4 = 27 := by
    simp only [q4, memb, List.any_cons, List.any_nil, Bool.or_false, Bool.or_eq_true, decide_eq_true_eq] at h2
    exact h2
  refine ⟨hk, h5, fun hlt => ?_, fun hlt => ?_⟩
  · have : hdO (rd b 4) = 33 := by
      rcases hk with e | e | e | e <;> rw [e] at hlt ⊢ <;> first | decide | omega
    exact ⟨this, by rw [this] at h3; omega⟩
  · rcases hk with e | e | e | e <;> rw [e] at hlt ⊢ <;> first | decide | omega
theorem takeList_eq (b : List Int) (hb : By b) (hl : b.length ≤ 1000000) : pdu_TakeList.p (b, ()) = some (takeLst b) := by
  unfold pdu_TakeList.p takeLst
  simp only [jn_eq]
  rw [open_eq [24, 25, 26, 27] b (by simp) hb hl]
  simp only [bind_eq]
  unfold openR
  change _ = some (if fin (memb [24, 25, 26, 27]) b = true then _ else _)
  cases hf : fin (memb [24, 25, 26, 27]) b with
  | false =>
    have he := err_ne (memb [24, 25, 26, 27]) b
    simp only [Bool.false_eq_true, if_false]
    rw [if_pos (by simpa using he)]
    rfl
  | true =>
    obtain ⟨hk, h17, hw, hp⟩ := fin_q4 (b := b) hf
    simp only [if_true]
    by_cases ht : (takeT (b.drop (hdO (rd b 4)).toNat)).2.1 = 0
    case neg => rw [if_pos (by simpa using ht), if_neg ht]
    rw [if_neg (by simpa using ht), if_pos ht]
    have t1 : ∀ (l : List Int), By l → 1 ≤ l.length → pdu_reader_take_2.p (l, 1, ()) = some (nm (l.take 1), (l.drop 1), ()) := fun l h h' => rtake2_eq l 1 h (by omega) h'
    have t2 : ∀ (l : List Int), By l → 2 ≤ l.length → pdu_reader_take_2.p (l, 2, ()) = some (nm (l.take 2), (l.drop 2), ()) := fun l h h' => rtake2_eq l 2 h (by omega) h'
    have t6 : ∀ (l : List Int), By l → 6 ≤ l.length → pdu_reader_take_2.p (l, 6, ()) = some (nm (l.take 6), (l.drop 6), ()) := fun l h h' => rtake2_eq l 6 h (by omega) h'
    have t8 : ∀ (l : List Int), By l → 8 ≤ l.length → pdu_reader_take_2.p (l, 8, ()) = some (nm (l.take 8), (l.drop 8), ()) := fun l h h' => rtake2_eq l 8 h (by omega) h'
    have hE := entries_eq _ (takeT_by (b := b.drop (hdO (rd b 4)).toNat) (hb.drop _) (by rw [List.length_drop]; omega))
    rw [t2 _ (hb.drop 8) (by rw [List.length_drop]; omega)]
    simp only [bind_eq, List.drop_drop]
    rw [t6 _ (hb.drop _) (by rw [List.length_drop]; omega)]
    simp only [bind_eq, List.drop_drop]
    rw [t1 _ (hb.drop _) (by rw [List.length_drop]; omega)]
    simp only [bind_eq, List.drop_drop]
    have k1 : ibits .and .i64 (rd b 4) 1 = rd b 4 % 2 := by
      have := and_modK .i64 1 (x := rd b 4) (by simp [IntKind.bits]; omega) (by simp [IntKind.bits])
      rw [show ((2 ^ 1 - 1 : Nat) : Int) = 1 by decide] at this
      rw [this, w64 (by omega)]
      omega
    have s1 : nm ((b.drop (8 + 2)).take 6) = sl b 10 6 := rfl
    by_cases hlt : rd b 4 < 26
    · obtain ⟨h33, hl33⟩ := hw hlt
      rw [if_pos (by simpa using hlt), t8 _ (hb.drop _) (by rw [List.length_drop]; omega)]
      simp only [bind_eq, List.drop_drop]
      rw [t8 _ (hb.drop _) (by rw [List.length_drop]; omega)]
      simp only [bind_eq, List.drop_drop]
      rw [hE]
      simp only [bind_eq]
      have s2 : nm ((b.drop (8 + 2 + 6 + 1)).take 8) = sl b 17 8 := rfl
      have s3 : nm ((b.drop (8 + 2 + 6 + 1 + 8)).take 8) = sl b 25 8 := rfl
      by_cases he : (entsR (takeT (b.drop (hdO (rd b 4)).toNat)).1).2.1 = 0
      · rw [if_neg (by simpa using he), if_pos he, k1, s1, s2, s3, w64 (by omega)]
        unfold lstOf
        rw [if_pos hlt, if_pos hlt]
      · rw [if_pos (by simpa using he), if_neg he]
    · rw [if_neg (by simpa using hlt), hE]
      simp only [bind_eq]
      by_cases he : (entsR (takeT (b.drop (hdO (rd b 4)).toNat)).1).2.1 = 0
      · rw [if_neg (by simpa using he), if_pos he, k1, s1, w64 (by omega)]
        unfold lstOf
        rw [if_neg hlt, if_neg hlt]
      · rw [if_pos (by simpa using he), if_neg he]
theorem fin_congr {q q' : Int → Bool} {b : List Int} (h : q (rd b 4) = q' (rd b 4)) : fin q b = fin q' b ∧ err q b = err q' b := by
  unfold fin err
  rw [h]
  exact ⟨rfl, rfl⟩
theorem memq_hi {k : Int} (h : k > 25) : memb [26, 27] k = q4 k := by
  have h1 : ¬ k = 24 := by omega
  have h2 : ¬ k = 25 := by omega
  simp [memb, q4, h1, h2]
theorem memq_lo {k : Int} (h : ¬ k > 25) : memb [24, 25] k = q4 k := by
  have h1 : ¬ k = 26 := by omega
  have h2 : ¬ k = 27 := by omega
  simp [memb, q4, h1, h2]
theorem open_q (b : List Int) (one other : Int) (h : (kindR b).1 > 25 ∧ one = 26 ∧ other = 27 ∨ ¬ (kindR b).1 > 25 ∧ one = 24 ∧ other = 25) : fin (memb [one, other]) b = fin q4 b ∧ err (memb [one, other]) b = err q4 b := by
  by_cases h8 : b.length < 8
  · have hf : ∀ q, fin q b = false := fun q => by
      cases h : fin q b with
      | false => rfl
      | true => have := (fin_len h).2.2.2.2.1; omega
    have he : ∀ q, err q b = 2 := fun q => by unfold err; rw [if_pos h8]
    exact ⟨by rw [hf, hf], by rw [he, he]⟩
  · cases ho : okK b with
    | false =>
      have hf : ∀ q, fin q b = false := fun q => by unfold fin; rw [ho]; rfl
      have he : ∀ q, err q b = 3 := fun q => by unfold err; rw [if_neg h8, if_neg (by simp [ho])]
      exact ⟨by rw [hf, hf], by rw [he, he]⟩
    | true =>
      have hk : (kindR b).1 = rd b 4 := by unfold kindR; rw [if_neg h8, if_pos ho]
      rw [hk] at h
      rcases h with ⟨h, rfl, rfl⟩ | ⟨h, rfl, rfl⟩
      · exact fin_congr (memq_hi h)
      · exact fin_congr (memq_lo h)
theorem kind_fin {b : List Int} (h : fin q4 b = true) : (kindR b).1 = rd b 4 := by
  obtain ⟨ho, _, _, _, h17, _⟩ := fin_len h
  unfold kindR
  rw [if_neg (by omega), if_pos ho]
def finL (s : Lst) (r : List Ent × Int × Unit) : Lst × Int × Unit := if r.2.1 = 0 then ((s.1, s.2.1, s.2.2.1, s.2.2.2.1, s.2.2.2.2.1, r.1, ()), 0, ()) else (zL, r.2.1, ())
def kF (t : List Th) (z : Lst × Int × Unit) : Lst × Int × Unit := if kinds t = true then (zL, 3, ()) else z
theorem kF_cons (x : Th) (l : List Th) (z : Lst × Int × Unit) : kF (x :: l) z = if x.1 = 9 then kF l z else (zL, 3, ()) := by
  have hk : kinds (x :: l) = (!decide (x.1 = 9) || kinds l) := rfl
  unfold kF
  by_cases h : x.1 = 9
  · simp only [hk, h, decide_true, Bool.not_true, Bool.false_or, if_true]
  · simp only [hk, h, decide_false, Bool.not_false, Bool.true_or, if_true, if_false]
theorem takeLst_fin {b : List Int} {t : List Th} (hf : fin q4 b = true) (ht : takeT (b.drop (hdO (rd b 4)).toNat) = (t, 0, ())) : takeLst b = kF t (finL (lstOf b []) (ensOf t [])) := by
  unfold kF
  unfold takeLst finL
  rw [if_pos hf, ht, if_pos rfl]
  unfold entsR
  cases kinds t with
  | true => simp
  | false => simp [lstOf]
theorem rtakeList_eq (b : List Int) (hb : By b) (hl : b.length ≤ 1000000) : ref22_TakeList.p (b, ()) = some (takeLst b) := by
  unfold ref22_TakeList.p
  simp only [jn_eq]
  rw [rkind_eq b hb hl]
  simp only [bind_eq]
  have hop : ∀ one other : Int, (kindR b).1 > 25 ∧ one = 26 ∧ other = 27 ∨ ¬ (kindR b).1 > 25 ∧ one = 24 ∧ other = 25 → ref22_open.p (b, one, other, 8, ()) = some (if fin q4 b = true then (rd b 4, (takeT (b.drop (hdO (rd b 4)).toNat)).1, (takeT (b.drop (hdO (rd b 4)).toNat)).2.1, ()) else (0, [], err q4 b, ())) := by
    intro one other h0
    have h := ropen_eq one other 8 b hb hl (.inr ⟨by omega, by omega, rfl⟩)
    rw [show ((8 : Nat) : Int) = 8 from rfl] at h
    obtain ⟨e1, e2⟩ := open_q b one other h0
    rw [h, e1, e2]
  cases hf : fin q4 b with
  | false =>
    have he := err_ne q4 b
    have hR : takeLst b = (zL, err q4 b, ()) := by unfold takeLst; rw [if_neg (by simp [hf])]
    rw [hR]
    by_cases hc : (kindR b).1 > 25
    · rw [if_pos (by simpa using hc), hop 26 27 (.inl ⟨hc, rfl, rfl⟩), if_neg (by simp [hf])]
      simp only [bind_eq]
      rw [if_pos (by simpa using he)]
    · rw [if_neg (by simpa using hc), hop 24 25 (.inr ⟨hc, rfl, rfl⟩), if_neg (by simp [hf])]
      simp only [bind_eq]
      rw [if_pos (by simpa using he)]
  | true =>
    obtain ⟨hk, h17, hw, hp⟩ := fin_q4 (b := b) hf
    have hkf := kind_fin hf
    obtain ⟨t, e, hte⟩ : ∃ t e, takeT (b.drop (hdO (rd b 4)).toNat) = (t, e, ()) := ⟨_, _, rfl⟩
    have hT := takeT_by (b := b.drop (hdO (rd b 4)).toNat) (hb.drop _) (by rw [List.length_drop]; omega)
    rw [hte] at hT
    obtain ⟨hTl, hTb⟩ := hT
    simp only at hTl hTb
    have g : ∀ (c : List Int), By c → ∀ i m : Nat, m ≤ 8 → ref22_number.p (List.drop i (List.take (i + m) c), ()) = some (sl c i m, ()) := by
      intro c hc i m hm
      rw [rnumber_eq _ ((hc.take _).drop _) (by rw [List.length_drop, List.length_take]; omega), List.drop_take, show i + m - i = m by omega]
      rfl
    have g1 : ref22_number.p (List.drop 10 (List.take 16 b), ()) = some (sl b 10 6, ()) := g b hb 10 6 (by omega)
    have g2 : ref22_number.p (List.drop 17 (List.take 25 b), ()) = some (sl b 17 8, ()) := g b hb 17 8 (by omega)
    have g3 : ref22_number.p (List.drop 25 (List.take 33 b), ()) = some (sl b 25 8, ()) := g b hb 25 8 (by omega)
    have i10 : Int.toNat 10 = 10 := rfl
    have i16 : Int.toNat 16 = 16 := rfl
    have i17 : Int.toNat 17 = 17 := rfl
    have i25 : Int.toNat 25 = 25 := rfl
    have i33 : Int.toNat 33 = 33 := rfl
    have i2 : Int.toNat 2 = 2 := rfl
    have i0 : Int.toNat 0 = 0 := rfl
    have i14 : Int.toNat 14 = 14 := rfl
    have n10 : (0 : Int) ≤ 10 ∧ (10 : Int) ≤ 16 ∧ (16 : Int) ≤ (b.length : Int) := by omega
    have key : ∃ S : Lst, S = lstOf b [] := ⟨_, rfl⟩
    obtain ⟨S, hS⟩ := key
    have hSL : S.2.2.2.2.2.1 = [] := by rw [hS]; rfl
    by_cases hlt : rd b 4 < 26
    · obtain ⟨h33, hl33⟩ := hw hlt
      have n17 : (0 : Int) ≤ 17 ∧ (17 : Int) ≤ 25 ∧ (25 : Int) ≤ (b.length : Int) := by omega
      have n25 : (0 : Int) ≤ 25 ∧ (25 : Int) ≤ 33 ∧ (33 : Int) ≤ (b.length : Int) := by omega
      rw [if_neg (by rw [hkf]; simp; omega), hop 24 25 (.inr ⟨by omega, rfl, rfl⟩), if_pos hf, hte]
      simp only [bind_eq]
      by_cases he : e = 0
      case neg =>
        rw [if_pos (by simpa using he)]
        unfold takeLst
        rw [if_pos hf, hte, if_neg he]
      subst he
      simp only [decide_true, Bool.not_true, Bool.false_eq_true, if_false]
      rw [takeLst_fin hf hte, if_pos n10, i10, i16, g1]
      simp only [bind_eq, if_true]
      rw [if_pos n17, i17, i25, g2]
      simp only [bind_eq]
      rw [if_pos n25, i33, g3]
      simp only [bind_eq]
      have hS' : (IntKind.i64.wrap (IntKind.i64.wrap ((kindR b).1 - 24) + 1), true, sl b 10 6, sl b 17 8, sl b 25 8, ([] : List Ent), ()) = S := by
        rw [hS]
        unfold lstOf
        rw [if_pos hlt, if_pos hlt, hkf, w64 (x := rd b 4 - 24) (by omega), w64 (by omega), decide_eq_true hlt]
        congr 1
        omega
      rw [hS', ← hS]
      refine (iterK_fix (F := fun x => some (kF (t.drop x.1.toNat) (finL S (ensOf t [])))) (m := fun x => t.length - x.1.toNat) (I := fun x => 0 ≤ x.1 ∧ x.1 ≤ (t.length : Int)) ?_ _ _ ⟨by simp, by simp⟩ (by simp; omega)).trans (by simp)
      rintro ⟨i, _⟩ r ⟨h0, h1⟩ hr
      obtain ⟨j, rfl⟩ := Int.eq_ofNat_of_zero_le h0
      simp only [Int.toNat_natCast] at *
      by_cases hj : j < t.length
      · rw [if_pos (by simpa using hj), if_pos (by omega), drop_rdZ zTh t j hj, kF_cons]
        by_cases hk9 : (rdZ zTh t j).1 = 9
        · rw [if_neg (by simp [hk9]), w64 (by omega), hr _ ⟨by first | omega | (dsimp only; omega) | (simp only [List.length_cons, List.length_nil, List.length_append, List.length_drop, List.length_take, maxBytes]; omega) | (simp; omega), by first | omega | (dsimp only; omega) | (simp only [List.length_cons, List.length_nil, List.length_append, List.length_drop, List.length_take, maxBytes]; omega) | (simp; omega)⟩ (by first | omega | (dsimp only; omega) | (simp only [List.length_cons, List.length_nil, List.length_append, List.length_drop, List.length_take, maxBytes]; omega) | (simp; omega)), if_pos hk9]
          simp only [show ((j : Int) + 1).toNat = j + 1 by omega]
        · rw [if_pos (by simp [hk9]), if_neg hk9]
      · rw [if_neg (by simpa using hj), List.drop_eq_nil_of_le (by omega)]
        refine (iterK_fix (F := fun x => some (finL S (ensOf (t.drop x.1.toNat) x.2.1.2.2.2.2.2.1))) (m := fun x => t.length - x.1.toNat) (I := fun x => (0 ≤ x.1 ∧ x.1 ≤ (t.length : Int)) ∧ x.2.1.2.2.2.2.2.1.length ≤ 255 * x.1.toNat ∧ x.2.1 = (S.1, S.2.1, S.2.2.1, S.2.2.2.1, S.2.2.2.2.1, x.2.1.2.2.2.2.2.1, ())) ?_ _ _ ⟨by simp, by rw [hSL]; simp, by rfl⟩ (by simp; omega)).trans (by rw [hSL]; rfl)
        rintro ⟨i2, ⟨s1, s2, s3, s4, s5, acc, _⟩, _⟩ r2 ⟨⟨h20, h21⟩, h22, h23⟩ hr2
        simp only [Prod.mk.injEq, and_true] at h23
        obtain ⟨rfl, rfl, rfl, rfl, rfl⟩ := h23
        obtain ⟨j2, rfl⟩ := Int.eq_ofNat_of_zero_le h20
        simp only [Int.toNat_natCast] at *
        by_cases hj2 : j2 < t.length
        · obtain ⟨hB, hL⟩ := hTb _ (rdZ_mem zTh t j2 hj2)
          have hL2 : (rdZ ((0 : Int), ([] : List Int), ()) t j2).2.1.length ≤ 255 := hL
          have hd := enD_len _ (rdZ zTh t j2).2.1 (Nat.le_refl _)
          have hd2 : (enD (rdZ ((0 : Int), ([] : List Int), ()) t j2).2.1).length ≤ 255 := Nat.le_trans hd hL
          rw [if_pos (by simpa using hj2), if_pos (by omega), drop_rdZ zTh t j2 hj2]
          unfold ensOf
          have htm : Int.tmod ((((rdZ zTh t j2).2).1).length : Int) 16 = ((((rdZ zTh t j2).2.1).length % 16 : Nat) : Int) := by rw [tmod_pos (by omega)]; omega
          by_cases hm : (rdZ zTh t j2).2.1.length % 16 = 0
          · rw [if_neg (show ¬ (!decide (Int.tmod (((rdZ zTh t j2).2.1).length : Int) 16 = 0)) = true by rw [htm, hm]; simp), if_pos hm]
            refine (iterK_fix (F := fun x => r2 (IntKind.i64.wrap ((j2 : Int) + 1), (S.1, S.2.1, S.2.2.1, S.2.2.2.1, S.2.2.2.2.1, x.2.1.2.2.2.2.2.1 ++ enD x.1, ()), ())) (m := fun x => x.1.length) (I := fun x => By x.1 ∧ x.1.length % 16 = 0 ∧ x.2.1.2.2.2.2.2.1.length + x.1.length ≤ 255 * (j2 + 1) ∧ x.2.1 = (S.1, S.2.1, S.2.2.1, S.2.2.2.1, S.2.2.2.2.1, x.2.1.2.2.2.2.2.1, ())) ?_ _ _ ⟨hB, hm, by (dsimp only; omega), rfl⟩ (by dsimp only; omega)).trans ?_
            · rintro ⟨c, ⟨s1, s2, s3, s4, s5, a2, _⟩, _⟩ r3 ⟨q0, q1', q2', q3⟩ hr3
              simp only [Prod.mk.injEq, and_true] at q3
              obtain ⟨rfl, rfl, rfl, rfl, rfl⟩ := q3
              simp only at q0 q1' q2'
              by_cases hc : c.length = 0
              · have hcn : c = [] := List.eq_nil_of_length_eq_zero hc
                subst hcn
                rw [if_neg (by simp), enD_nil (by simp)]
                simp
              · have c16 : 16 ≤ c.length := by omega
                have v0 : (0 : Int) ≤ 0 ∧ (0 : Int) ≤ 2 ∧ (2 : Int) ≤ (c.length : Int) := by omega
                have v2 : (0 : Int) ≤ 2 ∧ (2 : Int) ≤ 10 ∧ (10 : Int) ≤ (c.length : Int) := by omega
                have v10 : (0 : Int) ≤ 10 ∧ (10 : Int) ≤ 14 ∧ (14 : Int) ≤ (c.length : Int) := by omega
                have v14 : (0 : Int) ≤ 14 ∧ (14 : Int) ≤ 16 ∧ (16 : Int) ≤ (c.length : Int) := by omega
                have v16 : (0 : Int) ≤ 16 ∧ (16 : Int) ≤ (c.length : Int) ∧ (c.length : Int) ≤ (c.length : Int) := by omega
                have e0 : ref22_number.p (List.drop 0 (List.take 2 c), ()) = some (sl c 0 2, ()) := g c q0 0 2 (by omega)
                have e2 : ref22_number.p (List.drop 2 (List.take 10 c), ()) = some (sl c 2 8, ()) := g c q0 2 8 (by omega)
                have e10 : ref22_number.p (List.drop 10 (List.take 14 c), ()) = some (sl c 10 4, ()) := g c q0 10 4 (by omega)
                have e14 : ref22_number.p (List.drop 14 (List.take 16 c), ()) = some (sl c 14 2, ()) := g c q0 14 2 (by omega)
                have r0 := sl_range q0 0 2
                have r10 := sl_range q0 10 4
                have r14 := sl_range q0 14 2
                rw [show (256 : Int) ^ 2 = 65536 by decide] at r0 r14
                rw [show (256 : Int) ^ 4 = 4294967296 by decide] at r10
                simp only [i0, i2, i10, i14, i16]
                rw [if_pos (by simp only [decide_eq_true_eq]; omega), if_pos v0, e0]
                simp only [bind_eq]
                rw [if_pos v2, e2]
                simp only [bind_eq]
                rw [if_pos v10, e10]
                simp only [bind_eq]
                rw [if_pos v14, e14]
                simp only [bind_eq, Int.toNat_natCast, List.take_length]
                rw [w64 (x := sl c 0 2) (by omega), w64 (x := sl c 14 2) (by omega), wu32, Int.emod_eq_of_lt (by omega) (by omega), if_pos (by simp only [List.length_cons, List.length_nil, maxBytes]; omega), if_pos v16, hr3 _ ⟨q0.drop _, by (simp only [List.length_drop]; omega), by (simp only [List.length_drop, List.length_append, List.length_cons, List.length_nil]; omega), rfl⟩ (by simp only [List.length_drop]; omega), enD_step c16]
                simp only [List.append_assoc, List.cons_append, List.nil_append]
                rfl
            · rw [w64 (by omega), hr2 _ ⟨by dsimp only; omega, by (dsimp only; simp only [List.length_append]; omega), rfl⟩ (by dsimp only; omega)]
              simp only [show ((j2 : Int) + 1).toNat = j2 + 1 by omega]
          · rw [if_pos (show (!decide (Int.tmod (((rdZ zTh t j2).2.1).length : Int) 16 = 0)) = true by rw [htm]; simp; omega), if_neg hm]
            rfl
        · rw [if_neg (by simpa using hj2), List.drop_eq_nil_of_le (by omega)]
          rfl
    · have hk26 : rd b 4 = 26 ∨ rd b 4 = 27 := by omega
      rw [if_pos (by rw [hkf]; exact decide_eq_true (show rd b 4 > 25 by omega)), hop 26 27 (.inl ⟨by omega, rfl, rfl⟩), if_pos hf, hte]
      simp only [bind_eq]
      by_cases he : e = 0
      case neg =>
        rw [if_pos (by simpa using he)]
        unfold takeLst
        rw [if_pos hf, hte, if_neg he]
      subst he
      simp only [decide_true, Bool.not_true, Bool.false_eq_true, if_false]
      rw [takeLst_fin hf hte, if_pos n10, i10, i16, g1]
      simp only [bind_eq]
      rw [if_neg (by simp)]
      have hS' : (IntKind.i64.wrap (IntKind.i64.wrap ((kindR b).1 - 26) + 1), decide ((26 : Int) = 24), sl b 10 6, (0 : Int), (0 : Int), ([] : List Ent), ()) = S := by
        rw [hS]
        unfold lstOf
        rw [if_neg hlt, if_neg hlt, hkf, w64 (x := rd b 4 - 26) (by omega), w64 (by omega), decide_eq_false hlt]
        congr 1
        omega
      rw [hS', ← hS]
      refine (iterK_fix (F := fun x => some (kF (t.drop x.1.toNat) (finL S (ensOf t [])))) (m := fun x => t.length - x.1.toNat) (I := fun x => 0 ≤ x.1 ∧ x.1 ≤ (t.length : Int)) ?_ _ _ ⟨by simp, by simp⟩ (by simp; omega)).trans (by simp)
      rintro ⟨i, _⟩ r ⟨h0, h1⟩ hr
      obtain ⟨j, rfl⟩ := Int.eq_ofNat_of_zero_le h0
      simp only [Int.toNat_natCast] at *
      by_cases hj : j < t.length
      · rw [if_pos (by simpa using hj), if_pos (by omega), drop_rdZ zTh t j hj, kF_cons]
        by_cases hk9 : (rdZ zTh t j).1 = 9
        · rw [if_neg (by simp [hk9]), w64 (by omega), hr _ ⟨by first | omega | (dsimp only; omega) | (simp only [List.length_cons, List.length_nil, List.length_append, List.length_drop, List.length_take, maxBytes]; omega) | (simp; omega), by first | omega | (dsimp only; omega) | (simp only [List.length_cons, List.length_nil, List.length_append, List.length_drop, List.length_take, maxBytes]; omega) | (simp; omega)⟩ (by first | omega | (dsimp only; omega) | (simp only [List.length_cons, List.length_nil, List.length_append, List.length_drop, List.length_take, maxBytes]; omega) | (simp; omega)), if_pos hk9]
          simp only [show ((j : Int) + 1).toNat = j + 1 by omega]
        · rw [if_pos (by simp [hk9]), if_neg hk9]
      · rw [if_neg (by simpa using hj), List.drop_eq_nil_of_le (by omega)]
        refine (iterK_fix (F := fun x => some (finL S (ensOf (t.drop x.1.toNat) x.2.1.2.2.2.2.2.1))) (m := fun x => t.length - x.1.toNat) (I := fun x => (0 ≤ x.1 ∧ x.1 ≤ (t.length : Int)) ∧ x.2.1.2.2.2.2.2.1.length ≤ 255 * x.1.toNat ∧ x.2.1 = (S.1, S.2.1, S.2.2.1, S.2.2.2.1, S.2.2.2.2.1, x.2.1.2.2.2.2.2.1, ())) ?_ _ _ ⟨by simp, by rw [hSL]; simp, by rfl⟩ (by simp; omega)).trans (by rw [hSL]; rfl)
        rintro ⟨i2, ⟨s1, s2, s3, s4, s5, acc, _⟩, _⟩ r2 ⟨⟨h20, h21⟩, h22, h23⟩ hr2
        simp only [Prod.mk.injEq, and_true] at h23
        obtain ⟨rfl, rfl, rfl, rfl, rfl⟩ := h23
        obtain ⟨j2, rfl⟩ := Int.eq_ofNat_of_zero_le h20
        simp only [Int.toNat_natCast] at *
        by_cases hj2 : j2 < t.length
        · obtain ⟨hB, hL⟩ := hTb _ (rdZ_mem zTh t j2 hj2)
          have hL2 : (rdZ ((0 : Int), ([] : List Int), ()) t j2).2.1.length ≤ 255 := hL
          have hd := enD_len _ (rdZ zTh t j2).2.1 (Nat.le_refl _)
          have hd2 : (enD (rdZ ((0 : Int), ([] : List Int), ()) t j2).2.1).length ≤ 255 := Nat.le_trans hd hL
          rw [if_pos (by simpa using hj2), if_pos (by omega), drop_rdZ zTh t j2 hj2]
          unfold ensOf
          have htm : Int.tmod ((((rdZ zTh t j2).2).1).length : Int) 16 = ((((rdZ zTh t j2).2.1).length % 16 : Nat) : Int) := by rw [tmod_pos (by omega)]; omega
          by_cases hm : (rdZ zTh t j2).2.1.length % 16 = 0
          · rw [if_neg (show ¬ (!decide (Int.tmod (((rdZ zTh t j2).2.1).length : Int) 16 = 0)) = true by rw [htm, hm]; simp), if_pos hm]
            refine (iterK_fix (F := fun x => r2 (IntKind.i64.wrap ((j2 : Int) + 1), (S.1, S.2.1, S.2.2.1, S.2.2.2.1, S.2.2.2.2.1, x.2.1.2.2.2.2.2.1 ++ enD x.1, ()), ())) (m := fun x => x.1.length) (I := fun x => By x.1 ∧ x.1.length % 16 = 0 ∧ x.2.1.2.2.2.2.2.1.length + x.1.length ≤ 255 * (j2 + 1) ∧ x.2.1 = (S.1, S.2.1, S.2.2.1, S.2.2.2.1, S.2.2.2.2.1, x.2.1.2.2.2.2.2.1, ())) ?_ _ _ ⟨hB, hm, by (dsimp only; omega), rfl⟩ (by dsimp only; omega)).trans ?_
            · rintro ⟨c, ⟨s1, s2, s3, s4, s5, a2, _⟩, _⟩ r3 ⟨q0, q1', q2', q3⟩ hr3
              simp only [Prod.mk.injEq, and_true] at q3
              obtain ⟨rfl, rfl, rfl, rfl, rfl⟩ := q3
              simp only at q0 q1' q2'
              by_cases hc : c.length = 0
              · have hcn : c = [] := List.eq_nil_of_length_eq_zero hc
                subst hcn
                rw [if_neg (by simp), enD_nil (by simp)]
                simp
              · have c16 : 16 ≤ c.length := by omega
                have v0 : (0 : Int) ≤ 0 ∧ (0 : Int) ≤ 2 ∧ (2 : Int) ≤ (c.length : Int) := by omega
                have v2 : (0 : Int) ≤ 2 ∧ (2 : Int) ≤ 10 ∧ (10 : Int) ≤ (c.length : Int) := by omega
                have v10 : (0 : Int) ≤ 10 ∧ (10 : Int) ≤ 14 ∧ (14 : Int) ≤ (c.length : Int) := by omega
                have v14 : (0 : Int) ≤ 14 ∧ (14 : Int) ≤ 16 ∧ (16 : Int) ≤ (c.length : Int) := by omega
                have v16 : (0 : Int) ≤ 16 ∧ (16 : Int) ≤ (c.length : Int) ∧ (c.length : Int) ≤ (c.length : Int) := by omega
                have e0 : ref22_number.p (List.drop 0 (List.take 2 c), ()) = some (sl c 0 2, ()) := g c q0 0 2 (by omega)
                have e2 : ref22_number.p (List.drop 2 (List.take 10 c), ()) = some (sl c 2 8, ()) := g c q0 2 8 (by omega)
                have e10 : ref22_number.p (List.drop 10 (List.take 14 c), ()) = some (sl c 10 4, ()) := g c q0 10 4 (by omega)
                have e14 : ref22_number.p (List.drop 14 (List.take 16 c), ()) = some (sl c 14 2, ()) := g c q0 14 2 (by omega)
                have r0 := sl_range q0 0 2
                have r10 := sl_range q0 10 4
                have r14 := sl_range q0 14 2
                rw [show (256 : Int) ^ 2 = 65536 by decide] at r0 r14
                rw [show (256 : Int) ^ 4 = 4294967296 by decide] at r10
                simp only [i0, i2, i10, i14, i16]
                rw [if_pos (by simp only [decide_eq_true_eq]; omega), if_pos v0, e0]
                simp only [bind_eq]
                rw [if_pos v2, e2]
                simp only [bind_eq]
                rw [if_pos v10, e10]
                simp only [bind_eq]
                rw [if_pos v14, e14]
                simp only [bind_eq, Int.toNat_natCast, List.take_length]
                rw [w64 (x := sl c 0 2) (by omega), w64 (x := sl c 14 2) (by omega), wu32, Int.emod_eq_of_lt (by omega) (by omega), if_pos (by simp only [List.length_cons, List.length_nil, maxBytes]; omega), if_pos v16, hr3 _ ⟨q0.drop _, by (simp only [List.length_drop]; omega), by (simp only [List.length_drop, List.length_append, List.length_cons, List.length_nil]; omega), rfl⟩ (by simp only [List.length_drop]; omega), enD_step c16]
                simp only [List.append_assoc, List.cons_append, List.nil_append]
                rfl
            · rw [w64 (by omega), hr2 _ ⟨by dsimp only; omega, by (dsimp only; simp only [List.length_append]; omega), rfl⟩ (by dsimp only; omega)]
              simp only [show ((j2 : Int) + 1).toNat = j2 + 1 by omega]
          · rw [if_pos (show (!decide (Int.tmod (((rdZ zTh t j2).2.1).length : Int) 16 = 0)) = true by rw [htm]; simp; omega), if_neg hm]
            rfl
        · rw [if_neg (by simpa using hj2), List.drop_eq_nil_of_le (by omega)]
          rfl
end Go.Proofs.Ytocloebloblodaa.F
