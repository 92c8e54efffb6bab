/- Rows of heads: as bytes and back; likewise of keys. -/
import Derived.Test.YtmmkdalbcfjogaaLR11
set_option maxRecDepth 100000
set_option linter.unusedVariables false
set_option linter.unusedSimpArgs false
open Go Go.Proofs.Fr
namespace Go.Proofs.Ytmmkdalbcfjogaa.F
theorem eta8 (h : Hd) : ((h.1, h.2.1, h.2.2.1, h.2.2.2.1, h.2.2.2.2.1, h.2.2.2.2.2.1, h.2.2.2.2.2.2.1, h.2.2.2.2.2.2.2.1, ()) : Hd) = h := rfl
theorem dIn (x l h : Int) : dbd_isIn.p (x, l, h, ()) = some (decide (l ≤ x ∧ x ≤ h), ()) := by
  unfold dbd_isIn.p
  by_cases h1 : l ≤ x <;> simp [jn_eq, h1]
def headR (h : Hd) : List Int × Int × Unit := if mayH h = true then (b4 (headW h), 0, ()) else ([], 1, ())
theorem headP_eq (h : Hd) (hu : HdOk h) : lsa_Head.p (h, ()) = some (headR h) := by
  unfold lsa_Head.p headR
  simp only [may_eq, bind_eq]
  cases hm : mayH h with
  | false => rfl
  | true => rw [raw_eq h hm hu]; rfl
theorem rheadP_eq (h : Hd) (hu : HdOk h) : ref11_Head.p (h, ()) = some (headR h) := by
  unfold ref11_Head.p headR
  simp only [rmay_eq, bind_eq]
  cases hm : mayH h with
  | false => rfl
  | true =>
    obtain ⟨r, hr, h1, h2⟩ := rraw_eq h hu
    rw [h1, h2 hm]; rfl
/-- Heads as bytes. -/
def headsB (l : List Hd) : List Int := l.flatMap fun h => b4 (headW h)
theorem headsB_cons (h : Hd) (l : List Hd) : headsB (h :: l) = b4 (headW h) ++ headsB l := by simp [headsB]
theorem headB_len (h : Hd) : (b4 (headW h)).length = 20 := by rw [b4_length]; rfl
theorem headsB_len (l : List Hd) : (headsB l).length = 20 * l.length := by
  induction l with
  | nil => rfl
  | cons h l ih => rw [headsB_cons, List.length_append, ih, headB_len, List.length_cons]; omega
theorem headsB_by (l : List Hd) : By (headsB l) := by
  intro x hx
  simp only [headsB, List.mem_flatMap] at hx
  obtain ⟨h, _, hh⟩ := hx
  exact b4_by _ x hh
def headsR (out : List Int) (l : List Hd) : List Int × Int × Unit := if l.all mayH = true then (out ++ headsB l, 0, ()) else ([], 1, ())
theorem heads_eq (out : List Int) (l : List Hd) (hu : ∀ h ∈ l, HdOk h) (ho : out.length ≤ 1000) (hl : l.length ≤ 1000000) : dbd_heads.p (out, l, ()) = some (headsR out l) := by
  unfold dbd_heads.p headsR
  simp only [jn_eq]
  refine (iterK_fix (F := fun x => some (if (l.drop x.2.1.toNat).all mayH = true then (x.1 ++ headsB (l.drop x.2.1.toNat), 0, ()) else ([], 1, ()))) (m := fun x => l.length - x.2.1.toNat) (I := fun x => (0 ≤ x.2.1 ∧ x.2.1 ≤ (l.length : Int)) ∧ x.1.length ≤ 1000 + 20 * x.2.1.toNat) ?_ _ _ ⟨by simp, by simpa using ho⟩ (by simp; omega)).trans rfl
  rintro ⟨acc, i, _⟩ r ⟨⟨h0, h1⟩, h2⟩ hr
  obtain ⟨j, rfl⟩ := Int.eq_ofNat_of_zero_le h0
  simp only [Int.toNat_natCast] at *
  by_cases hj : j < l.length
  · rw [if_pos (by simpa using hj), if_pos (by omega)]
    rw [drop_rdZ (0, 0, 0, 0, 0, 0, 0, 0, ()) l j hj]
    have hm := hu _ (rdZ_mem (0, 0, 0, 0, 0, 0, 0, 0, ()) l j hj)
    obtain ⟨h, hh⟩ : ∃ h, rdZ (0, 0, 0, 0, 0, 0, 0, 0, ()) l j = h := ⟨_, rfl⟩
    simp only [hh] at hm ⊢
    rw [headP_eq h hm, headsB_cons, List.all_cons]
    unfold headR
    cases hh : mayH h with
    | false => rfl
    | true =>
      simp only [bind_eq, if_true, decide_true, Bool.not_true, Bool.false_eq_true, if_false, Bool.true_and]
      have hb := headB_len h
      rw [if_pos (by simp only [hb, maxBytes]; omega), w64 (by omega), hr _ ⟨⟨by first | omega | (dsimp only; omega) | (simp only [List.length_cons, List.length_nil, List.length_append, List.length_drop, List.length_take, maxBytes]; omega) | (simp; omega), by first | omega | (dsimp only; omega) | (simp only [List.length_cons, List.length_nil, List.length_append, List.length_drop, List.length_take, maxBytes]; omega) | (simp; omega)⟩, by simp only [List.length_append, hb]; omega⟩ (by first | omega | (dsimp only; omega) | (simp only [List.length_cons, List.length_nil, List.length_append, List.length_drop, List.length_take, maxBytes]; omega) | (simp; omega))]
      simp only [show ((j : Int) + 1).toNat = j + 1 by omega, List.append_assoc]
  · rw [if_neg (by simpa using hj), List.drop_eq_nil_of_le (by omega)]
    simp [headsB]
theorem rheads_eq (l : List Hd) (hu : ∀ h ∈ l, HdOk h) (hl : l.length ≤ 1000000) : ref13_heads.p (l, ()) = some (if l.all mayH = true then (headsB l, true, ()) else ([], false, ())) := by
  unfold ref13_heads.p
  simp only [jn_eq]
  refine (iterK_fix (F := fun x => some (if (l.drop x.2.1.toNat).all mayH = true then (x.1 ++ headsB (l.drop x.2.1.toNat), true, ()) else ([], false, ()))) (m := fun x => l.length - x.2.1.toNat) (I := fun x => (0 ≤ x.2.1 ∧ x.2.1 ≤ (l.length : Int)) ∧ x.1.length ≤ 1000 + 20 * x.2.1.toNat) ?_ _ _ ⟨by simp, by simp⟩ (by simp; omega)).trans rfl
  rintro ⟨acc, i, _⟩ r ⟨⟨h0, h1⟩, h2⟩ hr
  obtain ⟨j, rfl⟩ := Int.eq_ofNat_of_zero_le h0
  simp only [Int.toNat_natCast] at *
  by_cases hj : j < l.length
  · rw [if_pos (by simpa using hj), if_pos (by omega)]
    rw [drop_rdZ (0, 0, 0, 0, 0, 0, 0, 0, ()) l j hj]
    have hm := hu _ (rdZ_mem (0, 0, 0, 0, 0, 0, 0, 0, ()) l j hj)
    obtain ⟨h, hh⟩ : ∃ h, rdZ (0, 0, 0, 0, 0, 0, 0, 0, ()) l j = h := ⟨_, rfl⟩
    simp only [hh] at hm ⊢
    rw [rheadP_eq h hm, headsB_cons, List.all_cons]
    unfold headR
    cases hh : mayH h with
    | false => rfl
    | true =>
      simp only [bind_eq, if_true, decide_true, Bool.not_true, Bool.false_eq_true, if_false, Bool.true_and]
      have hb := headB_len h
      rw [if_pos (by simp only [hb, maxBytes]; omega), w64 (by omega), hr _ ⟨⟨by first | omega | (dsimp only; omega) | (simp only [List.length_cons, List.length_nil, List.length_append, List.length_drop, List.length_take, maxBytes]; omega) | (simp; omega), by first | omega | (dsimp only; omega) | (simp only [List.length_cons, List.length_nil, List.length_append, List.length_drop, List.length_take, maxBytes]; omega) | (simp; omega)⟩, by simp only [List.length_append, hb]; omega⟩ (by first | omega | (dsimp only; omega) | (simp only [List.length_cons, List.length_nil, List.length_append, List.length_drop, List.length_take, maxBytes]; omega) | (simp; omega))]
      simp only [show ((j : Int) + 1).toNat = j + 1 by omega, List.append_assoc]
  · rw [if_neg (by simpa using hj), List.drop_eq_nil_of_le (by omega)]
    simp [headsB]
/-- Heads off bytes. -/
def hdsOf : Nat → List Int → List Hd
  | 0, _ => []
  | q + 1, b => hdOf (chunks 4 5 b) :: hdsOf q (b.drop 20)
theorem hdsOf_len (q : Nat) : ∀ b, (hdsOf q b).length = q := by
  induction q with
  | zero => intro b; rfl
  | succ q ih => intro b; simp [hdsOf, ih]
theorem hdsOf_ok (q : Nat) : ∀ b, By b → ∀ h ∈ hdsOf q b, HdOk h := by
  induction q with
  | zero => intro b _ h hh; cases hh
  | succ q ih =>
    intro b hb h hh
    rcases List.mem_cons.1 hh with rfl | hh
    · exact (headW_hdOf (chunks_length 4 5 b) (chunks_mem 4 5 b hb)).2
    · exact ih _ (hb.drop _) _ hh
theorem hdsOf_headsB (l : List Hd) (hm : l.all mayH = true) (hu : ∀ h ∈ l, HdOk h) : hdsOf l.length (headsB l) = l := by
  induction l with
  | nil => rfl
  | cons h l ih =>
    rw [List.all_cons, Bool.and_eq_true] at hm
    have hb := headB_len h
    have hch : chunks 4 5 (b4 (headW h) ++ headsB l) = headW h := by
      rw [← chunks_take 5 _ 20 (by omega), List.take_left' hb]
      exact chunks_b4 (headW h) (headW_u32 hm.1 (hu h (.head _)))
    show hdOf (chunks 4 5 (headsB (h :: l))) :: hdsOf l.length ((headsB (h :: l)).drop 20) = h :: l
    rw [headsB_cons, hch, hdOf_headW hm.1, List.drop_left' hb, ih hm.2 fun x hx => hu x (.tail _ hx)]
def takeHeadsR (b : List Int) (lo hi : Int) : List Hd × Int × Unit :=
  if ¬ b.length % 20 = 0 then ([], 2, ()) else if (hdsOf (b.length / 20) b).all mayH = true ∧ lo ≤ ((b.length / 20 : Nat) : Int) ∧ ((b.length / 20 : Nat) : Int) ≤ hi then (hdsOf (b.length / 20) b, 0, ()) else ([], 3, ())
theorem readH_long {b : List Int} (h : 20 ≤ b.length) : readH b = if mayH (hdOf (chunks 4 5 b)) = true then (hdOf (chunks 4 5 b), b.drop 20, 0, ()) else (noH, [], 3, ()) := by
  unfold readH; rw [if_neg (by omega)]
theorem takeHeads_eq (b : List Int) (lo hi : Int) (hb : By b) (hl : b.length ≤ 1000000) : dbd_takeHeads.p (b, lo, hi, ()) = some (takeHeadsR b lo hi) := by
  unfold dbd_takeHeads.p takeHeadsR
  simp only [jn_eq]
  rw [tmod_pos (by omega)]
  by_cases h20 : b.length % 20 = 0
  · rw [if_neg (by simp; omega), if_neg (by omega)]
    refine (iterK_fix (F := fun x => some (if (hdsOf (x.1.length / 20) x.1).all mayH = true ∧ lo ≤ ((x.2.1.length + x.1.length / 20 : Nat) : Int) ∧ ((x.2.1.length + x.1.length / 20 : Nat) : Int) ≤ hi then (x.2.1 ++ hdsOf (x.1.length / 20) x.1, 0, ()) else ([], 3, ()))) (m := fun x => x.1.length) (I := fun x => By x.1 ∧ x.1.length % 20 = 0 ∧ x.2.1.length + x.1.length ≤ 1000000) ?_ _ _ ⟨hb, h20, by simpa using hl⟩ (by simp; omega)).trans (by simp only [List.length_nil, Nat.zero_add, List.nil_append])
    rintro ⟨k, acc, _⟩ r ⟨hk, hk2, hk3⟩ hr
    simp only at hk hk2 hk3 ⊢
    by_cases h0 : k.length = 0
    · have hk0 : k = [] := List.eq_nil_of_length_eq_zero h0
      subst hk0
      simp only [dIn, bind_eq]
      by_cases hc : lo ≤ (acc.length : Int) ∧ (acc.length : Int) ≤ hi
      · simp [hdsOf, hc]
      · rw [if_neg (by simp), if_pos (by simp only [hc, decide_false, Bool.not_false]), if_neg (fun q => hc (by simpa using q.2))]
    · rw [if_pos (by simp only [decide_eq_true_eq]; omega), readH_eq k hk (by omega), readH_long (by omega)]
      have hq : k.length / 20 = (k.drop 20).length / 20 + 1 := by rw [List.length_drop]; omega
      rw [hq]
      show _ = some (if (mayH (hdOf (chunks 4 5 k)) && (hdsOf ((k.drop 20).length / 20) (k.drop 20)).all mayH) = true ∧ _ ∧ _ then (acc ++ (hdOf (chunks 4 5 k) :: hdsOf ((k.drop 20).length / 20) (k.drop 20)), 0, ()) else ([], 3, ()))
      by_cases hm : mayH (hdOf (chunks 4 5 k)) = true
      case neg => simp [hm]
      case pos =>
        simp only [hm, bind_eq, if_true, decide_true, Bool.not_true, Bool.false_eq_true, if_false, Bool.true_and]
        rw [if_pos (by simp only [List.length_cons, List.length_nil, maxBytes]; omega), hr _ ⟨hk.drop _, by simp only [List.length_drop]; omega, by simp only [List.length_append, List.length_cons, List.length_nil, List.length_drop]; omega⟩ (by simp only [List.length_drop]; omega)]
        simp only [List.length_append, List.length_cons, List.length_nil, List.append_assoc, List.cons_append, List.nil_append]
        rw [show acc.length + (0 + 1) + (k.drop 20).length / 20 = acc.length + ((k.drop 20).length / 20 + 1) by omega]
  · rw [if_pos (by simp; omega), if_pos (by omega)]
theorem rreadHeads_eq (b : List Int) (hi : Int) (hb : By b) (hl : b.length ≤ 1000000) : ref13_readHeads.p (b, hi, ()) = some (takeHeadsR b 0 hi) := by
  unfold ref13_readHeads.p takeHeadsR
  simp only [jn_eq]
  rw [tmod_pos (by omega)]
  by_cases h20 : b.length % 20 = 0
  · rw [if_neg (by simp; omega), if_neg (by omega)]
    refine (iterK_fix (F := fun x => some (if (hdsOf (x.1.length / 20) x.1).all mayH = true ∧ 0 ≤ ((x.2.1.length + x.1.length / 20 : Nat) : Int) ∧ ((x.2.1.length + x.1.length / 20 : Nat) : Int) ≤ hi then (x.2.1 ++ hdsOf (x.1.length / 20) x.1, 0, ()) else ([], 3, ()))) (m := fun x => x.1.length) (I := fun x => By x.1 ∧ x.1.length % 20 = 0 ∧ x.2.1.length + x.1.length ≤ 1000000) ?_ _ _ ⟨hb, h20, by simpa using hl⟩ (by simp; omega)).trans (by simp only [List.length_nil, Nat.zero_add, List.nil_append])
    rintro ⟨k, acc, _⟩ r ⟨hk, hk2, hk3⟩ hr
    simp only at hk hk2 hk3 ⊢
    by_cases h0 : k.length = 0
    · have hk0 : k = [] := List.eq_nil_of_length_eq_zero h0
      subst hk0
      by_cases hc : (acc.length : Int) > hi
      · simp [hdsOf, hc]
      · have : (acc.length : Int) ≤ hi := by omega
        simp [hdsOf, hc, this]
    · rw [if_pos (by simp only [decide_eq_true_eq]; omega), rreadH_eq k hk (by omega), readH_long (by omega)]
      have hq : k.length / 20 = (k.drop 20).length / 20 + 1 := by rw [List.length_drop]; omega
      rw [hq]
      show _ = some (if (mayH (hdOf (chunks 4 5 k)) && (hdsOf ((k.drop 20).length / 20) (k.drop 20)).all mayH) = true ∧ _ ∧ _ then (acc ++ (hdOf (chunks 4 5 k) :: hdsOf ((k.drop 20).length / 20) (k.drop 20)), 0, ()) else ([], 3, ()))
      by_cases hm : mayH (hdOf (chunks 4 5 k)) = true
      case neg => simp [hm]
      case pos =>
        simp only [hm, bind_eq, if_true, decide_true, Bool.not_true, Bool.false_eq_true, if_false, Bool.true_and]
        rw [if_pos (by simp only [List.length_cons, List.length_nil, maxBytes]; omega), hr _ ⟨hk.drop _, by simp only [List.length_drop]; omega, by simp only [List.length_append, List.length_cons, List.length_nil, List.length_drop]; omega⟩ (by simp only [List.length_drop]; omega)]
        simp only [List.length_append, List.length_cons, List.length_nil, List.append_assoc, List.cons_append, List.nil_append]
        rw [show acc.length + (0 + 1) + (k.drop 20).length / 20 = acc.length + ((k.drop 20).length / 20 + 1) by omega]
  · rw [if_pos (by simp; omega), if_pos (by omega)]
theorem takeHeadsR_of (l : List Hd) (hm : l.all mayH = true) (hu : ∀ h ∈ l, HdOk h) (lo hi : Int) (h1 : lo ≤ l.length) (h2 : l.length ≤ hi) : takeHeadsR (headsB l) lo hi = (l, 0, ()) := by
  unfold takeHeadsR
  have hq : (headsB l).length / 20 = l.length := by rw [headsB_len]; omega
  rw [if_neg (by rw [headsB_len]; omega), hq, hdsOf_headsB l hm hu, if_pos ⟨hm, h1, h2⟩]
theorem takeHeadsR_len (b : List Int) (lo hi : Int) : (takeHeadsR b lo hi).1.length ≤ b.length := by
  unfold takeHeadsR
  split
  · exact Nat.zero_le _
  · split
    · simp only [hdsOf_len]; omega
    · exact Nat.zero_le _
theorem Heads_same (l : List Hd) (hl : l.length ≤ 1000000) : ref13_Heads.p (l, l, ()) = some (true, ()) := by
  unfold ref13_Heads.p
  simp only [jn_eq, decide_true, Bool.not_true, Bool.false_eq_true, if_false]
  refine iterK_fix (F := fun x => some (true, ())) (m := fun x => l.length - x.1.toNat) (I := fun x => 0 ≤ x.1 ∧ x.1 ≤ (l.length : Int)) ?_ _ _ (by simp) (by simp; omega)
  rintro ⟨i, _⟩ r ⟨h0, h1⟩ hr
  obtain ⟨j, rfl⟩ := Int.eq_ofNat_of_zero_le h0
  simp only [Int.toNat_natCast] at *
  by_cases hj : j < l.length
  · rw [if_pos (by simpa using hj), if_pos (by omega), if_pos (by omega), if_neg (by simp), w64 (by omega), hr _ ⟨by first | omega | (dsimp only; omega) | (simp only [List.length_cons, List.length_nil, List.length_append, List.length_drop, List.length_take, maxBytes]; omega) | (simp; omega), by first | omega | (dsimp only; omega) | (simp only [List.length_cons, List.length_nil, List.length_append, List.length_drop, List.length_take, maxBytes]; omega) | (simp; omega)⟩ (by first | omega | (dsimp only; omega) | (simp only [List.length_cons, List.length_nil, List.length_append, List.length_drop, List.length_take, maxBytes]; omega) | (simp; omega))]
  · rw [if_neg (by simpa using hj)]
end Go.Proofs.Ytmmkdalbcfjogaa.F
