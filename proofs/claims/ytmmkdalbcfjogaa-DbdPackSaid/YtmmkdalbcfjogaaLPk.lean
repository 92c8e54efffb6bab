/- Packing: as many updates as are needed; the law. -/
import Derived.Test.YtmmkdalbcfjogaaLAds
set_option maxRecDepth 100000
set_option linter.unusedVariables false
set_option linter.unusedSimpArgs false
open Go Go.Proofs.Fr
namespace Go.Proofs.Ytmmkdalbcfjogaa.F
def packF : List Ad → List (List Ad) → List Ad → Int → Option (List (List Ad))
  | [], out, row, _ => some (if row.length > 0 then out ++ [row] else out)
  | a :: l, out, row, room => if adW a = true then (if row.length > 0 ∧ (lenOf a.1 > room ∨ row.length = 50) then packF l (out ++ [row]) [a] (1472 - lenOf a.1) else packF l out (row ++ [a]) (room - lenOf a.1)) else none
def packG (o : Option (List (List Ad))) : List (List Ad) × Int × Unit := match o with
  | some o => (o, 0, ())
  | none => ([], 1, ())
theorem adW_len {a : Ad} (h : adW a = true) : lenOf a.1 = 20 + (a.2.1.length : Int) ∧ 20 ≤ lenOf a.1 ∧ lenOf a.1 ≤ 1400 := by
  obtain ⟨h1, h2, _⟩ := whole_len h
  have h3 := ((mayH_iff _).1 h1).2.2.2.2
  exact ⟨h2, h3.1, h3.2⟩
theorem pack_eq (l : List Ad) (hu : ∀ a ∈ l, AdOk a) (hl : ∀ a ∈ l, a.2.1.length ≤ 1600) (hn : l.length ≤ 60) : dbd_Pack.p (l, ()) = some (packG (packF l [] [] 1472)) := by
  unfold dbd_Pack.p
  simp only [jn_eq]
  refine (iterK_fix (F := fun x => some (packG (packF (l.drop x.2.2.2.1.toNat) x.1 x.2.1 x.2.2.1))) (m := fun x => l.length - x.2.2.2.1.toNat) (I := fun x => (0 ≤ x.2.2.2.1 ∧ x.2.2.2.1 ≤ (l.length : Int)) ∧ (0 ≤ x.2.2.1 ∧ x.2.2.1 ≤ 1472 ∧ (x.2.1.length = 0 → x.2.2.1 = 1472)) ∧ x.1.length ≤ x.2.2.2.1.toNat ∧ x.2.1.length ≤ x.2.2.2.1.toNat) ?_ _ _ ⟨by simp, by simp, by simp, by simp⟩ (by simp; omega)).trans rfl
  rintro ⟨out, row, room, i, _⟩ r ⟨⟨h0, h1⟩, ⟨h2, h3, h3'⟩, h4, h5⟩ hr
  obtain ⟨j, rfl⟩ := Int.eq_ofNat_of_zero_le h0
  simp only [Int.toNat_natCast] at *
  by_cases hj : j < l.length
  · rw [if_pos (by simpa using hj), if_pos (by omega), drop_rdZ zAd l j hj]
    have hm := hu _ (rdZ_mem zAd l j hj)
    have hml := hl _ (rdZ_mem zAd l j hj)
    obtain ⟨a, ha⟩ : ∃ a, rdZ zAd l j = a := ⟨_, rfl⟩
    simp only [ha] at hm hml ⊢
    rw [whole_eq a.1 a.2.1 hm.1 hm.2 (by omega)]
    simp only [bind_eq]
    change (if (!adW a) = true then _ else _) = _
    unfold packF
    cases hw : adW a with
    | false => rfl
    | true =>
      obtain ⟨l1, l2, l3⟩ := adW_len hw
      have e1 : ((a.1, a.2.1, ()) : Ad) = a := rfl
      have e2 : a.1.2.2.2.2.2.2.2.1 = lenOf a.1 := rfl
      have e3 : ∀ x : Int, 0 ≤ x ∧ x ≤ 1472 → IntKind.i64.wrap (x - lenOf a.1) = x - lenOf a.1 := fun x hx => w64 (by omega)
      have e4 : ((j : Int) + 1).toNat = j + 1 := by omega
      simp only [Bool.not_true, Bool.false_eq_true, if_false, if_true, e2]
      rw [w64 (x := (j : Int) + 1) (by omega), e3 1472 (by omega), e3 room (by omega)]
      by_cases c0 : row.length > 0
      · by_cases c1 : lenOf a.1 > room
        · rw [if_pos (by simp only [decide_eq_true_eq]; omega), if_pos (by simpa using c1), if_pos (by simp only [List.length_cons, List.length_nil, maxBytes]; omega), if_pos (by simp only [List.length_cons, List.length_nil, maxBytes]; omega), if_pos ⟨c0, .inl c1⟩, hr _ ⟨⟨by first | omega | (dsimp only; omega) | (simp only [List.length_cons, List.length_nil, List.length_append, List.length_drop, List.length_take, maxBytes]; omega) | (simp; omega), by first | omega | (dsimp only; omega) | (simp only [List.length_cons, List.length_nil, List.length_append, List.length_drop, List.length_take, maxBytes]; omega) | (simp; omega)⟩, ⟨by first | omega | (dsimp only; omega) | (simp only [List.length_cons, List.length_nil, List.length_append, List.length_drop, List.length_take, maxBytes]; omega) | (simp; omega), by first | omega | (dsimp only; omega) | (simp only [List.length_cons, List.length_nil, List.length_append, List.length_drop, List.length_take, maxBytes]; omega) | (simp; omega), by simp⟩, by simp only [List.length_append, List.length_cons, List.length_nil]; omega, by simp only [List.length_append, List.length_cons, List.length_nil]; omega⟩ (by first | omega | (dsimp only; omega) | (simp only [List.length_cons, List.length_nil, List.length_append, List.length_drop, List.length_take, maxBytes]; omega) | (simp; omega))]
          simp only [e1, e4, List.nil_append]
        · by_cases c2 : row.length = 50
          · rw [if_pos (by simp only [decide_eq_true_eq]; omega), if_neg (by simpa using c1), if_pos (by simp only [decide_eq_true_eq]; omega), if_pos (by simp only [List.length_cons, List.length_nil, maxBytes]; omega), if_pos (by simp only [List.length_cons, List.length_nil, maxBytes]; omega), if_pos ⟨c0, .inr c2⟩, hr _ ⟨⟨by first | omega | (dsimp only; omega) | (simp only [List.length_cons, List.length_nil, List.length_append, List.length_drop, List.length_take, maxBytes]; omega) | (simp; omega), by first | omega | (dsimp only; omega) | (simp only [List.length_cons, List.length_nil, List.length_append, List.length_drop, List.length_take, maxBytes]; omega) | (simp; omega)⟩, ⟨by first | omega | (dsimp only; omega) | (simp only [List.length_cons, List.length_nil, List.length_append, List.length_drop, List.length_take, maxBytes]; omega) | (simp; omega), by first | omega | (dsimp only; omega) | (simp only [List.length_cons, List.length_nil, List.length_append, List.length_drop, List.length_take, maxBytes]; omega) | (simp; omega), by simp⟩, by simp only [List.length_append, List.length_cons, List.length_nil]; omega, by simp only [List.length_append, List.length_cons, List.length_nil]; omega⟩ (by first | omega | (dsimp only; omega) | (simp only [List.length_cons, List.length_nil, List.length_append, List.length_drop, List.length_take, maxBytes]; omega) | (simp; omega))]
            simp only [e1, e4, List.nil_append]
          · rw [if_pos (by simp only [decide_eq_true_eq]; omega), if_neg (by simpa using c1), if_neg (by simp only [decide_eq_true_eq]; omega), if_pos (by simp only [List.length_cons, List.length_nil, maxBytes]; omega), if_neg (fun q => q.2.elim c1 c2), hr _ ⟨⟨by first | omega | (dsimp only; omega) | (simp only [List.length_cons, List.length_nil, List.length_append, List.length_drop, List.length_take, maxBytes]; omega) | (simp; omega), by first | omega | (dsimp only; omega) | (simp only [List.length_cons, List.length_nil, List.length_append, List.length_drop, List.length_take, maxBytes]; omega) | (simp; omega)⟩, ⟨by first | omega | (dsimp only; omega) | (simp only [List.length_cons, List.length_nil, List.length_append, List.length_drop, List.length_take, maxBytes]; omega) | (simp; omega), by first | omega | (dsimp only; omega) | (simp only [List.length_cons, List.length_nil, List.length_append, List.length_drop, List.length_take, maxBytes]; omega) | (simp; omega), by simp⟩, by first | omega | (dsimp only; omega) | (simp only [List.length_cons, List.length_nil, List.length_append, List.length_drop, List.length_take, maxBytes]; omega) | (simp; omega), by simp only [List.length_append, List.length_cons, List.length_nil]; omega⟩ (by first | omega | (dsimp only; omega) | (simp only [List.length_cons, List.length_nil, List.length_append, List.length_drop, List.length_take, maxBytes]; omega) | (simp; omega))]
            simp only [e1, e4]
      · have hroom := h3' (by omega)
        rw [if_neg (by simp only [decide_eq_true_eq]; omega), if_pos (by simp only [List.length_cons, List.length_nil, maxBytes]; omega), if_neg (fun q => c0 q.1), hr _ ⟨⟨by first | omega | (dsimp only; omega) | (simp only [List.length_cons, List.length_nil, List.length_append, List.length_drop, List.length_take, maxBytes]; omega) | (simp; omega), by first | omega | (dsimp only; omega) | (simp only [List.length_cons, List.length_nil, List.length_append, List.length_drop, List.length_take, maxBytes]; omega) | (simp; omega)⟩, ⟨by first | omega | (dsimp only; omega) | (simp only [List.length_cons, List.length_nil, List.length_append, List.length_drop, List.length_take, maxBytes]; omega) | (simp; omega), by first | omega | (dsimp only; omega) | (simp only [List.length_cons, List.length_nil, List.length_append, List.length_drop, List.length_take, maxBytes]; omega) | (simp; omega), by simp⟩, by first | omega | (dsimp only; omega) | (simp only [List.length_cons, List.length_nil, List.length_append, List.length_drop, List.length_take, maxBytes]; omega) | (simp; omega), by simp only [List.length_append, List.length_cons, List.length_nil]; omega⟩ (by first | omega | (dsimp only; omega) | (simp only [List.length_cons, List.length_nil, List.length_append, List.length_drop, List.length_take, maxBytes]; omega) | (simp; omega))]
        simp only [e1, e4]
  · rw [if_neg (by simpa using hj), List.drop_eq_nil_of_le (by omega)]
    unfold packF packG
    by_cases c0 : row.length > 0
    · rw [if_pos (by simp only [decide_eq_true_eq]; omega), if_pos (by simp only [List.length_cons, List.length_nil, maxBytes]; omega), if_pos c0]
    · rw [if_neg (by simp only [decide_eq_true_eq]; omega), if_neg c0]
theorem drop_take_snoc (l : List Ad) (f j : Nat) (h : f ≤ j) (hj : j < l.length) : (l.take j).drop f ++ [rdZ zAd l j] = (l.take (j + 1)).drop f := by
  rw [rdZ_get zAd l j hj, List.take_succ_eq_append_getElem hj, List.drop_append_of_le_length (by rw [List.length_take]; omega)]
theorem rpack_eq (l : List Ad) (hu : ∀ a ∈ l, AdOk a) (hl : ∀ a ∈ l, a.2.1.length ≤ 1600) (hn : l.length ≤ 60) : ref13_Pack.p (l, ()) = some (packG (packF l [] [] 1472)) := by
  unfold ref13_Pack.p
  simp only [jn_eq]
  refine (iterK_fix (F := fun x => some (packG (packF (l.drop x.2.2.2.1.toNat) x.1 ((l.take x.2.2.2.1.toNat).drop x.2.1.toNat) (1472 - x.2.2.1)))) (m := fun x => l.length - x.2.2.2.1.toNat) (I := fun x => (0 ≤ x.2.2.2.1 ∧ x.2.2.2.1 ≤ (l.length : Int)) ∧ (0 ≤ x.2.2.1 ∧ x.2.2.1 ≤ 1472 ∧ (x.2.1 = x.2.2.2.1 → x.2.2.1 = 0)) ∧ x.1.length ≤ x.2.2.2.1.toNat ∧ 0 ≤ x.2.1 ∧ x.2.1 ≤ x.2.2.2.1) ?_ _ _ ⟨by simp, by simp, by simp, by simp⟩ (by simp; omega)).trans (by simp only [Int.toNat_zero, List.drop_zero, List.take_zero, Int.sub_zero])
  rintro ⟨out, fr, n, i, _⟩ r ⟨⟨h0, h1⟩, ⟨h2, h3, h3'⟩, h4, h5, h6⟩ hr
  obtain ⟨j, rfl⟩ := Int.eq_ofNat_of_zero_le h0
  obtain ⟨f, rfl⟩ := Int.eq_ofNat_of_zero_le h5
  simp only [Int.toNat_natCast] at *
  by_cases hj : j < l.length
  · have hbnd : (0 : Int) ≤ j ∧ (j : Int) < (l.length : Int) := by omega
    have hsn := drop_take_snoc l f j (by omega) hj
    have hrl : ((l.take j).drop f).length = j - f := by rw [List.length_drop, List.length_take]; omega
    have hs1 : (l.take (j + 1)).drop j = [rdZ zAd l j] := by
      rw [← drop_take_snoc l j j (by omega) hj, List.drop_eq_nil_of_le (by rw [List.length_take]; omega)]
      rfl
    rw [if_pos (by simpa using hj), drop_rdZ zAd l j hj]
    have hm := hu _ (rdZ_mem zAd l j hj)
    have hml := hl _ (rdZ_mem zAd l j hj)
    obtain ⟨a, ha⟩ : ∃ a, rdZ zAd l j = a := ⟨_, rfl⟩
    simp only [ha] at hm hml hsn hs1 ⊢
    simp only [hbnd, and_self, if_true]
    rw [rwhole_eq a.1 a.2.1 hm.1 hm.2 (by omega)]
    simp only [bind_eq]
    change (if (!adW a) = true then _ else _) = _
    unfold packF
    cases hw : adW a with
    | false => rfl
    | true =>
      obtain ⟨l1, l2, l3⟩ := adW_len hw
      have e2 : a.1.2.2.2.2.2.2.2.1 = lenOf a.1 := rfl
      have e3 : ∀ x : Int, 0 ≤ x ∧ x ≤ 1472 → IntKind.i64.wrap (x + lenOf a.1) = x + lenOf a.1 := fun x hx => w64 (by omega)
      have e4 : ((j : Int) + 1).toNat = j + 1 := by omega
      simp only [Bool.not_true, Bool.false_eq_true, if_false, if_true, e2]
      rw [w64 (x := (j : Int) + 1) (by omega), w64 (x := (j : Int) - f) (by omega), e3 n (by omega), e3 0 (by omega)]
      have hcut : (0 : Int) ≤ f ∧ (f : Int) ≤ j ∧ (j : Int) ≤ (l.length : Int) := by omega
      have hout : out.length + ([(l.take j).drop f] : List (List Ad)).length ≤ maxBytes / 24 := by simp only [List.length_cons, List.length_nil, maxBytes]; omega
      by_cases c0 : (j : Int) > f
      · have c0' : ((l.take j).drop f).length > 0 := by omega
        by_cases c1 : n + lenOf a.1 > 1472
        · rw [if_pos (by simpa using c0), if_pos (by simpa using c1)]
          simp only [hcut, and_self, if_true]
          rw [if_pos hout, if_pos ⟨c0', .inl (by omega)⟩, hr _ ⟨⟨by first | omega | (dsimp only; omega) | (simp only [List.length_cons, List.length_nil, List.length_append, List.length_drop, List.length_take, maxBytes]; omega) | (simp; omega), by first | omega | (dsimp only; omega) | (simp only [List.length_cons, List.length_nil, List.length_append, List.length_drop, List.length_take, maxBytes]; omega) | (simp; omega)⟩, ⟨by first | omega | (dsimp only; omega) | (simp only [List.length_cons, List.length_nil, List.length_append, List.length_drop, List.length_take, maxBytes]; omega) | (simp; omega), by first | omega | (dsimp only; omega) | (simp only [List.length_cons, List.length_nil, List.length_append, List.length_drop, List.length_take, maxBytes]; omega) | (simp; omega), by first | omega | (dsimp only; omega) | (simp only [List.length_cons, List.length_nil, List.length_append, List.length_drop, List.length_take, maxBytes]; omega) | (simp; omega)⟩, by simp only [List.length_append, List.length_cons, List.length_nil]; omega, by first | omega | (dsimp only; omega) | (simp only [List.length_cons, List.length_nil, List.length_append, List.length_drop, List.length_take, maxBytes]; omega) | (simp; omega), by first | omega | (dsimp only; omega) | (simp only [List.length_cons, List.length_nil, List.length_append, List.length_drop, List.length_take, maxBytes]; omega) | (simp; omega)⟩ (by first | omega | (dsimp only; omega) | (simp only [List.length_cons, List.length_nil, List.length_append, List.length_drop, List.length_take, maxBytes]; omega) | (simp; omega))]
          simp only [Int.toNat_natCast, e4, hs1, show (1472 : Int) - (0 + lenOf a.1) = 1472 - lenOf a.1 by omega]
        · by_cases c2 : (j : Int) - f = 50
          · rw [if_pos (by simpa using c0), if_neg (by simpa using c1), if_pos (by simpa using c2)]
            simp only [hcut, and_self, if_true]
            rw [if_pos hout, if_pos ⟨c0', .inr (by omega)⟩, hr _ ⟨⟨by first | omega | (dsimp only; omega) | (simp only [List.length_cons, List.length_nil, List.length_append, List.length_drop, List.length_take, maxBytes]; omega) | (simp; omega), by first | omega | (dsimp only; omega) | (simp only [List.length_cons, List.length_nil, List.length_append, List.length_drop, List.length_take, maxBytes]; omega) | (simp; omega)⟩, ⟨by first | omega | (dsimp only; omega) | (simp only [List.length_cons, List.length_nil, List.length_append, List.length_drop, List.length_take, maxBytes]; omega) | (simp; omega), by first | omega | (dsimp only; omega) | (simp only [List.length_cons, List.length_nil, List.length_append, List.length_drop, List.length_take, maxBytes]; omega) | (simp; omega), by first | omega | (dsimp only; omega) | (simp only [List.length_cons, List.length_nil, List.length_append, List.length_drop, List.length_take, maxBytes]; omega) | (simp; omega)⟩, by simp only [List.length_append, List.length_cons, List.length_nil]; omega, by first | omega | (dsimp only; omega) | (simp only [List.length_cons, List.length_nil, List.length_append, List.length_drop, List.length_take, maxBytes]; omega) | (simp; omega), by first | omega | (dsimp only; omega) | (simp only [List.length_cons, List.length_nil, List.length_append, List.length_drop, List.length_take, maxBytes]; omega) | (simp; omega)⟩ (by first | omega | (dsimp only; omega) | (simp only [List.length_cons, List.length_nil, List.length_append, List.length_drop, List.length_take, maxBytes]; omega) | (simp; omega))]
            simp only [Int.toNat_natCast, e4, hs1, show (1472 : Int) - (0 + lenOf a.1) = 1472 - lenOf a.1 by omega]
          · rw [if_pos (by simpa using c0), if_neg (by simpa using c1), if_neg (by simpa using c2), if_neg (fun q => q.2.elim (by omega) (by omega)), hr _ ⟨⟨by first | omega | (dsimp only; omega) | (simp only [List.length_cons, List.length_nil, List.length_append, List.length_drop, List.length_take, maxBytes]; omega) | (simp; omega), by first | omega | (dsimp only; omega) | (simp only [List.length_cons, List.length_nil, List.length_append, List.length_drop, List.length_take, maxBytes]; omega) | (simp; omega)⟩, ⟨by first | omega | (dsimp only; omega) | (simp only [List.length_cons, List.length_nil, List.length_append, List.length_drop, List.length_take, maxBytes]; omega) | (simp; omega), by first | omega | (dsimp only; omega) | (simp only [List.length_cons, List.length_nil, List.length_append, List.length_drop, List.length_take, maxBytes]; omega) | (simp; omega), by first | omega | (dsimp only; omega) | (simp only [List.length_cons, List.length_nil, List.length_append, List.length_drop, List.length_take, maxBytes]; omega) | (simp; omega)⟩, by first | omega | (dsimp only; omega) | (simp only [List.length_cons, List.length_nil, List.length_append, List.length_drop, List.length_take, maxBytes]; omega) | (simp; omega), by first | omega | (dsimp only; omega) | (simp only [List.length_cons, List.length_nil, List.length_append, List.length_drop, List.length_take, maxBytes]; omega) | (simp; omega), by first | omega | (dsimp only; omega) | (simp only [List.length_cons, List.length_nil, List.length_append, List.length_drop, List.length_take, maxBytes]; omega) | (simp; omega)⟩ (by first | omega | (dsimp only; omega) | (simp only [List.length_cons, List.length_nil, List.length_append, List.length_drop, List.length_take, maxBytes]; omega) | (simp; omega))]
            simp only [Int.toNat_natCast, e4, hsn, show (1472 : Int) - (n + lenOf a.1) = 1472 - n - lenOf a.1 by omega]
      · have hn0 := h3' (by omega)
        rw [if_neg (by simpa using c0), if_neg (fun q => absurd q.1 (by omega)), hr _ ⟨⟨by first | omega | (dsimp only; omega) | (simp only [List.length_cons, List.length_nil, List.length_append, List.length_drop, List.length_take, maxBytes]; omega) | (simp; omega), by first | omega | (dsimp only; omega) | (simp only [List.length_cons, List.length_nil, List.length_append, List.length_drop, List.length_take, maxBytes]; omega) | (simp; omega)⟩, ⟨by first | omega | (dsimp only; omega) | (simp only [List.length_cons, List.length_nil, List.length_append, List.length_drop, List.length_take, maxBytes]; omega) | (simp; omega), by first | omega | (dsimp only; omega) | (simp only [List.length_cons, List.length_nil, List.length_append, List.length_drop, List.length_take, maxBytes]; omega) | (simp; omega), by first | omega | (dsimp only; omega) | (simp only [List.length_cons, List.length_nil, List.length_append, List.length_drop, List.length_take, maxBytes]; omega) | (simp; omega)⟩, by first | omega | (dsimp only; omega) | (simp only [List.length_cons, List.length_nil, List.length_append, List.length_drop, List.length_take, maxBytes]; omega) | (simp; omega), by first | omega | (dsimp only; omega) | (simp only [List.length_cons, List.length_nil, List.length_append, List.length_drop, List.length_take, maxBytes]; omega) | (simp; omega), by first | omega | (dsimp only; omega) | (simp only [List.length_cons, List.length_nil, List.length_append, List.length_drop, List.length_take, maxBytes]; omega) | (simp; omega)⟩ (by first | omega | (dsimp only; omega) | (simp only [List.length_cons, List.length_nil, List.length_append, List.length_drop, List.length_take, maxBytes]; omega) | (simp; omega))]
        simp only [Int.toNat_natCast, e4, hsn, show (1472 : Int) - (n + lenOf a.1) = 1472 - n - lenOf a.1 by omega]
  · have hjl : j = l.length := by omega
    subst hjl
    rw [if_neg (by simp), List.drop_eq_nil_of_le (Nat.le_refl _), List.take_length]
    unfold packF packG
    by_cases c0 : (l.length : Int) > f
    · rw [if_pos (by simpa using c0), if_pos (by omega), if_pos (by simp only [List.length_cons, List.length_nil, maxBytes]; omega), if_pos (by rw [List.length_drop]; omega)]
    · rw [if_neg (by simpa using c0), if_neg (by rw [List.length_drop]; omega)]
def Fine (r : List Ad) : Prop := r.length > 0 ∧ r.all adW = true ∧ r.length ≤ 50 ∧ (adsB r).length ≤ 1472
theorem packF_fine : ∀ (l : List Ad) (out : List (List Ad)) (row : List Ad) (room : Int) (o : List (List Ad)), packF l out row room = some o → row.all adW = true → row.length ≤ 50 → ((adsB row).length : Int) + room = 1472 → 0 ≤ room → (∀ r ∈ out, Fine r) →
    (∀ r ∈ o, Fine r) ∧ o.flatten = out.flatten ++ row ++ l ∧ o.length ≤ out.length + l.length + 1 := by
  intro l
  induction l with
  | nil =>
    intro out row room o h h1 h2 h3 h4 h5
    unfold packF at h
    injection h with h
    subst h
    by_cases c0 : row.length > 0
    · rw [if_pos c0]
      refine ⟨?_, by simp, by simp⟩
      intro r hr
      rcases List.mem_append.1 hr with hr | hr
      · exact h5 r hr
      · rw [List.mem_singleton] at hr
        subst hr
        exact ⟨c0, h1, h2, by omega⟩
    · rw [if_neg c0]
      have : row = [] := List.eq_nil_of_length_eq_zero (by omega)
      subst this
      exact ⟨h5, by simp, by simp⟩
  | cons a l ih =>
    intro out row room o h h1 h2 h3 h4 h5
    unfold packF at h
    by_cases hw : adW a = true
    · obtain ⟨l1, l2, l3⟩ := adW_len hw
      have hB : (adB a).length = 20 + a.2.1.length := adB_len a
      rw [if_pos hw] at h
      split at h
      · rename_i c
        obtain ⟨q1, q2, q3⟩ := ih _ _ _ _ h (by simp [hw]) (by simp) (by rw [adsB_cons]; simp only [adsB, List.flatMap_nil, List.append_nil]; omega) (by omega) (by
          intro r hr
          rcases List.mem_append.1 hr with hr | hr
          · exact h5 r hr
          · rw [List.mem_singleton] at hr
            subst hr
            exact ⟨c.1, h1, h2, by omega⟩)
        refine ⟨q1, ?_, ?_⟩
        · rw [q2]; simp
        · simp only [List.length_append, List.length_cons, List.length_nil] at q3 ⊢
          omega
      · rename_i c
        have hap : adsB (row ++ [a]) = adsB row ++ adB a := by simp [adsB]
        have c' : row.length > 0 → ¬ (lenOf a.1 > room) ∧ row.length ≠ 50 := fun q => ⟨fun q2 => c ⟨q, .inl q2⟩, fun q2 => c ⟨q, .inr q2⟩⟩
        have hr0 : row.length = 0 → room = 1472 := fun q => by
          have : row = [] := List.eq_nil_of_length_eq_zero q
          subst this
          simp [adsB] at h3
          exact h3
        have hl50 : (row ++ [a]).length ≤ 50 := by
          simp only [List.length_append, List.length_cons, List.length_nil]
          by_cases q : row.length > 0
          · have := (c' q).2; omega
          · omega
        have hroom : 0 ≤ room - lenOf a.1 := by
          by_cases q : row.length > 0
          · have := (c' q).1; omega
          · have := hr0 (by omega); omega
        obtain ⟨q1, q2, q3⟩ := ih _ _ _ _ h (by rw [List.all_append, h1]; simp [hw]) hl50 (by rw [hap, List.length_append]; omega) hroom h5
        refine ⟨q1, ?_, ?_⟩
        · rw [q2]; simp
        · simp only [List.length_append, List.length_cons, List.length_nil] at q3 ⊢
          omega
    · rw [if_neg hw] at h
      cases h
theorem dbdPack (l : List Ad) (hu : ∀ a ∈ l, AdOk a) : law13_DbdPack.p (l, ()) = some (true, ()) := by
  unfold law13_DbdPack.p
  simp only [aliveA, short_eq, jn_eq, bind_eq, if_true]
  cases hs : shortB l with
  | false => rfl
  | true =>
    unfold shortB at hs
    rw [Bool.and_eq_true, decide_eq_true_eq, List.all_eq_true] at hs
    have hs2 : ∀ a ∈ l, a.2.1.length ≤ 1600 := fun a ha => of_decide_eq_true (hs.2 a ha)
    rw [pack_eq l hu hs2 hs.1, rpack_eq l hu hs2 hs.1]
    simp only [bind_eq, Bool.not_true, Bool.false_eq_true, if_false, decide_true]
    have hcase : (∃ o, packF l [] [] 1472 = some o) ∨ packF l [] [] 1472 = none := by
      cases packF l [] [] 1472 with
      | none => exact .inr rfl
      | some o => exact .inl ⟨o, rfl⟩
    rcases hcase with ⟨o, ho⟩ | ho
    · obtain ⟨q1, q2, q3⟩ := packF_fine l [] [] 1472 o ho rfl (by simp) (by simp [adsB]) (by omega) (by intro r hr; cases hr)
      have q2' : o.flatten = l := by rw [q2]; rfl
      have q3' : o.length ≤ 61 := by simp only [List.length_nil] at q3; omega
      rw [ho]
      simp only [packG]
      have hmem : ∀ r ∈ o, ∀ a ∈ r, a ∈ l := fun r hr a ha => by rw [← q2']; exact List.mem_flatten.2 ⟨r, hr, ha⟩
      refine iterK_fix (F := fun x => some (true, ())) (m := fun x => o.length - x.2.1.toNat) (I := fun x => (0 ≤ x.2.1 ∧ x.2.1 ≤ (o.length : Int)) ∧ x.1 = (o.take x.2.1.toNat).flatten) ?_ _ _ ⟨by simp, by simp⟩ (by simp; omega)
      rintro ⟨acc, i, _⟩ r ⟨⟨h0, h1⟩, h2⟩ hr
      obtain ⟨j, rfl⟩ := Int.eq_ofNat_of_zero_le h0
      simp only [Int.toNat_natCast] at *
      by_cases hj : j < o.length
      · have hbnd : (0 : Int) ≤ j ∧ (j : Int) < (o.length : Int) := by omega
        rw [if_pos (by simpa using hj)]
        have hm := q1 _ (rdZ_mem [] o j hj)
        have hmm := hmem _ (rdZ_mem [] o j hj)
        have htk : (o.take (j + 1)).flatten = (o.take j).flatten ++ rdZ [] o j := by
          rw [rdZ_get [] o j hj, List.take_succ_eq_append_getElem hj, List.flatten_append]
          simp
        have hfl : (o.take j).flatten.length ≤ 60 := by
          have e : (o.take j).flatten ++ (o.drop j).flatten = l := by rw [← List.flatten_append, List.take_append_drop, q2']
          have := congrArg List.length e
          rw [List.length_append] at this
          omega
        obtain ⟨row, hrow⟩ : ∃ row, rdZ [] o j = row := ⟨_, rfl⟩
        simp only [hrow] at hm hmm htk ⊢
        have hrl : row.length ≤ 60 := Nat.le_trans hm.2.2.1 (by omega)
        have hput : dbd_PutAds.p (row, ()) = some (be row.length 4 ++ adsB row, 0, ()) := by
          rw [putAds_eq row (fun a ha => hu a (hmm a ha)) (fun a ha => hs2 a (hmm a ha)) hrl]
          unfold putAdsR
          rw [if_pos ⟨hm.2.1, hm.2.2.1, hm.2.2.2⟩]
        have h00 : ¬ (row.length : Int) = 0 := by have := hm.1; omega
        simp only [hbnd, and_self, if_true, hput, bind_eq, All_same row (by omega), Bool.not_true, Bool.false_eq_true, if_false, decide_true, h00, decide_false]
        rw [if_pos (by rw [h2]; simp only [maxBytes]; omega), w64 (by omega), hr _ ⟨⟨by first | omega | (dsimp only; omega) | (simp only [List.length_cons, List.length_nil, List.length_append, List.length_drop, List.length_take, maxBytes]; omega) | (simp; omega), by first | omega | (dsimp only; omega) | (simp only [List.length_cons, List.length_nil, List.length_append, List.length_drop, List.length_take, maxBytes]; omega) | (simp; omega)⟩, by simp only [show ((j : Int) + 1).toNat = j + 1 by omega, htk, h2]⟩ (by first | omega | (dsimp only; omega) | (simp only [List.length_cons, List.length_nil, List.length_append, List.length_drop, List.length_take, maxBytes]; omega) | (simp; omega))]
      · have hjl : j = o.length := by omega
        rw [if_neg (by simpa using hj)]
        have hacc : acc = l := by rw [h2, hjl, List.take_length, q2']
        rw [hacc, All_same l (by omega)]
        simp
    · rw [ho]
      simp only [packG]
      obtain ⟨n, hn⟩ : ∃ n, (4611686018427387904 : Nat) = n + 1 := ⟨_, rfl⟩
      rw [hn]
      simp [iterK]
theorem dbdPackW {P : Program} {x : dens (List.map K.v [(.sl 64 (.cons tH (.cons (.sl 5 (.int .u8)) .nil)))])} (h : WfA P [(.sl 64 (.cons tH (.cons (.sl 5 (.int .u8)) .nil)))] x) : ∃ y, law13_DbdPack.p x = some y ∧ y.1 = true :=
  ⟨_, dbdPack x.1 (fun a ha => ⟨⟨wf_u32 (h.1.2 a ha).1.2.2.2.1, wf_u32 (h.1.2 a ha).1.2.2.2.2.1, wf_u32 (h.1.2 a ha).1.2.2.2.2.2.1⟩, fun y hy => wf_u8 ((h.1.2 a ha).2.1.2 y hy)⟩), rfl⟩
end Go.Proofs.Ytmmkdalbcfjogaa.F
