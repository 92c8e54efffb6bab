/- Requests: the law. -/
import Derived.Test.YtmmkdalbcfjogaaLB4
import Derived.Test.YtmmkdalbcfjogaaFrc
set_option maxRecDepth 100000
set_option linter.unusedVariables false
set_option linter.unusedSimpArgs false
open Go Go.Proofs.Fr
namespace Go.Proofs.Ytmmkdalbcfjogaa.F
theorem aliveQ : law13_alive.p () = some (true, ()) := by decide +kernel
abbrev Ky := Int × Int × Int × Unit
def KyOk (k : Ky) : Prop := U32 k.2.1 ∧ U32 k.2.2.1
def kyT (k : Ky) : Bool := decide (1 ≤ k.1 ∧ k.1 ≤ 7)
def kyW (k : Ky) : List Int := [k.1, k.2.1, k.2.2.1]
def keysW (l : List Ky) : List Int := l.flatMap kyW
theorem keysW_cons (k : Ky) (l : List Ky) : keysW (k :: l) = kyW k ++ keysW l := by simp [keysW]
theorem keysW_len (l : List Ky) : (keysW l).length = 3 * l.length := by
  induction l with
  | nil => rfl
  | cons k l ih => rw [keysW_cons, List.length_append, ih, List.length_cons]; simp only [kyW, List.length_cons, List.length_nil]; omega
theorem qIn (x l h : Int) : dbd_isIn.p (x, l, h, ()) = some (decide (l ≤ x ∧ x ≤ h), ()) := by
  unfold dbd_isIn.p
  by_cases h1 : l ≤ x <;> simp [jn_eq, h1]
theorem keysW_u32 (l : List Ky) (hm : l.all kyT = true) (hu : ∀ k ∈ l, KyOk k) : ∀ x ∈ keysW l, U32 x := by
  intro x hx
  simp only [keysW, List.mem_flatMap] at hx
  obtain ⟨k, hk, hx⟩ := hx
  have h1 := List.all_eq_true.1 hm k hk
  simp only [kyT, decide_eq_true_eq] at h1
  obtain ⟨u1, u2⟩ := hu k hk
  simp only [kyW, List.mem_cons, List.not_mem_nil, or_false] at hx
  rcases hx with rfl | rfl | rfl
  · unfold U32; omega
  · exact u1
  · exact u2
def askR (l : List Ky) : List Int × Int × Unit := if l.length ≤ 100 ∧ l.all kyT = true then (b4 (keysW l), 0, ()) else ([], 1, ())
theorem putAsk_eq (l : List Ky) (hu : ∀ k ∈ l, KyOk k) : dbd_PutAsk.p (l, ()) = some (askR l) := by
  unfold dbd_PutAsk.p askR
  simp only [jn_eq]
  by_cases h1 : (l.length : Int) > 100
  · rw [if_pos (by simpa using h1), if_neg (fun q => absurd q.1 (by omega))]
  · rw [if_neg (by simpa using h1)]
    have h2 : l.length ≤ 100 := by omega
    simp only [h2, true_and]
    have hall : ∀ w : List Int, (w.length : Int) = 3 * (l.length : Int) → (∀ x ∈ w, U32 x) → octet_Row.p (w, 4, ()) = some (b4 w, 0, ()) := by
      intro w hw hx
      rw [row_eq w 4 (fun x q => hx x q) (by omega), rowB4]
    refine (iterK_fix (F := fun x => some (if (l.drop x.2.1.toNat).all kyT = true then (b4 (x.1 ++ keysW (l.drop x.2.1.toNat)), 0, ()) else ([], 1, ()))) (m := fun x => l.length - x.2.1.toNat) (I := fun x => (0 ≤ x.2.1 ∧ x.2.1 ≤ (l.length : Int)) ∧ (∀ y ∈ x.1, U32 y) ∧ x.1.length = 3 * x.2.1.toNat) ?_ _ _ ⟨by simp, by simp, by simp⟩ (by simp; omega)).trans rfl
    rintro ⟨acc, i, _⟩ r ⟨⟨h0, h1⟩, h3, h4⟩ hr
    obtain ⟨j, rfl⟩ := Int.eq_ofNat_of_zero_le h0
    simp only [Int.toNat_natCast] at *
    by_cases hj : j < l.length
    · rw [if_pos (by simpa using hj), if_pos (by omega)]
      rw [drop_rdZ (0, 0, 0, ()) l j hj]
      have hm := hu _ (rdZ_mem (0, 0, 0, ()) l j hj)
      obtain ⟨k, hk⟩ : ∃ k, rdZ (0, 0, 0, ()) l j = k := ⟨_, rfl⟩
      simp only [hk] at hm ⊢
      rw [qIn, keysW_cons, List.all_cons]
      by_cases hk : 1 ≤ k.1 ∧ k.1 ≤ 7
      · have hkt : kyT k = true := by unfold kyT; simpa using hk
        have hw : IntKind.u32.wrap k.1 = k.1 := by rw [wu32]; omega
        simp only [bind_eq, hk, hkt, hw, decide_true, and_self, Bool.not_true, Bool.false_eq_true, if_false, Bool.true_and]
        rw [if_pos (by simp only [List.length_cons, List.length_nil, maxBytes]; omega), w64 (by omega), hr _ ⟨⟨by first | omega | (dsimp only; omega) | (simp only [List.length_cons, List.length_nil, List.length_append, List.length_drop, List.length_take, maxBytes]; omega) | (simp; omega), by first | omega | (dsimp only; omega) | (simp only [List.length_cons, List.length_nil, List.length_append, List.length_drop, List.length_take, maxBytes]; omega) | (simp; omega)⟩, ?_, by simp only [List.length_append, List.length_cons, List.length_nil]; omega⟩ (by first | omega | (dsimp only; omega) | (simp only [List.length_cons, List.length_nil, List.length_append, List.length_drop, List.length_take, maxBytes]; omega) | (simp; omega))]
        · simp only [show ((j : Int) + 1).toNat = j + 1 by omega, List.append_assoc, kyW]
        · intro y hy
          rcases List.mem_append.1 hy with hy | hy
          · exact h3 y hy
          · simp only [List.mem_cons, List.not_mem_nil, or_false] at hy
            rcases hy with rfl | rfl | rfl
            · unfold U32; omega
            · exact hm.1
            · exact hm.2
      · have hkt : kyT k = false := by unfold kyT; simpa using hk
        simp only [bind_eq, hk, hkt, decide_false, Bool.not_false, if_true, Bool.false_and, Bool.false_eq_true, if_false]
    · rw [if_neg (by simpa using hj), List.drop_eq_nil_of_le (by omega), hall acc (by omega) h3]
      simp [keysW]
theorem qfour_eq (n : Int) (h : U32 n) : ref01_Four.p (n, ()) = some (be n 4, ()) := by
  unfold ref01_Four.p
  congr 2
  unfold U32 at h
  simp only [be, wu8, fdiv_pos (b := 2 ^ 24) (by decide), fdiv_pos (b := 2 ^ 16) (by decide), fdiv_pos (b := 2 ^ 8) (by decide)]
  simp
theorem rputAsk_eq (l : List Ky) (hu : ∀ k ∈ l, KyOk k) : ref13_PutAsk.p (l, ()) = some (askR l) := by
  unfold ref13_PutAsk.p askR
  simp only [jn_eq]
  by_cases h1 : (l.length : Int) > 100
  · rw [if_pos (by simpa using h1), if_neg (fun q => absurd q.1 (by omega))]
  · rw [if_neg (by simpa using h1)]
    have h2 : l.length ≤ 100 := by omega
    simp only [h2, true_and]
    refine (iterK_fix (F := fun x => some (if (l.drop x.2.1.toNat).all kyT = true then (x.1 ++ b4 (keysW (l.drop x.2.1.toNat)), 0, ()) else ([], 1, ()))) (m := fun x => l.length - x.2.1.toNat) (I := fun x => (0 ≤ x.2.1 ∧ x.2.1 ≤ (l.length : Int)) ∧ x.1.length = 12 * x.2.1.toNat) ?_ _ _ ⟨by simp, by simp⟩ (by simp; omega)).trans rfl
    rintro ⟨acc, i, _⟩ r ⟨⟨h0, h1⟩, h4⟩ hr
    obtain ⟨j, rfl⟩ := Int.eq_ofNat_of_zero_le h0
    simp only [Int.toNat_natCast] at *
    by_cases hj : j < l.length
    · have hb : (0 : Int) ≤ j ∧ (j : Int) < (l.length : Int) := by omega
      rw [if_pos (by simpa using hj)]
      simp only [hb, and_self, if_true]
      rw [drop_rdZ (0, 0, 0, ()) l j hj]
      have hm := hu _ (rdZ_mem (0, 0, 0, ()) l j hj)
      obtain ⟨k, hk⟩ : ∃ k, rdZ (0, 0, 0, ()) l j = k := ⟨_, rfl⟩
      simp only [hk] at hm ⊢
      rw [keysW_cons, List.all_cons]
      by_cases hk : 1 ≤ k.1 ∧ k.1 ≤ 7
      · have hkt : kyT k = true := by unfold kyT; simpa using hk
        have hw : IntKind.u32.wrap k.1 = k.1 := by rw [wu32]; omega
        have k1 : ¬ k.1 < 1 := by omega
        have k2 : ¬ k.1 > 7 := by omega
        simp only [k1, k2, hkt, hw, decide_false, Bool.false_eq_true, if_false, Bool.true_and, qfour_eq k.1 (by unfold U32; omega), qfour_eq _ hm.1, qfour_eq _ hm.2, bind_eq]
        have hbl : ∀ n, (be n 4).length = 4 := fun n => be_length n 4
        rw [if_pos (by simp only [hbl, maxBytes]; omega), if_pos (by simp only [List.length_append, hbl, maxBytes]; omega), if_pos (by simp only [List.length_append, hbl, maxBytes]; omega), w64 (by omega), hr _ ⟨⟨by first | omega | (dsimp only; omega) | (simp only [List.length_cons, List.length_nil, List.length_append, List.length_drop, List.length_take, maxBytes]; omega) | (simp; omega), by first | omega | (dsimp only; omega) | (simp only [List.length_cons, List.length_nil, List.length_append, List.length_drop, List.length_take, maxBytes]; omega) | (simp; omega)⟩, by simp only [List.length_append, hbl]; omega⟩ (by first | omega | (dsimp only; omega) | (simp only [List.length_cons, List.length_nil, List.length_append, List.length_drop, List.length_take, maxBytes]; omega) | (simp; omega))]
        simp only [show ((j : Int) + 1).toNat = j + 1 by omega, List.append_assoc, kyW, b4_app, b4_cons, b4_nil, List.append_nil]
      · have hkt : kyT k = false := by unfold kyT; simpa using hk
        by_cases k1 : k.1 < 1
        · simp only [k1, hkt, decide_true, if_true, Bool.false_and, Bool.false_eq_true, if_false]
        · have k2 : k.1 > 7 := by omega
          simp only [k1, k2, hkt, decide_true, decide_false, if_true, Bool.false_and, Bool.false_eq_true, if_false]
    · rw [if_neg (by simpa using hj), List.drop_eq_nil_of_le (by omega)]
      simp [keysW, b4_nil]
/-- Keys off numbers. -/
def kysOf : Nat → List Int → List Ky
  | 0, _ => []
  | q + 1, g => (rd g 0, rd g 1, rd g 2, ()) :: kysOf q (g.drop 3)
theorem kysOf_len (q : Nat) : ∀ g, (kysOf q g).length = q := by
  induction q with
  | zero => intro g; rfl
  | succ q ih => intro g; simp [kysOf, ih]
theorem kysOf_keysW (l : List Ky) : kysOf l.length (keysW l) = l := by
  induction l with
  | nil => rfl
  | cons k l ih =>
    rw [keysW_cons]
    show (k.1, k.2.1, k.2.2.1, ()) :: kysOf l.length (keysW l) = _
    rw [ih]
def tAskR (b : List Int) : List Ky × Int × Unit :=
  if ¬ b.length % 12 = 0 then ([], 2, ()) else if (kysOf (b.length / 12) (chunks 4 (b.length / 4) b)).all kyT = true ∧ b.length / 12 ≤ 100 then (kysOf (b.length / 12) (chunks 4 (b.length / 4) b), 0, ()) else ([], 3, ())
theorem rows4q (l : List Int) (h : l.length % 12 = 0) : rows l 4 = (chunks 4 (l.length / 4) l, 0, ()) := by
  unfold rows
  rw [if_neg (by omega), if_pos (by omega)]
  rfl
theorem kysOf_succ (q : Nat) (g : List Int) : kysOf (q + 1) g = (rd g 0, rd g 1, rd g 2, ()) :: kysOf q (g.drop 3) := rfl
theorem takeAsk_eq (b : List Int) (hb : By b) (hl : b.length ≤ 1000000) : dbd_TakeAsk.p (b, ()) = some (tAskR b) := by
  unfold dbd_TakeAsk.p tAskR
  simp only [jn_eq]
  rw [tmod_pos (by omega)]
  by_cases h12 : b.length % 12 = 0
  · have hgl := chunks_length 4 (b.length / 4) b
    have hgm := chunks_mem 4 (b.length / 4) b hb
    rw [if_neg (by simp; omega), if_neg (by omega), rows_eq b 4 hb (by omega), rows4q b h12]
    simp only [bind_eq]
    have hq : b.length / 12 = (chunks 4 (b.length / 4) b).length / 3 := by rw [hgl]; omega
    rw [hq]
    have hg3 : (chunks 4 (b.length / 4) b).length % 3 = 0 ∧ (chunks 4 (b.length / 4) b).length ≤ 1000000 := by rw [hgl]; omega
    generalize chunks 4 (b.length / 4) b = g at hgm hg3 ⊢
    refine (iterK_fix (F := fun x => some (if (kysOf (x.1.length / 3) x.1).all kyT = true ∧ x.2.1.length + x.1.length / 3 ≤ 100 then (x.2.1 ++ kysOf (x.1.length / 3) x.1, 0, ()) else ([], 3, ()))) (m := fun x => x.1.length) (I := fun x => (∀ y ∈ x.1, U32 y) ∧ x.1.length % 3 = 0 ∧ x.2.1.length + x.1.length ≤ 1000000) ?_ _ _ ⟨hgm, hg3.1, by simpa using hg3.2⟩ (by simp; omega)).trans (by simp only [List.length_nil, Nat.zero_add, List.nil_append])
    rintro ⟨k, acc, _⟩ r ⟨hk, hk2, hk3⟩ hr
    simp only at hk hk2 hk3 ⊢
    by_cases h0 : k.length = 0
    · have hk0 : k = [] := List.eq_nil_of_length_eq_zero h0
      subst hk0
      by_cases hc : (acc.length : Int) > 100
      · have e2 : ¬ acc.length ≤ 100 := by omega
        simp [kysOf, hc, e2]
      · have e2 : acc.length ≤ 100 := by omega
        simp [kysOf, hc, e2]
    · have e0 : (0 : Int).toNat = 0 := rfl
      have e1 : (1 : Int).toNat = 1 := rfl
      have e2 : (2 : Int).toNat = 2 := rfl
      have e3 : (3 : Int).toNat = 3 := rfl
      have b0 : (0 : Int) ≤ 0 ∧ (0 : Int) < (k.length : Int) := by omega
      have u0 := hk _ (rd_mem k 0 (by omega))
      have hq : k.length / 3 = (k.drop 3).length / 3 + 1 := by rw [List.length_drop]; omega
      rw [if_pos (by simp only [decide_eq_true_eq]; omega), hq, kysOf_succ, List.all_cons]
      simp only [b0, and_self, if_true, e0, e1, e2, e3]
      unfold U32 at u0
      by_cases hc : 1 ≤ rd k 0 ∧ rd k 0 ≤ 7
      · have hkt : kyT (rd k 0, rd k 1, rd k 2, ()) = true := by unfold kyT; simpa using hc
        have k1 : ¬ rd k 0 < 1 := by omega
        have k2 : ¬ rd k 0 > 7 := by omega
        simp only [k1, k2, hkt, decide_false, Bool.false_eq_true, if_false, Bool.true_and]
        rw [if_pos (by omega), if_pos (by omega), if_pos (by simp only [List.length_cons, List.length_nil, maxBytes]; omega), if_pos (by omega), w64 (by omega), Int.toNat_natCast, List.take_length, hr _ ⟨fun y hy => hk y (List.mem_of_mem_drop hy), by simp only [List.length_drop]; omega, by simp only [List.length_append, List.length_cons, List.length_nil, List.length_drop]; omega⟩ (by simp only [List.length_drop]; omega)]
        simp only [List.length_append, List.length_cons, List.length_nil, List.append_assoc, List.cons_append, List.nil_append]
        rw [show acc.length + (0 + 1) + (k.drop 3).length / 3 = acc.length + ((k.drop 3).length / 3 + 1) by omega]
      · have hkt : kyT (rd k 0, rd k 1, rd k 2, ()) = false := by unfold kyT; simpa using hc
        by_cases k1 : rd k 0 < 1
        · simp only [k1, hkt, decide_true, if_true, Bool.false_and, Bool.false_eq_true, if_false, false_and]
        · have k2 : rd k 0 > 7 := by omega
          simp only [k1, k2, hkt, decide_true, decide_false, if_true, Bool.false_and, Bool.false_eq_true, if_false, false_and]
  · rw [if_pos (by simp; omega), if_pos (by omega)]
theorem rtakeAsk_eq (b : List Int) (hb : By b) (hl : b.length ≤ 1000000) : ref13_TakeAsk.p (b, ()) = some (tAskR b) := by
  unfold ref13_TakeAsk.p tAskR
  simp only [jn_eq]
  rw [tmod_pos (by omega)]
  by_cases h12 : b.length % 12 = 0
  · have hgl := chunks_length 4 (b.length / 4) b
    have hgm := chunks_mem 4 (b.length / 4) b hb
    rw [if_neg (by simp; omega), if_neg (by omega), rrows_eq b 4 hb (by omega), rows4q b h12]
    simp only [bind_eq]
    have hq : b.length / 12 = (chunks 4 (b.length / 4) b).length / 3 := by rw [hgl]; omega
    rw [hq]
    have hg3 : (chunks 4 (b.length / 4) b).length % 3 = 0 ∧ (chunks 4 (b.length / 4) b).length ≤ 1000000 := by rw [hgl]; omega
    generalize chunks 4 (b.length / 4) b = g at hgm hg3 ⊢
    refine (iterK_fix (F := fun x => some (if (kysOf ((g.length - x.2.1.toNat) / 3) (g.drop x.2.1.toNat)).all kyT = true ∧ x.1.length + (g.length - x.2.1.toNat) / 3 ≤ 100 then (x.1 ++ kysOf ((g.length - x.2.1.toNat) / 3) (g.drop x.2.1.toNat), 0, ()) else ([], 3, ()))) (m := fun x => g.length - x.2.1.toNat) (I := fun x => (0 ≤ x.2.1 ∧ x.2.1 ≤ (g.length : Int)) ∧ x.2.1.toNat % 3 = 0 ∧ x.1.length * 3 = x.2.1.toNat) ?_ _ _ ⟨by simp, by simp, by simp⟩ (by simp; omega)).trans (by simp only [Int.toNat_zero, List.drop_zero, Nat.sub_zero, List.length_nil, Nat.zero_add, List.nil_append])
    rintro ⟨acc, i, _⟩ r ⟨⟨h0, h1⟩, h2, h3⟩ hr
    obtain ⟨j, rfl⟩ := Int.eq_ofNat_of_zero_le h0
    simp only [Int.toNat_natCast] at *
    by_cases hj : j < g.length
    · have hb : (0 : Int) ≤ j ∧ (j : Int) < (g.length : Int) := by omega
      have hq : (g.length - j) / 3 = (g.length - (j + 3)) / 3 + 1 := by omega
      have u0 := hgm _ (rd_mem g j hj)
      have d : ∀ i : Nat, rd (g.drop j) i = rd g (j + i) := fun i => by simp [rd, List.getD_eq_getElem?_getD, List.getElem?_drop]
      rw [if_pos (by simpa using hj), hq, kysOf_succ, List.all_cons, w64 (x := (j : Int) + 1) (by omega), w64 (x := (j : Int) + 2) (by omega), w64 (x := (j : Int) + 3) (by omega), List.drop_drop]
      simp only [hb, and_self, if_true, d, Nat.add_zero, show ((j : Int) + 1).toNat = j + 1 by omega, show ((j : Int) + 2).toNat = j + 2 by omega]
      by_cases hc : 1 ≤ rd g j ∧ rd g j ≤ 7
      · have hkt : kyT (rd g j, rd g (j + 1), rd g (j + 2), ()) = true := by unfold kyT; simpa using hc
        have k1 : ¬ rd g j < 1 := by omega
        have k2 : ¬ rd g j > 7 := by omega
        simp only [k1, k2, hkt, decide_false, Bool.false_eq_true, if_false, Bool.true_and]
        rw [if_pos (by omega), if_pos (by omega), if_pos (by simp only [List.length_cons, List.length_nil, maxBytes]; omega), w64 (by omega), hr _ ⟨⟨by first | omega | (dsimp only; omega) | (simp only [List.length_cons, List.length_nil, List.length_append, List.length_drop, List.length_take, maxBytes]; omega) | (simp; omega), by first | omega | (dsimp only; omega) | (simp only [List.length_cons, List.length_nil, List.length_append, List.length_drop, List.length_take, maxBytes]; omega) | (simp; omega)⟩, by first | omega | (dsimp only; omega) | (simp only [List.length_cons, List.length_nil, List.length_append, List.length_drop, List.length_take, maxBytes]; omega) | (simp; omega), by first | omega | (dsimp only; omega) | (simp only [List.length_cons, List.length_nil, List.length_append, List.length_drop, List.length_take, maxBytes]; omega) | (simp; omega)⟩ (by first | omega | (dsimp only; omega) | (simp only [List.length_cons, List.length_nil, List.length_append, List.length_drop, List.length_take, maxBytes]; omega) | (simp; omega))]
        simp only [show ((j : Int) + 3).toNat = j + 3 by omega, List.length_append, List.length_cons, List.length_nil, List.append_assoc, List.cons_append, List.nil_append]
        rw [show acc.length + (0 + 1) + (g.length - (j + 3)) / 3 = acc.length + ((g.length - (j + 3)) / 3 + 1) by omega]
      · have hkt : kyT (rd g j, rd g (j + 1), rd g (j + 2), ()) = false := by unfold kyT; simpa using hc
        by_cases k1 : rd g j < 1
        · simp only [k1, hkt, decide_true, if_true, Bool.false_and, Bool.false_eq_true, if_false, false_and]
        · have k2 : rd g j > 7 := by omega
          simp only [k1, k2, hkt, decide_true, decide_false, if_true, Bool.false_and, Bool.false_eq_true, if_false, false_and]
    · have hj0 : g.length - j = 0 := by omega
      rw [if_neg (by simpa using hj), hj0]
      by_cases hc : (acc.length : Int) > 100
      · have e2 : ¬ acc.length ≤ 100 := by omega
        simp [kysOf, hc, e2]
      · have e2 : acc.length ≤ 100 := by omega
        simp [kysOf, hc, e2]
  · rw [if_pos (by simp; omega), if_pos (by omega)]
theorem tAskR_of (l : List Ky) (hm : l.all kyT = true) (hu : ∀ k ∈ l, KyOk k) (hl : l.length ≤ 100) : tAskR (b4 (keysW l)) = (l, 0, ()) := by
  unfold tAskR
  have hbl : (b4 (keysW l)).length = 12 * l.length := by rw [b4_length, keysW_len]; omega
  have hq : (b4 (keysW l)).length / 12 = l.length := by omega
  have hq4 : (b4 (keysW l)).length / 4 = (keysW l).length := by rw [keysW_len]; omega
  rw [if_neg (by omega), hq, hq4, chunks_b4 _ (keysW_u32 l hm hu), kysOf_keysW, if_pos ⟨hm, hl⟩]
theorem Keys_same (l : List Ky) (hl : l.length ≤ 1000000) : ref13_Keys.p (l, l, ()) = some (true, ()) := by
  unfold ref13_Keys.p
  simp only [jn_eq, decide_true, Bool.not_true, Bool.false_eq_true, if_false]
  refine iterK_fix (F := fun x => some (true, ())) (m := fun x => l.length - x.1.toNat) (I := fun x => 0 ≤ x.1 ∧ x.1 ≤ (l.length : Int)) ?_ _ _ (by simp) (by simp; omega)
  rintro ⟨i, _⟩ r ⟨h0, h1⟩ hr
  obtain ⟨j, rfl⟩ := Int.eq_ofNat_of_zero_le h0
  simp only [Int.toNat_natCast] at *
  by_cases hj : j < l.length
  · rw [if_pos (by simpa using hj), if_pos (by omega), if_pos (by omega), if_neg (by simp), w64 (by omega), hr _ ⟨by first | omega | (dsimp only; omega) | (simp only [List.length_cons, List.length_nil, List.length_append, List.length_drop, List.length_take, maxBytes]; omega) | (simp; omega), by first | omega | (dsimp only; omega) | (simp only [List.length_cons, List.length_nil, List.length_append, List.length_drop, List.length_take, maxBytes]; omega) | (simp; omega)⟩ (by first | omega | (dsimp only; omega) | (simp only [List.length_cons, List.length_nil, List.length_append, List.length_drop, List.length_take, maxBytes]; omega) | (simp; omega))]
  · rw [if_neg (by simpa using hj)]
theorem tAskR_len (b : List Int) : (tAskR b).1.length ≤ b.length := by
  unfold tAskR
  split
  · exact Nat.zero_le _
  · split
    · simp only [kysOf_len]; omega
    · exact Nat.zero_le _
theorem dbdAsk (l : List Ky) (b : List Int) (hu : ∀ k ∈ l, KyOk k) (hb : By b) : law13_DbdAsk.p (l, b, ()) = some (true, ()) := by
  unfold law13_DbdAsk.p
  simp only [aliveQ, jn_eq, bind_eq, if_true]
  by_cases h1 : (l.length : Int) > 110
  · simp [h1]
  · by_cases h2 : (b.length : Int) > 1600
    · simp [h1, h2]
    · have hp : By (askR l).1 ∧ (askR l).1.length ≤ 1000000 := by
        unfold askR
        split
        · exact ⟨b4_by _, by rw [b4_length, keysW_len]; omega⟩
        · exact ⟨fun x hx => (by cases hx), by simp⟩
      have hs := Keys_same (tAskR b).1 (Nat.le_trans (tAskR_len b) (by omega))
      simp only [h1, h2, decide_false, Bool.false_eq_true, if_false, putAsk_eq l hu, rputAsk_eq l hu, takeAsk_eq b hb (by omega), rtakeAsk_eq b hb (by omega), takeAsk_eq _ hp.1 hp.2, bind_eq, hs, decide_true, if_true]
      unfold askR
      by_cases hc : l.length ≤ 100 ∧ l.all kyT = true
      · rw [if_pos hc]
        simp only [decide_true, Bool.not_true, Bool.false_eq_true, if_false, if_true, tAskR_of l hc.2 hu hc.1, Keys_same l (by omega), bind_eq]
      · rw [if_neg hc]
        simp
theorem dbdAskW {P : Program} {x : dens (List.map K.v [(.sl 84 (.cons (.int .i64) (.cons (.int .u32) (.cons (.int .u32) .nil)))), (.sl 5 (.int .u8))])} (h : WfA P [(.sl 84 (.cons (.int .i64) (.cons (.int .u32) (.cons (.int .u32) .nil)))), (.sl 5 (.int .u8))] x) : ∃ y, law13_DbdAsk.p x = some y ∧ y.1 = true :=
  ⟨_, dbdAsk x.1 x.2.1 (fun a ha => ⟨wf_u32 (h.1.2 a ha).2.1, wf_u32 (h.1.2 a ha).2.2.1⟩) (fun y hy => wf_u8 (h.2.1.2 y hy)), rfl⟩
end Go.Proofs.Ytmmkdalbcfjogaa.F
