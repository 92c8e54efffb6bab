/- Numbers off bytes and as bytes: what the chapter on octets computes. -/
import Derived.Test.YthbcmgpmjljdeaaGreatLBase
import Derived.Test.YthbcmgpmjljdeaaGreatP
set_option linter.unusedVariables false
set_option maxRecDepth 100000
set_option linter.unusedSimpArgs false
open Go Go.Proofs.Fr
namespace Go.Proofs.YthbcmgpmjljdeaaGreat.F
theorem isMany_eq (m : Int) : octet_isMany.p (m, ()) = some (decide (1 ≤ m ∧ m ≤ 4), ()) := by
  unfold octet_isMany.p
  by_cases h : 1 ≤ m <;> simp [jn_eq, h]
theorem number_eq (l : List Int) (hb : By l) (hs : l.length ≤ 140737488355328) : octet_number.p (l, ()) = some (num l, ()) := by
  unfold octet_number.p
  simp only [jn_eq]
  refine (iterK_fix (F := fun x => some (nacc x.1 (l.drop x.2.1.toNat), ())) (m := fun x => l.length - x.2.1.toNat) (I := fun x => (0 ≤ x.2.1 ∧ x.2.1 ≤ (l.length : Int)) ∧ 0 ≤ x.1 ∧ x.1 < 4294967296) ?_ _ _ ⟨by simp, by simp⟩ (by simp; omega)).trans rfl
  rintro ⟨n, i, _⟩ r ⟨⟨h0, h1⟩, h2, h3⟩ hr
  obtain ⟨j, rfl⟩ := Int.eq_ofNat_of_zero_le h0
  simp only [Int.toNat_natCast] at *
  by_cases hj : j < l.length
  · have hm := hb.at j hj
    rw [if_pos (by simpa using hj), if_pos (by omega)]
    generalize hc : rd l j = c at *
    rw [drop_rd l j hj, nacc_cons, hc, wu32 c, wu32, or_low (by first | omega | (dsimp only; omega) | (simp only [List.length_cons, List.length_nil, List.length_append, List.length_drop, List.length_take, maxBytes]; omega) | (simp; omega)) (by first | omega | (dsimp only; omega) | (simp only [List.length_cons, List.length_nil, List.length_append, List.length_drop, List.length_take, maxBytes]; omega) | (simp; omega)) (by first | omega | (dsimp only; omega) | (simp only [List.length_cons, List.length_nil, List.length_append, List.length_drop, List.length_take, maxBytes]; omega) | (simp; omega)) (by first | omega | (dsimp only; omega) | (simp only [List.length_cons, List.length_nil, List.length_append, List.length_drop, List.length_take, maxBytes]; omega) | (simp; omega)) (by first | omega | (dsimp only; omega) | (simp only [List.length_cons, List.length_nil, List.length_append, List.length_drop, List.length_take, maxBytes]; omega) | (simp; omega)), w64 (by first | omega | (dsimp only; omega) | (simp only [List.length_cons, List.length_nil, List.length_append, List.length_drop, List.length_take, maxBytes]; omega) | (simp; omega)), hr (n * 2 ^ 8 % 4294967296 + c % 4294967296, (j : Int) + 1, ()) ⟨⟨by first | omega | (dsimp only; omega) | (simp only [List.length_cons, List.length_nil, List.length_append, List.length_drop, List.length_take, maxBytes]; omega) | (simp; omega), by first | omega | (dsimp only; omega) | (simp only [List.length_cons, List.length_nil, List.length_append, List.length_drop, List.length_take, maxBytes]; omega) | (simp; omega)⟩, by first | omega | (dsimp only; omega) | (simp only [List.length_cons, List.length_nil, List.length_append, List.length_drop, List.length_take, maxBytes]; omega) | (simp; omega), by first | omega | (dsimp only; omega) | (simp only [List.length_cons, List.length_nil, List.length_append, List.length_drop, List.length_take, maxBytes]; omega) | (simp; omega)⟩ (by first | omega | (dsimp only; omega) | (simp only [List.length_cons, List.length_nil, List.length_append, List.length_drop, List.length_take, maxBytes]; omega) | (simp; omega))]
    simp only [show ((j : Int) + 1).toNat = j + 1 by omega, show (n * 2 ^ 8) % 4294967296 + c % 4294967296 = n * 256 % 4294967296 + c by omega]
  · rw [if_neg (by simpa using hj), List.drop_eq_nil_of_le (by omega)]
    rfl
/-- Bytes off a row. -/
def cut (l : List Int) (n : Int) : List Int × List Int × Int × Unit :=
  if n < 0 then ([], [], 1, ()) else if n > (l.length : Int) then ([], [], 2, ()) else (l.take n.toNat, l.drop n.toNat, 0, ())
theorem cut_eq (l : List Int) (n : Int) (hl : l.length ≤ 140737488355328) : octet_Cut.p (l, n, ()) = some (cut l n) := by
  unfold octet_Cut.p cut bytes_Clone.p maxBytes
  by_cases h : n < 0
  · simp [h]
  · by_cases h2 : n > (l.length : Int)
    · simp [h, h2]
    · have h3 : n ≤ l.length := by omega
      have h4 : 0 ≤ n := by omega
      have e1 : (l.drop 0).take n.toNat = l.take n.toNat := rfl
      simp only [h, h2, decide_false, Bool.false_eq_true, if_false, Int.toNat_natCast, List.take_length]
      rw [if_pos (by omega)]
      have e2 : List.drop (Int.toNat 0) (List.take n.toNat l) = l.take n.toNat := rfl
      simp only [e2]
      rw [if_pos (by simp; omega)]
      simp only [Option.bind_some]
      rw [if_pos (by omega), if_pos (by simp; omega)]
      rfl
/-- A number off bytes. -/
def take (l : List Int) (m : Int) : Int × List Int × Int × Unit :=
  if m < 1 ∨ m > 4 then (0, [], 1, ()) else if (l.length : Int) < m then (0, [], 2, ()) else (num (l.take m.toNat), l.drop m.toNat, 0, ())
theorem take_eq (l : List Int) (m : Int) (hb : By l) (hl : l.length ≤ 140737488355328) : octet_Take.p (l, m, ()) = some (take l m) := by
  unfold octet_Take.p take
  simp only [isMany_eq, cut_eq l m hl, Option.bind_some]
  by_cases h : 1 ≤ m ∧ m ≤ 4
  · rw [if_neg (by simpa using h), if_neg (by omega)]
    unfold cut
    rw [if_neg (by omega)]
    by_cases h2 : m > (l.length : Int)
    · rw [if_pos h2, if_pos (by omega), number_eq _ (by intro x hx; cases hx) (by simp)]
      rfl
    · rw [if_neg h2, if_neg (by omega)]
      simp only
      rw [number_eq _ (hb.take _) (by simp; omega)]
      rfl
  · rw [if_pos (by simp only [decide_eq_false h, Bool.not_false]), if_pos (by omega)]
/-- The first q numbers of so many bytes each. -/
def chunks (m : Nat) : Nat → List Int → List Int
  | 0, _ => []
  | q + 1, l => num (l.take m) :: chunks m q (l.drop m)
theorem chunks_length (m q : Nat) : ∀ l, (chunks m q l).length = q := by
  induction q with
  | zero => intro l; rfl
  | succ q ih => intro l; simp [chunks, ih]
theorem chunks_mem (m q : Nat) : ∀ l, By l → ∀ x ∈ chunks m q l, 0 ≤ x ∧ x < 4294967296 := by
  induction q with
  | zero => intro l _ x hx; cases hx
  | succ q ih =>
    intro l hb x hx
    rcases List.mem_cons.1 hx with rfl | hx
    · exact num_range _ (hb.take _)
    · exact ih _ (hb.drop _) x hx
def rows (l : List Int) (m : Int) : List Int × Int × Unit :=
  if m < 1 ∨ m > 4 then ([], 1, ()) else if (l.length : Int) % m = 0 then (chunks m.toNat (l.length / m.toNat) l, 0, ()) else ([], 2, ())
theorem chunks_nil (m : Nat) : ∀ q, chunks m (q / m) [] = chunks m (q / m) [] := fun _ => rfl
theorem rows_eq (l : List Int) (m : Int) (hb : By l) (hl : l.length ≤ 35184372088832) : octet_Rows.p (l, m, ()) = some (rows l m) := by
  unfold octet_Rows.p rows
  simp only [isMany_eq, Option.bind_some, jn_eq]
  by_cases h : 1 ≤ m ∧ m ≤ 4
  · obtain ⟨mm, rfl⟩ := Int.eq_ofNat_of_zero_le (show 0 ≤ m by omega)
    rw [if_neg (by simpa using h), if_neg (by omega), tmod_pos (by omega), if_neg (show ¬ ((mm : Int) < 1 ∨ (mm : Int) > 4) by omega)]
    by_cases h2 : (l.length : Int) % mm = 0
    · rw [if_neg (by simp only [h2, decide_true, Bool.not_true, Bool.false_eq_true, not_false_eq_true]), if_pos h2]
      have h3 : l.length % mm = 0 := by exact_mod_cast h2
      have hmm : 1 ≤ mm ∧ mm ≤ 4 := by omega
      refine (iterK_fix (F := fun x => some (x.2.1 ++ chunks mm (x.1.length / mm) x.1, 0, ())) (m := fun x => x.1.length) (I := fun x => By x.1 ∧ x.1.length % mm = 0 ∧ x.2.1.length + x.1.length ≤ 35184372088832) ?_ _ _ ⟨hb, h3, by simpa using hl⟩ (by simp; omega)).trans ?_
      · rintro ⟨k, acc, _⟩ r ⟨hk, hk2, hk3⟩ hr
        simp only at hk hk2 hk3 ⊢
        by_cases h0 : k.length = 0
        · have hk0 : k = [] := List.eq_nil_of_length_eq_zero h0
          subst hk0
          simp [chunks]
        · have hle : mm ≤ k.length := Nat.le_of_dvd (by omega) (Nat.dvd_of_mod_eq_zero hk2)
          rw [if_pos (by simp only [decide_eq_true_eq]; omega), if_pos (by omega)]
          have e2 : ∀ l : List Int, List.drop (Int.toNat 0) l = l := fun _ => rfl
          simp only [e2, Int.toNat_natCast, List.take_length]
          rw [number_eq _ (hk.take _) (by simp; omega)]
          simp only [Option.bind_some]
          have hsub : (k.length - mm) % mm = 0 := by rw [← Nat.mod_eq_sub_mod hle]; exact hk2
          have hdiv : k.length / mm = (k.length - mm) / mm + 1 := by
            rw [Nat.div_eq_sub_div (by omega) hle]
          rw [if_pos (by simp only [List.length_cons, List.length_nil, maxBytes]; omega), if_pos (by omega), hr _ ⟨hk.drop _, by simpa using hsub, by simp; omega⟩ (by simp; omega)]
          simp only [List.length_drop, hdiv, chunks, List.append_assoc, List.cons_append, List.nil_append]
      · simp
    · rw [if_pos (by simp only [h2, decide_false, Bool.not_false]), if_neg h2]
  · rw [if_pos (by simp only [decide_eq_false h, Bool.not_false]), if_pos (by omega)]
theorem rtake_eq (l : List Int) (m : Int) (hb : By l) (hl : l.length ≤ 140737488355328) : ref01_Take.p (l, m, ()) = some (take l m) := by
  unfold ref01_Take.p take
  simp only [jn_eq]
  by_cases h : 1 ≤ m ∧ m ≤ 4
  · have h1 : ¬ m < 1 := by omega
    have h2 : ¬ m > 4 := by omega
    obtain ⟨mm, rfl⟩ := Int.eq_ofNat_of_zero_le (show 0 ≤ m by omega)
    simp only [h1, h2, decide_false, Bool.false_eq_true, if_false, or_self]
    by_cases h3 : (l.length : Int) < mm
    · simp only [h3, decide_true, if_true]
    · simp only [h3, decide_false, Bool.false_eq_true, if_false, Int.toNat_natCast, List.take_length]
      have e0 : (mm : Int) ≤ l.length := by omega
      refine (iterK_fix (F := fun x => some (nacc x.1 ((l.take mm).drop x.2.1.toNat), l.drop mm, 0, ())) (m := fun x => mm - x.2.1.toNat) (I := fun x => (0 ≤ x.2.1 ∧ x.2.1 ≤ (mm : Int)) ∧ 0 ≤ x.1 ∧ x.1 < 4294967296) ?_ _ _ ⟨by simp, by simp⟩ (by simp; omega)).trans rfl
      rintro ⟨n, i, _⟩ r ⟨⟨i0, i1⟩, n2, n3⟩ hr
      obtain ⟨j, rfl⟩ := Int.eq_ofNat_of_zero_le i0
      simp only [Int.toNat_natCast] at *
      by_cases hj : j < mm
      · have hjl : j < l.length := by omega
        have hm := hb.at j hjl
        have hjt : j < (l.take mm).length := by simp; omega
        have hg : rd (l.take mm) j = rd l j := by
          rw [rd_get (l.take mm) j hjt, rd_get l j hjl]; simp
        rw [if_pos (by simpa using hj), if_pos (by omega)]
        rw [drop_rd (l.take mm) j hjt, nacc_cons, hg]
        generalize hc : rd l j = c at *
        rw [wu32, wu32, wu32, w64 (by first | omega | (dsimp only; omega) | (simp only [List.length_cons, List.length_nil, List.length_append, List.length_drop, List.length_take, maxBytes]; omega) | (simp; omega)), show (n * 256 % 4294967296 + c % 4294967296) % 4294967296 = n * 256 % 4294967296 + c by omega, hr (n * 256 % 4294967296 + c, (j : Int) + 1, ()) ⟨⟨by first | omega | (dsimp only; omega) | (simp only [List.length_cons, List.length_nil, List.length_append, List.length_drop, List.length_take, maxBytes]; omega) | (simp; omega), by first | omega | (dsimp only; omega) | (simp only [List.length_cons, List.length_nil, List.length_append, List.length_drop, List.length_take, maxBytes]; omega) | (simp; omega)⟩, by first | omega | (dsimp only; omega) | (simp only [List.length_cons, List.length_nil, List.length_append, List.length_drop, List.length_take, maxBytes]; omega) | (simp; omega), by first | omega | (dsimp only; omega) | (simp only [List.length_cons, List.length_nil, List.length_append, List.length_drop, List.length_take, maxBytes]; omega) | (simp; omega)⟩ (by first | omega | (dsimp only; omega) | (simp only [List.length_cons, List.length_nil, List.length_append, List.length_drop, List.length_take, maxBytes]; omega) | (simp; omega))]
        simp only [show ((j : Int) + 1).toNat = j + 1 by omega]
      · have e : List.drop j (List.take mm l) = [] := List.drop_eq_nil_of_le (by simp; omega)
        rw [if_neg (by simpa using hj), e, if_pos (by omega), if_pos (by simp [maxBytes]; omega)]
        rfl
  · by_cases h1 : m < 1
    · simp [h1]
    · have h2 : m > 4 := by omega
      simp [h1, h2]
theorem rrows_eq (l : List Int) (m : Int) (hb : By l) (hl : l.length ≤ 35184372088832) : ref01_Rows.p (l, m, ()) = some (rows l m) := by
  unfold ref01_Rows.p rows
  simp only [jn_eq]
  by_cases h : 1 ≤ m ∧ m ≤ 4
  · have h1 : ¬ m < 1 := by omega
    have h2 : ¬ m > 4 := by omega
    obtain ⟨mm, rfl⟩ := Int.eq_ofNat_of_zero_le (show 0 ≤ m by omega)
    simp only [h1, h2, decide_false, Bool.false_eq_true, if_false, or_self]
    have hmm : 1 ≤ mm ∧ mm ≤ 4 := by omega
    refine (iterK_fix (F := fun x => some (if x.1.length % mm = 0 then (x.2.1 ++ chunks mm (x.1.length / mm) x.1, 0, ()) else ([], 2, ()))) (m := fun x => x.1.length) (I := fun x => By x.1 ∧ x.2.1.length + x.1.length ≤ 35184372088832) ?_ _ _ ⟨hb, by simpa using hl⟩ (by simp; omega)).trans ?_
    · rintro ⟨k, acc, _⟩ r ⟨hk, hk3⟩ hr
      simp only at hk hk3 ⊢
      by_cases h0 : k.length = 0
      · have hk0 : k = [] := List.eq_nil_of_length_eq_zero h0
        subst hk0
        simp [chunks]
      · rw [if_pos (by simp only [decide_eq_true_eq]; omega), rtake_eq k mm hk (by omega)]
        unfold take
        rw [if_neg (by omega)]
        by_cases hle : mm ≤ k.length
        · rw [if_neg (by omega)]
          simp only [Option.bind_some, Int.toNat_natCast, decide_true, Bool.not_true, Bool.false_eq_true, if_false]
          have hsub : (k.length - mm) % mm = k.length % mm := (Nat.mod_eq_sub_mod hle).symm
          have hdiv : k.length / mm = (k.length - mm) / mm + 1 := by
            rw [Nat.div_eq_sub_div (by omega) hle]
          rw [if_pos (by simp only [List.length_cons, List.length_nil, maxBytes]; omega), hr _ ⟨hk.drop _, by simp; omega⟩ (by simp; omega)]
          simp only [List.length_drop, hsub, hdiv, chunks, List.append_assoc, List.cons_append, List.nil_append]
        · rw [if_pos (by omega)]
          have : k.length % mm ≠ 0 := by rw [Nat.mod_eq_of_lt (by omega)]; exact h0
          simp [this]
    · by_cases h3 : l.length % mm = 0
      · have h3' : (l.length : Int) % mm = 0 := by exact_mod_cast h3
        simp [h3, h3']
      · have h3' : ¬ (l.length : Int) % mm = 0 := by exact_mod_cast h3
        simp [h3, h3']
  · by_cases h1 : m < 1
    · simp [h1]
    · have h2 : m > 4 := by omega
      simp [h1, h2]
/-- A number that may stand in so many bytes. -/
def fits (n m : Int) : Bool := decide (m ≥ 4 ∨ n / 256 ^ m.toNat = 0)
def putB (l : List Int) (n m : Int) : List Int × Int × Unit := if m < 1 ∨ m > 4 then ([], 1, ()) else if fits n m = true then (l ++ be n m.toNat, 0, ()) else ([], 5, ())
theorem pow8 {k : Nat} (hk : k ≤ 4) : (2 : Int) ^ (min (8 * k) 32) = 256 ^ k := by
  have : k = 0 ∨ k = 1 ∨ k = 2 ∨ k = 3 ∨ k = 4 := by omega
  rcases this with rfl | rfl | rfl | rfl | rfl <;> decide
theorem put_eq (l : List Int) (n m : Int) (hn : 0 ≤ n ∧ n < 4294967296) (hl : l.length ≤ 140737488355000) : octet_Put.p (l, n, m, ()) = some (putB l n m) := by
  unfold octet_Put.p putB
  simp only [isMany_eq, Option.bind_some, jn_eq]
  by_cases h : 1 ≤ m ∧ m ≤ 4
  · obtain ⟨mm, rfl⟩ := Int.eq_ofNat_of_zero_le (show 0 ≤ m by omega)
    have e8 : (IntKind.i64.wrap (8 * (mm : Int))) = ((8 * mm : Nat) : Int) := by rw [w64 (by omega)]; omega
    rw [if_neg (by simpa using h), if_neg (show ¬ ((mm : Int) < 1 ∨ (mm : Int) > 4) by omega)]
    have main : ∀ (c : Bool), c = !fits n mm → (if c = true then (some (([] : List Int), (5 : Int), ()) : Option (List Int × Int × Unit)) else some (l ++ be n mm, 0, ())) = some (if fits n mm = true then (l ++ be n (mm : Int).toNat, 0, ()) else ([], 5, ())) := by
      intro c hc
      subst hc
      cases fits n mm <;> rfl
    have hloop : ∀ (c : Bool), c = !fits n mm → ∀ (A : Option (List Int × Int × Unit)), A = some (l ++ be n mm, 0, ()) → (if c = true then (some (([] : List Int), (5 : Int), ()) : Option (List Int × Int × Unit)) else A) = some (if fits n mm = true then (l ++ be n (mm : Int).toNat, 0, ()) else ([], 5, ())) := by
      intro c hc A hA
      rw [hA]; exact main c hc
    have hit : ∀ (b : (List Int × Int × Unit) → ((List Int × Int × Unit) → Option (List Int × Int × Unit)) → Option (List Int × Int × Unit)),
        (∀ acc k r, k ≤ 3 → acc.length ≤ 140737488355004 → b (acc, (k : Nat), ()) r = r (acc ++ [(n / 256 ^ k) % 256], (k : Int) - 1, ())) → (∀ acc r, b (acc, -1, ()) r = some (acc, 0, ())) → iterK 4611686018427387904 b (l, (mm : Int) - 1, ()) = some (l ++ be n mm, 0, ()) := by
      intro b hb1 hb2
      refine (iterK_fix (F := fun x : List Int × Int × Unit => some (x.1 ++ be n (x.2.1 + 1).toNat, 0, ())) (m := fun x => (x.2.1 + 1).toNat) (I := fun x => (-1 ≤ x.2.1 ∧ x.2.1 ≤ 3) ∧ x.1.length + (x.2.1 + 1).toNat ≤ 140737488355004) ?_ _ _ ⟨⟨by first | omega | (dsimp only; omega) | (simp only [List.length_cons, List.length_nil, List.length_append, List.length_drop, List.length_take, maxBytes]; omega) | (simp; omega), by first | omega | (dsimp only; omega) | (simp only [List.length_cons, List.length_nil, List.length_append, List.length_drop, List.length_take, maxBytes]; omega) | (simp; omega)⟩, by first | omega | (dsimp only; omega) | (simp only [List.length_cons, List.length_nil, List.length_append, List.length_drop, List.length_take, maxBytes]; omega) | (simp; omega)⟩ (by first | omega | (dsimp only; omega) | (simp only [List.length_cons, List.length_nil, List.length_append, List.length_drop, List.length_take, maxBytes]; omega) | (simp; omega))).trans (by simp)
      rintro ⟨acc, i, _⟩ r ⟨⟨i0, i1⟩, i2⟩ hr
      simp only at i0 i1 i2 ⊢
      by_cases hi : i = -1
      · subst hi
        rw [hb2]; simp [be]
      · obtain ⟨k, rfl⟩ := Int.eq_ofNat_of_zero_le (show 0 ≤ i by omega)
        rw [hb1 acc k r (by omega) (by omega), hr _ ⟨⟨by first | omega | (dsimp only; omega) | (simp only [List.length_cons, List.length_nil, List.length_append, List.length_drop, List.length_take, maxBytes]; omega) | (simp; omega), by first | omega | (dsimp only; omega) | (simp only [List.length_cons, List.length_nil, List.length_append, List.length_drop, List.length_take, maxBytes]; omega) | (simp; omega)⟩, by first | omega | (dsimp only; omega) | (simp only [List.length_cons, List.length_nil, List.length_append, List.length_drop, List.length_take, maxBytes]; omega) | (simp; omega)⟩ (by first | omega | (dsimp only; omega) | (simp only [List.length_cons, List.length_nil, List.length_append, List.length_drop, List.length_take, maxBytes]; omega) | (simp; omega))]
        simp only [show ((k : Int) - 1 + 1).toNat = k by omega, show ((k : Int) + 1).toNat = k + 1 by omega, be, List.append_assoc, List.cons_append, List.nil_append]
    have hmake : ∀ X : Option (List Int × Int × Unit), X = some (l ++ be n mm, 0, ()) → (if (0 : Int) ≤ 0 ∧ (0 : Int) ≤ IntKind.i64.wrap ((l.length : Int) + mm) ∧ IntKind.i64.wrap ((l.length : Int) + mm) ≤ ((maxBytes / 1 : Nat) : Int) then (if (List.replicate (Int.toNat 0) (0 : Int)).length + l.length ≤ maxBytes / 1 then X else none) else none) = some (l ++ be n mm, 0, ()) := by
      intro X hX
      rw [w64 (by omega), if_pos (by simp [maxBytes]; omega), if_pos (by simp [maxBytes]; omega), hX]
    by_cases h4 : (mm : Int) < 4
    · rw [if_pos (by simpa using h4), e8, if_neg (by omega)]
      refine hloop _ ?_ _ (hmake _ ?_)
      · have e : ((8 * mm : Nat) : Int).toNat = 8 * mm := rfl
        rw [e, pow8 (by omega), fdiv_pos (Int.pow_nonneg (by decide))]
        unfold fits
        have e2 : ((mm : Int) ≥ 4 ∨ n / 256 ^ (mm : Int).toNat = 0) ↔ n / 256 ^ mm = 0 := by rw [Int.toNat_natCast]; omega
        simp only [e2]
      · rw [w64 (x := (mm : Int) - 1) (by omega), show List.replicate (Int.toNat 0) (0 : Int) ++ l = l from rfl]
        refine hit _ ?_ ?_
        · intro acc k r hk hacc
          have e : (IntKind.i64.wrap (8 * (k : Int))) = ((8 * k : Nat) : Int) := by rw [w64 (by omega)]; omega
          have e' : ((8 * k : Nat) : Int).toNat = 8 * k := rfl
          simp only [e, e']
          rw [if_pos (by simp), if_neg (by omega), if_pos (by first | omega | (dsimp only; omega) | (simp only [List.length_cons, List.length_nil, List.length_append, List.length_drop, List.length_take, maxBytes]; omega) | (simp; omega)), pow8 (by omega), fdiv_pos (Int.pow_nonneg (by decide)), wu8, w64 (by omega)]
        · intro acc r
          rw [if_neg (by simp)]
    · rw [if_neg (by simpa using h4)]
      refine hloop _ ?_ _ (hmake _ ?_)
      · unfold fits
        have e2 : ((mm : Int) ≥ 4 ∨ n / 256 ^ (mm : Int).toNat = 0) := by omega
        simp only [e2, decide_true, Bool.not_true]
      · rw [w64 (x := (mm : Int) - 1) (by omega), show List.replicate (Int.toNat 0) (0 : Int) ++ l = l from rfl]
        refine hit _ ?_ ?_
        · intro acc k r hk hacc
          have e : (IntKind.i64.wrap (8 * (k : Int))) = ((8 * k : Nat) : Int) := by rw [w64 (by omega)]; omega
          have e' : ((8 * k : Nat) : Int).toNat = 8 * k := rfl
          simp only [e, e']
          rw [if_pos (by simp), if_neg (by omega), if_pos (by first | omega | (dsimp only; omega) | (simp only [List.length_cons, List.length_nil, List.length_append, List.length_drop, List.length_take, maxBytes]; omega) | (simp; omega)), pow8 (by omega), fdiv_pos (Int.pow_nonneg (by decide)), wu8, w64 (by omega)]
        · intro acc r
          rw [if_neg (by simp)]
  · rw [if_pos (by simp only [decide_eq_false h, Bool.not_false]), if_pos (by omega)]
/-- A row of numbers, as bytes. -/
def rowB (xs : List Int) (m : Int) : List Int × Int × Unit := if m < 1 ∨ m > 4 then ([], 1, ()) else if (xs.all fun n => fits n m) = true then (xs.flatMap fun n => be n m.toNat, 0, ()) else ([], 5, ())
theorem row_eq (xs : List Int) (m : Int) (hx : ∀ x ∈ xs, 0 ≤ x ∧ x < 4294967296) (hl : xs.length ≤ 10000000000) : octet_Row.p (xs, m, ()) = some (rowB xs m) := by
  unfold octet_Row.p rowB
  simp only [isMany_eq, Option.bind_some, jn_eq]
  by_cases h : 1 ≤ m ∧ m ≤ 4
  · rw [if_neg (by simpa using h), if_neg (show ¬ (m < 1 ∨ m > 4) by omega)]
    refine (iterK_fix (F := fun x : List Int × Int × Unit => some (if ((xs.drop x.2.1.toNat).all fun n => fits n m) = true then (x.1 ++ ((xs.drop x.2.1.toNat).flatMap fun n => be n m.toNat), 0, ()) else ([], 5, ()))) (m := fun x => xs.length - x.2.1.toNat) (I := fun x => (0 ≤ x.2.1 ∧ x.2.1 ≤ (xs.length : Int)) ∧ x.1.length ≤ 4 * x.2.1.toNat) ?_ _ _ ⟨⟨by first | omega | (dsimp only; omega) | (simp only [List.length_cons, List.length_nil, List.length_append, List.length_drop, List.length_take, maxBytes]; omega) | (simp; omega), by first | omega | (dsimp only; omega) | (simp only [List.length_cons, List.length_nil, List.length_append, List.length_drop, List.length_take, maxBytes]; omega) | (simp; omega)⟩, by first | omega | (dsimp only; omega) | (simp only [List.length_cons, List.length_nil, List.length_append, List.length_drop, List.length_take, maxBytes]; omega) | (simp; omega)⟩ (by first | omega | (dsimp only; omega) | (simp only [List.length_cons, List.length_nil, List.length_append, List.length_drop, List.length_take, maxBytes]; omega) | (simp; omega))).trans (by simp)
    rintro ⟨acc, i, _⟩ r ⟨⟨i0, i1⟩, i2⟩ hr
    obtain ⟨j, rfl⟩ := Int.eq_ofNat_of_zero_le i0
    simp only [Int.toNat_natCast] at *
    by_cases hj : j < xs.length
    · have hxm := hx _ (rd_mem xs j hj)
      rw [if_pos (by simpa using hj), if_pos (by omega), put_eq [] (rd xs j) m hxm (by simp), drop_rd xs j hj]
      unfold putB
      rw [if_neg (show ¬ (m < 1 ∨ m > 4) by omega)]
      have hbl := be_length (rd xs j) m.toNat
      simp only [List.all_cons, List.flatMap_cons, Option.bind_some]
      cases hf : fits (rd xs j) m with
      | true =>
        simp only [if_true, Bool.true_and, List.nil_append]
        rw [if_neg (by simp), if_pos (by simp only [hbl, maxBytes]; omega), w64 (by omega), hr _ ⟨⟨by first | omega | (dsimp only; omega) | (simp only [List.length_cons, List.length_nil, List.length_append, List.length_drop, List.length_take, maxBytes]; omega) | (simp; omega), by first | omega | (dsimp only; omega) | (simp only [List.length_cons, List.length_nil, List.length_append, List.length_drop, List.length_take, maxBytes]; omega) | (simp; omega)⟩, by simp only [List.length_append, hbl]; omega⟩ (by first | omega | (dsimp only; omega) | (simp only [List.length_cons, List.length_nil, List.length_append, List.length_drop, List.length_take, maxBytes]; omega) | (simp; omega))]
        simp only [show ((j : Int) + 1).toNat = j + 1 by omega, List.append_assoc]
      | false => simp
    · rw [if_neg (by simpa using hj), List.drop_eq_nil_of_le (by omega)]
      simp
  · rw [if_pos (by simp only [decide_eq_false h, Bool.not_false]), if_pos (by omega)]
end Go.Proofs.YthbcmgpmjljdeaaGreat.F
