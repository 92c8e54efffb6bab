/- Numbers off bytes and as bytes: what the chapter on octets computes. -/
import Derived.Test.YthhklfepclgcbaaLBase
import Derived.Test.YthhklfepclgcbaaP
set_option linter.unusedVariables false
set_option maxRecDepth 100000
set_option linter.unusedSimpArgs false
open Go Go.Proofs.Fr
namespace Go.Proofs.Ythhklfepclgcbaa.F
theorem isMany_eq (m : Int) : octet_isMany.p (m, ()) = some (decide (1 ≤ m ∧ m ≤ 4), ()) := by
  unfold octet_isMany.p
  by_cases h : 1 ≤ m <;> simp [jn_eq, h]
theorem number_eq (l : List Int) (hb : By l) (hs : l.length ≤ 140737488355328) : octet_number.p (l, ()) = some (num l, ()) := by
  unfold octet_number.p
  simp only [jn_eq]
  refine (iterK_fix (F := fun x => some (nacc x.1 (l.drop x.2.1.toNat), ())) (m := fun x => l.length - x.2.1.toNat) (I := fun x => (0 ≤ x.2.1 ∧ x.2.1 ≤ (l.length : Int)) ∧ 0 ≤ x.1 ∧ x.1 < 4294967296) ?_ _ _ ⟨by simp, by simp⟩ (by simp; omega)).trans rfl
  rintro ⟨n, i, _⟩ r ⟨⟨h0, h1⟩, h2, h3⟩ hr
  obtain ⟨j, rfl⟩ := Int.eq_ofNat_of_zero_le h0
  simp only [Int.toNat_natCast] at *
  by_cases hj : j < l.length
  · have hm := hb.at j hj
    rw [if_pos (by simpa using hj), if_pos (by omega)]
    generalize hc : rd l j = c at *
    rw [drop_rd l j hj, nacc_cons, hc, wu32 c, wu32, or_low (by first | omega | (dsimp only; omega) | (simp only [List.length_cons, List.length_nil, List.length_append, List.length_drop, List.length_take, maxBytes]; omega) | (simp; omega)) (by first | omega | (dsimp only; omega) | (simp only [List.length_cons, List.length_nil, List.length_append, List.length_drop, List.length_take, maxBytes]; omega) | (simp; omega)) (by first | omega | (dsimp only; omega) | (simp only [List.length_cons, List.length_nil, List.length_append, List.length_drop, List.length_take, maxBytes]; omega) | (simp; omega)) (by first | omega | (dsimp only; omega) | (simp only [List.length_cons, List.length_nil, List.length_append, List.length_drop, List.length_take, maxBytes]; omega) | (simp; omega)) (by first | omega | (dsimp only; omega) | (simp only [List.length_cons, List.length_nil, List.length_append, List.length_drop, List.length_take, maxBytes]; omega) | (simp; omega)), w64 (by first | omega | (dsimp only; omega) | (simp only [List.length_cons, List.length_nil, List.length_append, List.length_drop, List.length_take, maxBytes]; omega) | (simp; omega)), hr (n * 2 ^ 8 % 4294967296 + c % 4294967296, (j : Int) + 1, ()) ⟨⟨by first | omega | (dsimp only; omega) | (simp only [List.length_cons, List.length_nil, List.length_append, List.length_drop, List.length_take, maxBytes]; omega) | (simp; omega), by first | omega | (dsimp only; omega) | (simp only [List.length_cons, List.length_nil, List.length_append, List.length_drop, List.length_take, maxBytes]; omega) | (simp; omega)⟩, by first | omega | (dsimp only; omega) | (simp only [List.length_cons, List.length_nil, List.length_append, List.length_drop, List.length_take, maxBytes]; omega) | (simp; omega), by first | omega | (dsimp only; omega) | (simp only [List.length_cons, List.length_nil, List.length_append, List.length_drop, List.length_take, maxBytes]; omega) | (simp; omega)⟩ (by first | omega | (dsimp only; omega) | (simp only [List.length_cons, List.length_nil, List.length_append, List.length_drop, List.length_take, maxBytes]; omega) | (simp; omega))]
    simp only [show ((j : Int) + 1).toNat = j + 1 by omega, show (n * 2 ^ 8) % 4294967296 + c % 4294967296 = n * 256 % 4294967296 + c by omega]
  · rw [if_neg (by simpa using hj), List.drop_eq_nil_of_le (by omega)]
    rfl
/-- Bytes off a row. -/
def cut (l : List Int) (n : Int) : List Int × List Int × Int × Unit :=
  if n < 0 then ([], [], 1, ()) else if n > (l.length : Int) then ([], [], 2, ()) else (l.take n.toNat, l.drop n.toNat, 0, ())
theorem cut_eq (l : List Int) (n : Int) (hl : l.length ≤ 140737488355328) : octet_Cut.p (l, n, ()) = some (cut l n) := by
  unfold octet_Cut.p cut bytes_Clone.p maxBytes
  by_cases h : n < 0
  · simp [h]
  · by_cases h2 : n > (l.length : Int)
    · simp [h, h2]
    · have h3 : n ≤ l.length := by omega
      have h4 : 0 ≤ n := by omega
      have e1 : (l.drop 0).take n.toNat = l.take n.toNat := rfl
      simp only [h, h2, decide_false, Bool.false_eq_true, if_false, Int.toNat_natCast, List.take_length]
      rw [if_pos (by omega)]
      have e2 : List.drop (Int.toNat 0) (List.take n.toNat l) = l.take n.toNat := rfl
      simp only [e2]
      rw [if_pos (by simp; omega)]
      simp only [Option.bind_some]
      rw [if_pos (by omega), if_pos (by simp; omega)]
      rfl
/-- A number off bytes. -/
def take (l : List Int) (m : Int) : Int × List Int × Int × Unit :=
  if m < 1 ∨ m > 4 then (0, [], 1, ()) else if (l.length : Int) < m then (0, [], 2, ()) else (num (l.take m.toNat), l.drop m.toNat, 0, ())
theorem take_eq (l : List Int) (m : Int) (hb : By l) (hl : l.length ≤ 140737488355328) : octet_Take.p (l, m, ()) = some (take l m) := by
  unfold octet_Take.p take
  simp only [isMany_eq, cut_eq l m hl, Option.bind_some]
  by_cases h : 1 ≤ m ∧ m ≤ 4
  · rw [if_neg (by simpa using h), if_neg (by omega)]
    unfold cut
    rw [if_neg (by omega)]
    by_cases h2 : m > (l.length : Int)
    · rw [if_pos h2, if_pos (by omega), number_eq _ (by intro x hx; cases hx) (by simp)]
      rfl
    · rw [if_neg h2, if_neg (by omega)]
      simp only
      rw [number_eq _ (hb.take _) (by simp; omega)]
      rfl
  · rw [if_pos (by simp only [decide_eq_false h, Bool.not_false]), if_pos (by omega)]
/-- The first q numbers of so many bytes each. -/
def chunks (m : Nat) : Nat → List Int → List Int
  | 0, _ => []
  | q + 1, l => num (l.take m) :: chunks m q (l.drop m)
theorem chunks_length (m q : Nat) : ∀ l, (chunks m q l).length = q := by
  induction q with
  | zero => intro l; rfl
  | succ q ih => intro l; simp [chunks, ih]
theorem chunks_mem (m q : Nat) : ∀ l, By l → ∀ x ∈ chunks m q l, 0 ≤ x ∧ x < 4294967296 := by
  induction q with
  | zero => intro l _ x hx; cases hx
  | succ q ih =>
    intro l hb x hx
    rcases List.mem_cons.1 hx with rfl | hx
    · exact num_range _ (hb.take _)
    · exact ih _ (hb.drop _) x hx
def rows (l : List Int) (m : Int) : List Int × Int × Unit :=
  if m < 1 ∨ m > 4 then ([], 1, ()) else if (l.length : Int) % m = 0 then (chunks m.toNat (l.length / m.toNat) l, 0, ()) else ([], 2, ())
theorem chunks_nil (m : Nat) : ∀ q, chunks m (q / m) [] = chunks m (q / m) [] := fun _ => rfl
/-- A number that may stand in so many bytes. -/
def fits (n m : Int) : Bool := decide (m ≥ 4 ∨ n / 256 ^ m.toNat = 0)
def putB (l : List Int) (n m : Int) : List Int × Int × Unit := if m < 1 ∨ m > 4 then ([], 1, ()) else if fits n m = true then (l ++ be n m.toNat, 0, ()) else ([], 5, ())
theorem pow8 {k : Nat} (hk : k ≤ 4) : (2 : Int) ^ (min (8 * k) 32) = 256 ^ k := by
  have : k = 0 ∨ k = 1 ∨ k = 2 ∨ k = 3 ∨ k = 4 := by omega
  rcases this with rfl | rfl | rfl | rfl | rfl <;> decide
theorem put_eq (l : List Int) (n m : Int) (hn : 0 ≤ n ∧ n < 4294967296) (hl : l.length ≤ 140737488355000) : octet_Put.p (l, n, m, ()) = some (putB l n m) := by
  unfold octet_Put.p putB
  simp only [isMany_eq, Option.bind_some, jn_eq]
  by_cases h : 1 ≤ m ∧ m ≤ 4
  · obtain ⟨mm, rfl⟩ := Int.eq_ofNat_of_zero_le (show 0 ≤ m by omega)
    have e8 : (IntKind.i64.wrap (8 * (mm : Int))) = ((8 * mm : Nat) : Int) := by rw [w64 (by omega)]; omega
    rw [if_neg (by simpa using h), if_neg (show ¬ ((mm : Int) < 1 ∨ (mm : Int) > 4) by omega)]
    have main : ∀ (c : Bool), c = !fits n mm → (if c = true then (some (([] : List Int), (5 : Int), ()) : Option (List Int × Int × Unit)) else some (l ++ be n mm, 0, ())) = some (if fits n mm = true then (l ++ be n (mm : Int).toNat, 0, ()) else ([], 5, ())) := by
      intro c hc
      subst hc
      cases fits n mm <;> rfl
    have hloop : ∀ (c : Bool), c = !fits n mm → ∀ (A : Option (List Int × Int × Unit)), A = some (l ++ be n mm, 0, ()) → (if c = true then (some (([] : List Int), (5 : Int), ()) : Option (List Int × Int × Unit)) else A) = some (if fits n mm = true then (l ++ be n (mm : Int).toNat, 0, ()) else ([], 5, ())) := by
      intro c hc A hA
      rw [hA]; exact main c hc
    have hit : ∀ (b : (List Int × Int × Unit) → ((List Int × Int × Unit) → Option (List Int × Int × Unit)) → Option (List Int × Int × Unit)),
        (∀ acc k r, k ≤ 3 → acc.length ≤ 140737488355004 → b (acc, (k : Nat), ()) r = r (acc ++ [(n / 256 ^ k) % 256], (k : Int) - 1, ())) → (∀ acc r, b (acc, -1, ()) r = some (acc, 0, ())) → iterK 4611686018427387904 b (l, (mm : Int) - 1, ()) = some (l ++ be n mm, 0, ()) := by
      intro b hb1 hb2
      refine (iterK_fix (F := fun x : List Int × Int × Unit => some (x.1 ++ be n (x.2.1 + 1).toNat, 0, ())) (m := fun x => (x.2.1 + 1).toNat) (I := fun x => (-1 ≤ x.2.1 ∧ x.2.1 ≤ 3) ∧ x.1.length + (x.2.1 + 1).toNat ≤ 140737488355004) ?_ _ _ ⟨⟨by first | omega | (dsimp only; omega) | (simp only [List.length_cons, List.length_nil, List.length_append, List.length_drop, List.length_take, maxBytes]; omega) | (simp; omega), by first | omega | (dsimp only; omega) | (simp only [List.length_cons, List.length_nil, List.length_append, List.length_drop, List.length_take, maxBytes]; omega) | (simp; omega)⟩, by first | omega | (dsimp only; omega) | (simp only [List.length_cons, List.length_nil, List.length_append, List.length_drop, List.length_take, maxBytes]; omega) | (simp; omega)⟩ (by first | omega | (dsimp only; omega) | (simp only [List.length_cons, List.length_nil, List.length_append, List.length_drop, List.length_take, maxBytes]; omega) | (simp; omega))).trans (by simp)
      rintro ⟨acc, i, _⟩ r ⟨⟨i0, i1⟩, i2⟩ hr
      simp only at i0 i1 i2 ⊢
      by_cases hi : i = -1
      · subst hi
        rw [hb2]; simp [be]
      · obtain ⟨k, rfl⟩ := Int.eq_ofNat_of_zero_le (show 0 ≤ i by omega)
        rw [hb1 acc k r (by omega) (by omega), hr _ ⟨⟨by first | omega | (dsimp only; omega) | (simp only [List.length_cons, List.length_nil, List.length_append, List.length_drop, List.length_take, maxBytes]; omega) | (simp; omega), by first | omega | (dsimp only; omega) | (simp only [List.length_cons, List.length_nil, List.length_append, List.length_drop, List.length_take, maxBytes]; omega) | (simp; omega)⟩, by first | omega | (dsimp only; omega) | (simp only [List.length_cons, List.length_nil, List.length_append, List.length_drop, List.length_take, maxBytes]; omega) | (simp; omega)⟩ (by first | omega | (dsimp only; omega) | (simp only [List.length_cons, List.length_nil, List.length_append, List.length_drop, List.length_take, maxBytes]; omega) | (simp; omega))]
        simp only [show ((k : Int) - 1 + 1).toNat = k by omega, show ((k : Int) + 1).toNat = k + 1 by omega, be, List.append_assoc, List.cons_append, List.nil_append]
    have hmake : ∀ X : Option (List Int × Int × Unit), X = some (l ++ be n mm, 0, ()) → (if (0 : Int) ≤ 0 ∧ (0 : Int) ≤ IntKind.i64.wrap ((l.length : Int) + mm) ∧ IntKind.i64.wrap ((l.length : Int) + mm) ≤ ((maxBytes / 1 : Nat) : Int) then (if (List.replicate (Int.toNat 0) (0 : Int)).length + l.length ≤ maxBytes / 1 then X else none) else none) = some (l ++ be n mm, 0, ()) := by
      intro X hX
      rw [w64 (by omega), if_pos (by simp [maxBytes]; omega), if_pos (by simp [maxBytes]; omega), hX]
    by_cases h4 : (mm : Int) < 4
    · rw [if_pos (by simpa using h4), e8, if_neg (by omega)]
      refine hloop _ ?_ _ (hmake _ ?_)
      · have e : ((8 * mm : Nat) : Int).toNat = 8 * mm := rfl
        rw [e, pow8 (by omega), fdiv_pos (Int.pow_nonneg (by decide))]
        unfold fits
        have e2 : ((mm : Int) ≥ 4 ∨ n / 256 ^ (mm : Int).toNat = 0) ↔ n / 256 ^ mm = 0 := by rw [Int.toNat_natCast]; omega
        simp only [e2]
      · rw [w64 (x := (mm : Int) - 1) (by omega), show List.replicate (Int.toNat 0) (0 : Int) ++ l = l from rfl]
        refine hit _ ?_ ?_
        · intro acc k r hk hacc
          have e : (IntKind.i64.wrap (8 * (k : Int))) = ((8 * k : Nat) : Int) := by rw [w64 (by omega)]; omega
          have e' : ((8 * k : Nat) : Int).toNat = 8 * k := rfl
          simp only [e, e']
          rw [if_pos (by simp), if_neg (by omega), if_pos (by first | omega | (dsimp only; omega) | (simp only [List.length_cons, List.length_nil, List.length_append, List.length_drop, List.length_take, maxBytes]; omega) | (simp; omega)), pow8 (by omega), fdiv_pos (Int.pow_nonneg (by decide)), wu8, w64 (by omega)]
        · intro acc r
          rw [if_neg (by simp)]
    · rw [if_neg (by simpa using h4)]
      refine hloop _ ?_ _ (hmake _ ?_)
      · unfold fits
        have e2 : ((mm : Int) ≥ 4 ∨ n / 256 ^ (mm : Int).toNat = 0) := by omega
        simp only [e2, decide_true, Bool.not_true]
      · rw [w64 (x := (mm : Int) - 1) (by omega), show List.replicate (Int.toNat 0) (0 : Int) ++ l = l from rfl]
        refine hit _ ?_ ?_
        · intro acc k r hk hacc
          have e : (IntKind.i64.wrap (8 * (k : Int))) = ((8 * k : Nat) : Int) := by rw [w64 (by omega)]; omega
          have e' : ((8 * k : Nat) : Int).toNat = 8 * k := rfl
          simp only [e, e']
          rw [if_pos (by simp), if_neg (by omega), if_pos (by first | omega | (dsimp only; omega) | (simp only [List.length_cons, List.length_nil, List.length_append, List.length_drop, List.length_take, maxBytes]; omega) | (simp; omega)), pow8 (by omega), fdiv_pos (Int.pow_nonneg (by decide)), wu8, w64 (by omega)]
        · intro acc r
          rw [if_neg (by simp)]
  · rw [if_pos (by simp only [decide_eq_false h, Bool.not_false]), if_pos (by omega)]
/-- A row of numbers, as bytes. -/
def rowB (xs : List Int) (m : Int) : List Int × Int × Unit := if m < 1 ∨ m > 4 then ([], 1, ()) else if (xs.all fun n => fits n m) = true then (xs.flatMap fun n => be n m.toNat, 0, ()) else ([], 5, ())
end Go.Proofs.Ythhklfepclgcbaa.F
