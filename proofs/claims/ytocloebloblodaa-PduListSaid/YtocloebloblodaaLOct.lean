/- Numbers off bytes and as bytes: what the chapter on octets computes. -/
import Derived.Test.YtocloebloblodaaLBase
import Derived.Test.YtocloebloblodaaP
set_option linter.unusedVariables false
set_option maxRecDepth 100000
set_option linter.unusedSimpArgs false
open Go Go.Proofs.Fr
namespace Go.Proofs.Ytocloebloblodaa.F
theorem isMany_eq (m : Int) : octet_isMany.p (m, ()) = some (decide (1 ≤ m ∧ m ≤ 4), ()) := by
  unfold octet_isMany.p
  by_cases h : 1 ≤ m <;> simp [jn_eq, h]
theorem number_eq (l : List Int) (hb : By l) (hs : l.length ≤ 140737488355328) : octet_number.p (l, ()) = some (num l, ()) := by
  unfold octet_number.p
  simp only [jn_eq]
  refine (iterK_fix (F := fun x => some (nacc x.1 (l.drop x.2.1.toNat), ())) (m := fun x => l.length - x.2.1.toNat) (I := fun x => (0 ≤ x.2.1 ∧ x.2.1 ≤ (l.length : Int)) ∧ 0 ≤ x.1 ∧ x.1 < 4294967296) ?_ _ _ ⟨by simp, by simp⟩ (by simp; omega)).trans rfl
  rintro ⟨n, i, _⟩ r ⟨⟨h0, h1⟩, h2, h3⟩ hr
  obtain ⟨j, rfl⟩ := Int.eq_ofNat_of_zero_le h0
  simp only [Int.toNat_natCast] at *
  by_cases hj : j < l.length
  · have hm := hb.at j hj
    rw [if_pos (by simpa using hj), if_pos (by omega)]
    generalize hc : rd l j = c at *
    rw [drop_rd l j hj, nacc_cons, hc, wu32 c, wu32, or_low (by first | omega | (dsimp only; omega) | (simp only [List.length_cons, List.length_nil, List.length_append, List.length_drop, List.length_take, maxBytes]; omega) | (simp; omega)) (by first | omega | (dsimp only; omega) | (simp only [List.length_cons, List.length_nil, List.length_append, List.length_drop, List.length_take, maxBytes]; omega) | (simp; omega)) (by first | omega | (dsimp only; omega) | (simp only [List.length_cons, List.length_nil, List.length_append, List.length_drop, List.length_take, maxBytes]; omega) | (simp; omega)) (by first | omega | (dsimp only; omega) | (simp only [List.length_cons, List.length_nil, List.length_append, List.length_drop, List.length_take, maxBytes]; omega) | (simp; omega)) (by first | omega | (dsimp only; omega) | (simp only [List.length_cons, List.length_nil, List.length_append, List.length_drop, List.length_take, maxBytes]; omega) | (simp; omega)), w64 (by first | omega | (dsimp only; omega) | (simp only [List.length_cons, List.length_nil, List.length_append, List.length_drop, List.length_take, maxBytes]; omega) | (simp; omega)), hr (n * 2 ^ 8 % 4294967296 + c % 4294967296, (j : Int) + 1, ()) ⟨⟨by first | omega | (dsimp only; omega) | (simp only [List.length_cons, List.length_nil, List.length_append, List.length_drop, List.length_take, maxBytes]; omega) | (simp; omega), by first | omega | (dsimp only; omega) | (simp only [List.length_cons, List.length_nil, List.length_append, List.length_drop, List.length_take, maxBytes]; omega) | (simp; omega)⟩, by first | omega | (dsimp only; omega) | (simp only [List.length_cons, List.length_nil, List.length_append, List.length_drop, List.length_take, maxBytes]; omega) | (simp; omega), by first | omega | (dsimp only; omega) | (simp only [List.length_cons, List.length_nil, List.length_append, List.length_drop, List.length_take, maxBytes]; omega) | (simp; omega)⟩ (by first | omega | (dsimp only; omega) | (simp only [List.length_cons, List.length_nil, List.length_append, List.length_drop, List.length_take, maxBytes]; omega) | (simp; omega))]
    simp only [show ((j : Int) + 1).toNat = j + 1 by omega, show (n * 2 ^ 8) % 4294967296 + c % 4294967296 = n * 256 % 4294967296 + c by omega]
  · rw [if_neg (by simpa using hj), List.drop_eq_nil_of_le (by omega)]
    rfl
/-- Bytes off a row. -/
def cut (l : List Int) (n : Int) : List Int × List Int × Int × Unit :=
  if n < 0 then ([], [], 1, ()) else if n > (l.length : Int) then ([], [], 2, ()) else (l.take n.toNat, l.drop n.toNat, 0, ())
theorem cut_eq (l : List Int) (n : Int) (hl : l.length ≤ 140737488355328) : octet_Cut.p (l, n, ()) = some (cut l n) := by
  unfold octet_Cut.p cut bytes_Clone.p maxBytes
  by_cases h : n < 0
  · simp [h]
  · by_cases h2 : n > (l.length : Int)
    · simp [h, h2]
    · have h3 : n ≤ l.length := by omega
      have h4 : 0 ≤ n := by omega
      have e1 : (l.drop 0).take n.toNat = l.take n.toNat := rfl
      simp only [h, h2, decide_false, Bool.false_eq_true, if_false, Int.toNat_natCast, List.take_length]
      rw [if_pos (by omega)]
      have e2 : List.drop (Int.toNat 0) (List.take n.toNat l) = l.take n.toNat := rfl
      simp only [e2]
      rw [if_pos (by simp; omega)]
      simp only [Option.bind_some]
      rw [if_pos (by omega), if_pos (by simp; omega)]
      rfl
/-- A number off bytes. -/
def take (l : List Int) (m : Int) : Int × List Int × Int × Unit :=
  if m < 1 ∨ m > 4 then (0, [], 1, ()) else if (l.length : Int) < m then (0, [], 2, ()) else (num (l.take m.toNat), l.drop m.toNat, 0, ())
theorem take_eq (l : List Int) (m : Int) (hb : By l) (hl : l.length ≤ 140737488355328) : octet_Take.p (l, m, ()) = some (take l m) := by
  unfold octet_Take.p take
  simp only [isMany_eq, cut_eq l m hl, Option.bind_some]
  by_cases h : 1 ≤ m ∧ m ≤ 4
  · rw [if_neg (by simpa using h), if_neg (by omega)]
    unfold cut
    rw [if_neg (by omega)]
    by_cases h2 : m > (l.length : Int)
    · rw [if_pos h2, if_pos (by omega), number_eq _ (by intro x hx; cases hx) (by simp)]
      rfl
    · rw [if_neg h2, if_neg (by omega)]
      simp only
      rw [number_eq _ (hb.take _) (by simp; omega)]
      rfl
  · rw [if_pos (by simp only [decide_eq_false h, Bool.not_false]), if_pos (by omega)]
/-- The first q numbers of so many bytes each. -/
def chunks (m : Nat) : Nat → List Int → List Int
  | 0, _ => []
  | q + 1, l => num (l.take m) :: chunks m q (l.drop m)
theorem chunks_length (m q : Nat) : ∀ l, (chunks m q l).length = q := by
  induction q with
  | zero => intro l; rfl
  | succ q ih => intro l; simp [chunks, ih]
theorem chunks_mem (m q : Nat) : ∀ l, By l → ∀ x ∈ chunks m q l, 0 ≤ x ∧ x < 4294967296 := by
  induction q with
  | zero => intro l _ x hx; cases hx
  | succ q ih =>
    intro l hb x hx
    rcases List.mem_cons.1 hx with rfl | hx
    · exact num_range _ (hb.take _)
    · exact ih _ (hb.drop _) x hx
def rows (l : List Int) (m : Int) : List Int × Int × Unit :=
  if m < 1 ∨ m > 4 then ([], 1, ()) else if (l.length : Int) % m = 0 then (chunks m.toNat (l.length / m.toNat) l, 0, ()) else ([], 2, ())
theorem chunks_nil (m : Nat) : ∀ q, chunks m (q / m) [] = chunks m (q / m) [] := fun _ => rfl
/-- A number that may stand in so many bytes. -/
def fits (n m : Int) : Bool := decide (m ≥ 4 ∨ n / 256 ^ m.toNat = 0)
def putB (l : List Int) (n m : Int) : List Int × Int × Unit := if m < 1 ∨ m > 4 then ([], 1, ()) else if fits n m = true then (l ++ be n m.toNat, 0, ()) else ([], 5, ())
theorem pow8 {k : Nat} (hk : k ≤ 4) : (2 : Int) ^ (min (8 * k) 32) = 256 ^ k := by
  have : k = 0 ∨ k = 1 ∨ k = 2 ∨ k = 3 ∨ k = 4 := by omega
  rcases this with rfl | rfl | rfl | rfl | rfl <;> decide
/-- A row of numbers, as bytes. -/
def rowB (xs : List Int) (m : Int) : List Int × Int × Unit := if m < 1 ∨ m > 4 then ([], 1, ()) else if (xs.all fun n => fits n m) = true then (xs.flatMap fun n => be n m.toNat, 0, ()) else ([], 5, ())
end Go.Proofs.Ytocloebloblodaa.F
