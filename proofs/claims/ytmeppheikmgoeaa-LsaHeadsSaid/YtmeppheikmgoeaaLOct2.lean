/- Rows of numbers as bytes, and bytes as rows of numbers; the laws of octet's chapter rest on these. -/
import Derived.Test.YtmeppheikmgoeaaLOct
namespace Go.Proofs.Ytmeppheikmgoeaa.PLh
open Go.RowKit Go.Proofs.YtmeppheikmgoeaaW.PrintWords Go.Proofs.YtmeppheikmgoeaaW.PrintLast Go.Proofs.YtmeppheikmgoeaaW.PrintMore Go.Proofs.Ytmeppheikmgoeaa.Aid

/-- The first q numbers of so many bytes each. -/
def chunks (m : Nat) : Nat → List Int → List Int
  | 0, _ => []
  | q + 1, l => num (l.take m) :: chunks m q (l.drop m)
theorem chunks_length (m q : Nat) : ∀ l, (chunks m q l).length = q := by
  induction q with
  | zero => intro l; rfl
  | succ q ih => intro l; simp [chunks, ih]
def rows (l : List Int) (m : Int) : List Int × Int :=
  if m < 1 ∨ m > 4 then ([], 1) else if (l.length : Int) % m = 0 then (chunks m.toNat (l.length / m.toNat) l, 0) else ([], 2)

/-- Numbers as bytes, behind bytes. -/
def rowN (m : Int) : List Int → List Int → List Int × Int
  | acc, [] => (acc, 0)
  | acc, n :: l => if (put acc n m).2 = 0 then rowN m (put acc n m).1 l else ([], (put acc n m).2)
def row (l : List Int) (m : Int) : List Int × Int := if m < 1 ∨ m > 4 then ([], 1) else rowN m [] l
theorem put_nil (acc : List Int) (n m : Int) : (put acc n m).2 = (put [] n m).2 ∧ ((put acc n m).2 = 0 → (put acc n m).1 = acc ++ (put [] n m).1) := by
  unfold put
  split
  · simp
  · split <;> simp
theorem put_length (acc : List Int) (n m : Int) : (put acc n m).1.length ≤ acc.length + 4 := by
  unfold put
  split
  · simp
  · split
    · simp
    · simp [be_length]; omega
theorem row_l0 (m : Int) (l : List Int) (hb : ∀ x ∈ l, 0 ≤ x ∧ x < 4294967296) (hl : l.length < 35184372088832) : ∀ (j i : Nat) (acc : List Int), i + j = l.length → acc.length + 4 * j + 4 < 140737488355328 →
    Ev (fun k => octet_Row.l0 k m acc l (l.length : Int) (i : Int)) (rowN m acc (l.drop i)) := by
  intro j
  induction j with
  | zero =>
    intro i acc hi ha
    obtain rfl : i = l.length := by omega
    refine Ev.done fun k => ?_
    simp [octet_Row.l0, rowN]
  | succ j ih =>
    intro i acc hi ha
    have hi' : i < l.length := by omega
    have hp := put_nil acc (rd l i) m
    have hpl := put_length acc (rd l i) m
    have hpn := put_length [] (rd l i) m
    refine Ev.step (f := fun k => ((octet_Put.f k ([] : List Int) (rd l (i : Int)) m).bind fun bt => (if bt.2 = 0 then (if acc.length + bt.1.length < 140737488355328 then (octet_Row.l0 k m (acc ++ bt.1) l (l.length : Int) ((i + 1 : Nat) : Int)) else (none)) else (some (([] : List Int), bt.2))))) (fun k => ?_) ?_
    · simp only [octet_Row.l0]
      rw [if_pos (by omega), if_pos (by omega), if_pos (by omega), w64 (by omega)]
      rfl
    · refine Ev.bind (f := fun k (bt : List Int × Int) => (if bt.2 = 0 then (if acc.length + bt.1.length < 140737488355328 then (octet_Row.l0 k m (acc ++ bt.1) l (l.length : Int) ((i + 1 : Nat) : Int)) else (none)) else (some (([] : List Int), bt.2)))) (put_ev [] (rd l i) m (hb _ (rd_mem l i (by omega) (by omega))) (by simp)) ?_
      rw [drop_rd l i hi']
      simp only [rowN]
      by_cases h : (put acc (rd l i) m).2 = 0
      · rw [if_pos h, hp.2 h]
        have hlen : acc.length + (put [] (rd l i) m).1.length < 140737488355328 := by simp at hpn; omega
        simp only [← hp.1, h, if_true, hlen]
        exact ih (i + 1) _ (by omega) (by simp at hpn ⊢; omega)
      · rw [if_neg h, hp.1]
        rw [hp.1] at h
        simp only [h, if_false]
        exact Ev.now _
theorem row_ev (l : List Int) (m : Int) (hb : ∀ x ∈ l, 0 ≤ x ∧ x < 4294967296) (hl : l.length < 1000000000) : Ev (fun k => octet_Row.f k l m) (row l m) := by
  unfold octet_Row.f row
  rw [isMany_eq]
  simp only [Option.bind_some]
  by_cases h : 1 ≤ m ∧ m ≤ 4
  · rw [if_neg (by omega)]
    simp only [show decide (1 ≤ m ∧ m ≤ 4) = true by simpa using h, if_true]
    simpa using row_l0 m l hb (by omega) l.length 0 [] (by omega) (by simp; omega)
  · rw [if_pos (by omega)]
    refine Ev.const fun k => ?_
    rw [if_neg (by simp; omega)]
theorem num_be (n : Int) (m : Nat) (hm : 1 ≤ m ∧ m ≤ 4) (h0 : 0 ≤ n) (h : n / 256 ^ m ≤ 0) : num (be n m) = n := by
  obtain ⟨h1, h2⟩ := hm
  obtain rfl | rfl | rfl | rfl : m = 1 ∨ m = 2 ∨ m = 3 ∨ m = 4 := by omega
  all_goals simp [be, num] at h ⊢; omega
theorem rowN_four : ∀ (l acc : List Int), (∀ x ∈ l, 0 ≤ x ∧ x < 4294967296) → rowN 4 acc l = (acc ++ l.flatMap (be · 4), 0) := by
  intro l
  induction l with
  | nil => intro acc _; simp [rowN]
  | cons n l ih =>
    intro acc hb
    have hn := hb n (by simp)
    have hp : put acc n 4 = (acc ++ be n 4, 0) := by
      unfold put
      rw [if_neg (by omega), if_neg (by simp; omega)]
      rfl
    simp only [rowN, hp]
    rw [if_pos trivial, ih _ (fun x hx => hb x (by simp [hx]))]
    simp
theorem chunks_four : ∀ (l : List Int), (∀ x ∈ l, 0 ≤ x ∧ x < 4294967296) → chunks 4 l.length (l.flatMap (be · 4)) = l := by
  intro l
  induction l with
  | nil => intro _; rfl
  | cons n l ih =>
    intro hb
    have hn := hb n (by simp)
    have h4 : (be n 4).length = 4 := be_length n 4
    simp only [List.flatMap_cons, List.length_cons, chunks]
    rw [List.take_left' h4, List.drop_left' h4, num_be n 4 (by omega) hn.1 (by simp; omega), ih (fun x hx => hb x (by simp [hx]))]
theorem flat_length (l : List Int) : (l.flatMap (be · 4)).length = 4 * l.length := by
  induction l with
  | nil => rfl
  | cons n l ih => simp [be_length, ih]; omega
theorem flat_mem (l : List Int) : ∀ x ∈ l.flatMap (be · 4), 0 ≤ x ∧ x ≤ 255 := by
  intro x hx
  obtain ⟨n, _, h⟩ := List.mem_flatMap.1 hx
  exact be_mem n 4 x h
end Go.Proofs.Ytmeppheikmgoeaa.PLh

