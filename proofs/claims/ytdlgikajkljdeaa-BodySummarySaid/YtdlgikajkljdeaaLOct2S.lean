/- Rows of numbers as bytes, and bytes as rows of numbers; the laws of octet's chapter rest on these. -/
import Derived.Test.YtdlgikajkljdeaaLOctS
namespace Go.Proofs.Ytdlgikajkljdeaa.PBd
open Go.RowKit Go.Proofs.YtdlgikajkljdeaaW.PrintWords Go.Proofs.YtdlgikajkljdeaaW.PrintLast Go.Proofs.YtdlgikajkljdeaaW.PrintMore Go.Proofs.Ytdlgikajkljdeaa.Aid

/-- The first q numbers of so many bytes each. -/
def chunks (m : Nat) : Nat → List Int → List Int
  | 0, _ => []
  | q + 1, l => num (l.take m) :: chunks m q (l.drop m)
theorem chunks_length (m q : Nat) : ∀ l, (chunks m q l).length = q := by
  induction q with
  | zero => intro l; rfl
  | succ q ih => intro l; simp [chunks, ih]
def rows (l : List Int) (m : Int) : List Int × Int :=
  if m < 1 ∨ m > 4 then ([], 1) else if (l.length : Int) % m = 0 then (chunks m.toNat (l.length / m.toNat) l, 0) else ([], 2)

theorem rows_l0 (m : Nat) (hm : 1 ≤ m ∧ m ≤ 4) : ∀ (q : Nat) (l acc : List Int), (∀ x ∈ l, 0 ≤ x ∧ x ≤ 255) → l.length = q * m → l.length < 140737488355328 → acc.length + q < 35184372088832 →
    Ev (fun k => octet_Rows.l0 k l (m : Int) acc) (acc ++ chunks m q l, 0) := by
  intro q
  induction q with
  | zero =>
    intro l acc _ hl _ _
    obtain rfl : l = [] := by cases l <;> simp at hl; rfl
    refine Ev.done fun k => ?_
    simp [octet_Rows.l0, chunks]
  | succ q ih =>
    intro l acc hb hl hs ha
    have hml : m ≤ l.length := by rw [hl, Nat.succ_mul]; omega
    have h2 := ih (l.drop m) (acc ++ [num (l.take m)]) (fun x hx => hb x (List.mem_of_mem_drop hx)) (by simp; rw [hl, Nat.succ_mul]; omega) (by simp; omega) (by simp; omega)
    refine Ev.step (f := fun k => (octet_number.f k (l.take m)).bind fun t => if acc.length < 35184372088832 then octet_Rows.l0 k (l.drop m) (m : Int) (acc ++ [t]) else none) (fun k => ?_) ?_
    · simp only [octet_Rows.l0]
      rw [if_pos (by omega), if_pos (by omega), if_pos (by omega)]
      rfl
    · refine Ev.bind (f := fun k t => if acc.length < 35184372088832 then octet_Rows.l0 k (l.drop m) (m : Int) (acc ++ [t]) else none) (num_ev _ (fun x hx => hb x (List.mem_of_mem_take hx)) (by simp; omega)) ?_
      simp only [show acc.length < 35184372088832 by omega, if_true]
      simpa [chunks] using h2
theorem rows_ev (l : List Int) (m : Int) (hb : ∀ x ∈ l, 0 ≤ x ∧ x ≤ 255) (hs : l.length < 35184372088832) : Ev (fun k => octet_Rows.f k l m) (rows l m) := by
  unfold octet_Rows.f rows
  rw [isMany_eq]
  simp only [Option.bind_some]
  by_cases h : 1 ≤ m ∧ m ≤ 4
  · rw [if_neg (by omega)]
    simp only [show decide (1 ≤ m ∧ m ≤ 4) = true by simpa using h, if_true, show ¬ m = 0 by omega, if_false]
    by_cases h2 : (l.length : Int) % m = 0
    · simp only [if_pos h2]
      obtain ⟨mm, rfl⟩ := Int.eq_ofNat_of_zero_le (show 0 ≤ m by omega)
      simp only [Int.toNat_natCast]
      have h3 : l.length % mm = 0 := by exact_mod_cast h2
      have h4 : l.length = l.length / mm * mm := by have := Nat.div_add_mod l.length mm; rw [h3, Nat.mul_comm] at this; omega
      have h5 : l.length / mm ≤ l.length := Nat.div_le_self _ _
      have := rows_l0 mm (by omega) (l.length / mm) l [] hb h4 (by omega) (by simp; omega)
      simpa using this
    · simp only [if_neg h2]
      exact Ev.now _
  · rw [if_pos (by omega)]
    refine Ev.const fun k => ?_
    rw [if_neg (by simp; omega)]

theorem rrows_l0 (m : Nat) (hm : 1 ≤ m ∧ m ≤ 4) (r : Nat) (hr : r < m) : ∀ (q : Nat) (l acc : List Int), (∀ x ∈ l, 0 ≤ x ∧ x ≤ 255) → l.length = q * m + r → l.length < 140737488355328 → acc.length + q < 35184372088832 →
    Ev (fun k => crossroadsref01_Rows.l0 k l (m : Int) acc) (if r = 0 then (acc ++ chunks m q l, 0) else ([], 2)) := by
  intro q
  induction q with
  | zero =>
    intro l acc hb hl hs ha
    by_cases h : r = 0
    · subst h
      obtain rfl : l = [] := by cases l <;> simp at hl; rfl
      refine Ev.done fun k => ?_
      simp [crossroadsref01_Rows.l0, chunks]
    · rw [if_neg h]
      refine Ev.step (f := fun k => (crossroadsref01_Take.f k l (m : Int)).bind fun bt => (if bt.2.2 = 0 then (if acc.length < 35184372088832 then (crossroadsref01_Rows.l0 k bt.2.1 (m : Int) (acc ++ [bt.1])) else (none)) else (some (([] : List Int), bt.2.2)))) (fun k => ?_) ?_
      · simp only [crossroadsref01_Rows.l0]
        rw [if_pos (by omega)]
      · refine Ev.bind (f := fun k (bt : Int × List Int × Int) => (if bt.2.2 = 0 then (if acc.length < 35184372088832 then (crossroadsref01_Rows.l0 k bt.2.1 (m : Int) (acc ++ [bt.1])) else (none)) else (some (([] : List Int), bt.2.2)))) (rtake_ev l m hb hs) ?_
        have ht : take l (m : Int) = (0, [], 2) := by
          unfold take
          rw [if_neg (by omega), if_pos (by omega)]
        rw [ht]
        exact Ev.const fun k => by simp
  | succ q ih =>
    intro l acc hb hl hs ha
    have hml : m ≤ l.length := by rw [hl, Nat.succ_mul]; omega
    have h2 := ih (l.drop m) (acc ++ [num (l.take m)]) (fun x hx => hb x (List.mem_of_mem_drop hx)) (by simp; rw [hl, Nat.succ_mul]; omega) (by simp; omega) (by simp; omega)
    refine Ev.step (f := fun k => (crossroadsref01_Take.f k l (m : Int)).bind fun bt => (if bt.2.2 = 0 then (if acc.length < 35184372088832 then (crossroadsref01_Rows.l0 k bt.2.1 (m : Int) (acc ++ [bt.1])) else (none)) else (some (([] : List Int), bt.2.2)))) (fun k => ?_) ?_
    · simp only [crossroadsref01_Rows.l0]
      rw [if_pos (by omega)]
    · refine Ev.bind (f := fun k (bt : Int × List Int × Int) => (if bt.2.2 = 0 then (if acc.length < 35184372088832 then (crossroadsref01_Rows.l0 k bt.2.1 (m : Int) (acc ++ [bt.1])) else (none)) else (some (([] : List Int), bt.2.2)))) (rtake_ev l m hb hs) ?_
      have ht : take l (m : Int) = (num (l.take m), l.drop m, 0) := by
        unfold take
        rw [if_neg (by omega), if_neg (by omega)]
        rfl
      rw [ht]
      simp only [show acc.length < 35184372088832 by omega, if_true]
      simpa [chunks] using h2
theorem rrows_ev (l : List Int) (m : Int) (hb : ∀ x ∈ l, 0 ≤ x ∧ x ≤ 255) (hs : l.length < 35184372088832) : Ev (fun k => crossroadsref01_Rows.f k l m) (rows l m) := by
  unfold crossroadsref01_Rows.f rows
  by_cases h : m < 1
  · rw [if_pos (.inl h)]
    simp only [if_pos h]
    refine Ev.done fun k => ?_
    simp [crossroadsref01_Rows.j0]
  · simp only [if_neg h]
    by_cases h4 : m > 4
    · rw [if_pos (.inr h4)]
      refine Ev.done fun k => ?_
      simp [crossroadsref01_Rows.j0, h4]
    · rw [if_neg (by omega)]
      obtain ⟨mm, rfl⟩ := Int.eq_ofNat_of_zero_le (show 0 ≤ m by omega)
      simp only [Int.toNat_natCast]
      have h5 : l.length / mm ≤ l.length := Nat.div_le_self _ _
      have h6 : l.length = l.length / mm * mm + l.length % mm := by have := Nat.div_add_mod l.length mm; rw [Nat.mul_comm] at this; omega
      have := rrows_l0 mm (by omega) (l.length % mm) (Nat.mod_lt _ (by omega)) (l.length / mm) l [] hb h6 (by omega) (by simp; omega)
      have h7 : ((l.length : Int) % (mm : Int) = 0) ↔ l.length % mm = 0 := by omega
      refine Ev.step (f := fun k => crossroadsref01_Rows.l0 k l (mm : Int) []) (fun k => ?_) ?_
      · simp only [crossroadsref01_Rows.j0]
        rw [if_neg (by simp; omega)]
      · simpa [h7] using this

/-- Numbers as bytes, behind bytes. -/
def rowN (m : Int) : List Int → List Int → List Int × Int
  | acc, [] => (acc, 0)
  | acc, n :: l => if (put acc n m).2 = 0 then rowN m (put acc n m).1 l else ([], (put acc n m).2)
def row (l : List Int) (m : Int) : List Int × Int := if m < 1 ∨ m > 4 then ([], 1) else rowN m [] l
theorem put_nil (acc : List Int) (n m : Int) : (put acc n m).2 = (put [] n m).2 ∧ ((put acc n m).2 = 0 → (put acc n m).1 = acc ++ (put [] n m).1) := by
  unfold put
  split
  · simp
  · split <;> simp
theorem put_length (acc : List Int) (n m : Int) : (put acc n m).1.length ≤ acc.length + 4 := by
  unfold put
  split
  · simp
  · split
    · simp
    · simp [be_length]; omega
theorem row_l0 (m : Int) (l : List Int) (hb : ∀ x ∈ l, 0 ≤ x ∧ x < 4294967296) (hl : l.length < 35184372088832) : ∀ (j i : Nat) (acc : List Int), i + j = l.length → acc.length + 4 * j + 4 < 140737488355328 →
    Ev (fun k => octet_Row.l0 k m acc l (l.length : Int) (i : Int)) (rowN m acc (l.drop i)) := by
  intro j
  induction j with
  | zero =>
    intro i acc hi ha
    obtain rfl : i = l.length := by omega
    refine Ev.done fun k => ?_
    simp [octet_Row.l0, rowN]
  | succ j ih =>
    intro i acc hi ha
    have hi' : i < l.length := by omega
    have hp := put_nil acc (rd l i) m
    have hpl := put_length acc (rd l i) m
    have hpn := put_length [] (rd l i) m
    refine Ev.step (f := fun k => ((octet_Put.f k ([] : List Int) (rd l (i : Int)) m).bind fun bt => (if bt.2 = 0 then (if acc.length + bt.1.length < 140737488355328 then (octet_Row.l0 k m (acc ++ bt.1) l (l.length : Int) ((i + 1 : Nat) : Int)) else (none)) else (some (([] : List Int), bt.2))))) (fun k => ?_) ?_
    · simp only [octet_Row.l0]
      rw [if_pos (by omega), if_pos (by omega), if_pos (by omega), w64 (by omega)]
      rfl
    · refine Ev.bind (f := fun k (bt : List Int × Int) => (if bt.2 = 0 then (if acc.length + bt.1.length < 140737488355328 then (octet_Row.l0 k m (acc ++ bt.1) l (l.length : Int) ((i + 1 : Nat) : Int)) else (none)) else (some (([] : List Int), bt.2)))) (put_ev [] (rd l i) m (hb _ (rd_mem l i (by omega) (by omega))) (by simp)) ?_
      rw [drop_rd l i hi']
      simp only [rowN]
      by_cases h : (put acc (rd l i) m).2 = 0
      · rw [if_pos h, hp.2 h]
        have hlen : acc.length + (put [] (rd l i) m).1.length < 140737488355328 := by simp at hpn; omega
        simp only [← hp.1, h, if_true, hlen]
        exact ih (i + 1) _ (by omega) (by simp at hpn ⊢; omega)
      · rw [if_neg h, hp.1]
        rw [hp.1] at h
        simp only [h, if_false]
        exact Ev.now _
theorem row_ev (l : List Int) (m : Int) (hb : ∀ x ∈ l, 0 ≤ x ∧ x < 4294967296) (hl : l.length < 1000000000) : Ev (fun k => octet_Row.f k l m) (row l m) := by
  unfold octet_Row.f row
  rw [isMany_eq]
  simp only [Option.bind_some]
  by_cases h : 1 ≤ m ∧ m ≤ 4
  · rw [if_neg (by omega)]
    simp only [show decide (1 ≤ m ∧ m ≤ 4) = true by simpa using h, if_true]
    simpa using row_l0 m l hb (by omega) l.length 0 [] (by omega) (by simp; omega)
  · rw [if_pos (by omega)]
    refine Ev.const fun k => ?_
    rw [if_neg (by simp; omega)]
theorem num_be (n : Int) (m : Nat) (hm : 1 ≤ m ∧ m ≤ 4) (h0 : 0 ≤ n) (h : n / 256 ^ m ≤ 0) : num (be n m) = n := by
  obtain ⟨h1, h2⟩ := hm
  obtain rfl | rfl | rfl | rfl : m = 1 ∨ m = 2 ∨ m = 3 ∨ m = 4 := by omega
  all_goals simp [be, num] at h ⊢; omega
theorem rowN_four : ∀ (l acc : List Int), (∀ x ∈ l, 0 ≤ x ∧ x < 4294967296) → rowN 4 acc l = (acc ++ l.flatMap (be · 4), 0) := by
  intro l
  induction l with
  | nil => intro acc _; simp [rowN]
  | cons n l ih =>
    intro acc hb
    have hn := hb n (by simp)
    have hp : put acc n 4 = (acc ++ be n 4, 0) := by
      unfold put
      rw [if_neg (by omega), if_neg (by simp; omega)]
      rfl
    simp only [rowN, hp]
    rw [if_pos trivial, ih _ (fun x hx => hb x (by simp [hx]))]
    simp
theorem chunks_four : ∀ (l : List Int), (∀ x ∈ l, 0 ≤ x ∧ x < 4294967296) → chunks 4 l.length (l.flatMap (be · 4)) = l := by
  intro l
  induction l with
  | nil => intro _; rfl
  | cons n l ih =>
    intro hb
    have hn := hb n (by simp)
    have h4 : (be n 4).length = 4 := be_length n 4
    simp only [List.flatMap_cons, List.length_cons, chunks]
    rw [List.take_left' h4, List.drop_left' h4, num_be n 4 (by omega) hn.1 (by simp; omega), ih (fun x hx => hb x (by simp [hx]))]
theorem flat_length (l : List Int) : (l.flatMap (be · 4)).length = 4 * l.length := by
  induction l with
  | nil => rfl
  | cons n l ih => simp [be_length, ih]; omega
theorem flat_mem (l : List Int) : ∀ x ∈ l.flatMap (be · 4), 0 ≤ x ∧ x ≤ 255 := by
  intro x hx
  obtain ⟨n, _, h⟩ := List.mem_flatMap.1 hx
  exact be_mem n 4 x h
end Go.Proofs.Ytdlgikajkljdeaa.PBd

