/- What the functions of octet and of its reference come to, as plain functions of lists. -/
import Derived.Test.YtdlgikajkljdeaaLAid
import Derived.Test.YtdlgikajkljdeaaPBdx0
import Derived.Test.YtdlgikajkljdeaaPBdx1
import Derived.Test.YtdlgikajkljdeaaPBdx3
import Derived.Test.YtdlgikajkljdeaaPBdx4
import Derived.Test.YtdlgikajkljdeaaPBdx5
import Derived.Test.YtdlgikajkljdeaaPBdx6
import Derived.Test.YtdlgikajkljdeaaPBdx7
import Derived.Test.YtdlgikajkljdeaaPBdx8
import Derived.Test.YtdlgikajkljdeaaPBdx9
import Derived.Test.YtdlgikajkljdeaaPBdx10
namespace Go.Proofs.Ytdlgikajkljdeaa.PBd
open Go.RowKit Go.Proofs.YtdlgikajkljdeaaW.PrintWords Go.Proofs.YtdlgikajkljdeaaW.PrintLast Go.Proofs.YtdlgikajkljdeaaW.PrintMore Go.Proofs.Ytdlgikajkljdeaa.Aid

/-- The last m bytes of a number, the highest first. -/
def be (n : Int) : Nat → List Int
  | 0 => []
  | m + 1 => (n / 256 ^ m % 256) :: be n m
theorem be_length (n : Int) (m : Nat) : (be n m).length = m := by
  induction m with
  | zero => rfl
  | succ m ih => simp [be, ih]
theorem be_mem (n : Int) (m : Nat) : ∀ x ∈ be n m, 0 ≤ x ∧ x ≤ 255 := by
  induction m with
  | zero => simp [be]
  | succ m ih =>
    intro x hx
    rcases List.mem_cons.1 hx with rfl | hx
    · omega
    · exact ih x hx
/-- A number behind bytes. -/
def put (l : List Int) (n m : Int) : List Int × Int :=
  if m < 1 ∨ m > 4 then ([], 1) else if n / 256 ^ m.toNat > 0 then ([], 5) else (l ++ be n m.toNat, 0)

theorem isMany_eq (m : Int) : octet_isMany.f m = some (decide (1 ≤ m ∧ m ≤ 4)) := by
  unfold octet_isMany.f
  by_cases h : m ≥ 1
  · rw [if_pos h]; simp [show (1 : Int) ≤ m from h]
  · rw [if_neg h]; simp; intro h'; omega

theorem put_l0 (n : Int) : ∀ (m : Nat) (l : List Int), m ≤ 4 → l.length + m < 140737488355328 →
    Ev (fun k => octet_Put.l0 k n l ((m : Int) - 1)) (l ++ be n m, 0) := by
  intro m
  induction m with
  | zero =>
    intro l _ _
    refine Ev.done fun k => ?_
    simp only [octet_Put.l0]
    rw [if_neg (by omega)]
    simp [be]
  | succ m ih =>
    intro l hm hl
    have hw : wrap64 (8 * (((m + 1 : Nat) : Int) - 1)) = 8 * (m : Int) := by rw [w64 (by omega)]; omega
    have hw2 : wrap64 ((((m + 1 : Nat) : Int) - 1) - 1) = (m : Int) - 1 := by rw [w64 (by omega)]; omega
    have hs : shr .u32 n (8 * (m : Int)) = n / 256 ^ m := by
      unfold shr
      have : min (8 * (m : Int)).toNat IntKind.u32.bits = 8 * m := by simp [IntKind.bits]; omega
      rw [this, Int.pow_mul]; rfl
    refine Ev.step (f := fun k => octet_Put.l0 k n (l ++ [n / 256 ^ m % 256]) ((m : Int) - 1)) (fun k => ?_) ?_
    · simp only [octet_Put.l0]
      rw [if_pos (by omega), if_pos (by rw [hw]; omega), if_pos (by omega), hw, hw2, hs]
    · have := ih (l ++ [n / 256 ^ m % 256]) (by omega) (by simp; omega)
      simpa [be] using this

theorem put_ev (l : List Int) (n m : Int) (hn : 0 ≤ n ∧ n < 4294967296) (hl : l.length + 4 < 140737488355328) :
    Ev (fun k => octet_Put.f k l n m) (put l n m) := by
  unfold octet_Put.f put
  rw [isMany_eq]
  simp only [Option.bind_some]
  by_cases h : 1 ≤ m ∧ m ≤ 4
  · rw [if_neg (by omega)]
    simp only [show decide (1 ≤ m ∧ m ≤ 4) = true by simpa using h, if_true]
    obtain ⟨mm, rfl⟩ := Int.eq_ofNat_of_zero_le (show 0 ≤ m by omega)
    simp only [Int.toNat_natCast]
    have hj : n / 256 ^ mm ≤ 0 → Ev (fun k => octet_Put.j0 k l n (mm : Int)) (l ++ be n mm, 0) := by
      intro _
      refine Ev.step (f := fun k => octet_Put.l0 k n l ((mm : Int) - 1)) (fun k => ?_) (put_l0 n mm l (by omega) (by omega))
      simp only [octet_Put.j0]
      have h1 : wrap64 ((l.length : Int) + (mm : Int)) = (l.length : Int) + (mm : Int) := w64 (by omega)
      rw [h1, if_pos (by omega), if_pos (by omega)]
      simp only [Option.bind_some]
      rw [if_pos (by simp; omega), w64 (by omega)]
      simp
    by_cases h4 : (mm : Int) < 4
    · have hw : wrap64 (8 * (mm : Int)) = 8 * (mm : Int) := w64 (by omega)
      have hs : shr .u32 n (8 * (mm : Int)) = n / 256 ^ mm := by
        unfold shr
        have : min (8 * (mm : Int)).toNat IntKind.u32.bits = 8 * mm := by simp [IntKind.bits]; omega
        rw [this, Int.pow_mul]; rfl
      simp only [if_pos h4, hw, hs]
      have h0 : 0 ≤ n / 256 ^ mm := Int.ediv_nonneg hn.1 (Int.pow_nonneg (by decide))
      by_cases hz : n / 256 ^ mm > 0
      · rw [if_pos hz]
        refine Ev.const fun k => ?_
        rw [if_pos (by omega), if_neg (by omega)]
      · rw [if_neg hz]
        refine Ev.eq (fun k => ?_) (hj (by omega))
        rw [if_pos (by omega), if_pos (by omega)]
    · obtain rfl : mm = 4 := by omega
      have hz : n / 256 ^ 4 = 0 := by omega
      simp only [if_neg h4]
      rw [if_neg (by omega)]
      exact hj (by omega)
  · rw [if_pos (by omega)]
    refine Ev.const fun k => ?_
    rw [if_neg (by simp; omega)]

/-- Bytes as a number. -/
def num (l : List Int) : Int := l.foldl (fun n c => (n * 256) % 4294967296 + c) 0
theorem num_snoc (l : List Int) (c : Int) : num (l ++ [c]) = (num l * 256) % 4294967296 + c := by simp [num]
theorem num_range (l : List Int) (hl : ∀ x ∈ l, 0 ≤ x ∧ x ≤ 255) : 0 ≤ num l ∧ num l < 4294967296 := by
  rcases List.eq_nil_or_concat l with rfl | ⟨l, c, rfl⟩
  · simp [num]
  · rw [List.concat_eq_append] at hl ⊢
    rw [num_snoc]
    have := hl c (by simp)
    omega
theorem num_l0 (l : List Int) (hl : ∀ x ∈ l, 0 ≤ x ∧ x ≤ 255) (hs : l.length ≤ 9223372036854775807) : ∀ (j i : Nat), i + j = l.length →
    Ev (fun k => octet_number.l0 k (num (l.take i)) l (l.length : Int) (i : Int)) (num l) := by
  intro j
  induction j with
  | zero =>
    intro i hi
    obtain rfl : i = l.length := by omega
    refine Ev.done fun k => ?_
    simp only [octet_number.l0]
    rw [if_neg (by omega), List.take_length]
  | succ j ih =>
    intro i hi
    have hi' : i < l.length := by omega
    have hm := hl _ (rd_mem l i (by omega) (by omega))
    refine Ev.step (f := fun k => octet_number.l0 k (num (l.take (i + 1))) l (l.length : Int) ((i + 1 : Nat) : Int)) (fun k => ?_) (ih (i + 1) (by omega))
    simp only [octet_number.l0]
    rw [if_pos (by omega), if_pos (by omega), if_pos (by omega), w64 (by omega), take_succ_rd l i hi', num_snoc]
    rw [or_low (by omega) (by omega) (by omega) (by omega) (by omega)]
    rw [show rd l (i : Int) % 4294967296 = rd l (i : Int) by omega]
    rfl
theorem num_ev (l : List Int) (hl : ∀ x ∈ l, 0 ≤ x ∧ x ≤ 255) (hs : l.length ≤ 9223372036854775807) : Ev (fun k => octet_number.f k l) (num l) := by
  unfold octet_number.f
  simpa [num] using num_l0 l hl hs l.length 0 (by omega)

/-- Bytes off a row. -/
def cut (l : List Int) (n : Int) : List Int × List Int × Int :=
  if n < 0 then ([], [], 1) else if n > (l.length : Int) then ([], [], 2) else (l.take n.toNat, l.drop n.toNat, 0)
theorem cut_eq (l : List Int) (n : Int) (hl : l.length < 140737488355328) : octet_Cut.f l n = some (cut l n) := by
  unfold octet_Cut.f cut bytes_Clone.f
  by_cases h : n < 0
  · rw [if_pos h, if_pos h]
  · rw [if_neg h, if_neg h]
    by_cases h2 : n > (l.length : Int)
    · rw [if_pos h2, if_pos h2]
    · rw [if_neg h2, if_neg h2, if_pos (by omega), if_pos (by omega), if_pos (by simp; omega), if_pos (by simp; omega)]
      rfl
/-- A number off bytes. -/
def take (l : List Int) (m : Int) : Int × List Int × Int :=
  if m < 1 ∨ m > 4 then (0, [], 1) else if (l.length : Int) < m then (0, [], 2) else (num (l.take m.toNat), l.drop m.toNat, 0)
theorem take_ev (l : List Int) (m : Int) (hl : ∀ x ∈ l, 0 ≤ x ∧ x ≤ 255) (hs : l.length < 140737488355328) : Ev (fun k => octet_Take.f k l m) (take l m) := by
  unfold octet_Take.f take
  rw [isMany_eq, cut_eq l m hs]
  simp only [Option.bind_some]
  by_cases h : 1 ≤ m ∧ m ≤ 4
  · rw [if_neg (by omega)]
    simp only [h, and_self, decide_true, if_true]
    unfold cut
    rw [if_neg (by omega)]
    by_cases h2 : m > (l.length : Int)
    · rw [if_pos h2, if_pos (by omega)]
      exact Ev.bind0 (num_ev [] (by simp) (by simp)) rfl
    · rw [if_neg h2, if_neg (by omega)]
      exact Ev.bind0 (num_ev _ (fun x hx => hl x (List.mem_of_mem_take hx)) (by simp; omega)) rfl
  · rw [if_pos (by omega)]
    refine Ev.const fun k => ?_
    rw [if_neg (by simp; omega)]
theorem rtake_l0 (l : List Int) (m : Nat) (hl : ∀ x ∈ l, 0 ≤ x ∧ x ≤ 255) (hs : l.length < 140737488355328) (hm : m ≤ 4) (hm2 : m ≤ l.length) : ∀ (j i : Nat), i + j = m →
    Ev (fun k => crossroadsref01_Take.l0 k l (m : Int) (num (l.take i)) (i : Int)) (num (l.take m), l.drop m, 0) := by
  intro j
  induction j with
  | zero =>
    intro i hi
    obtain rfl : i = m := by omega
    refine Ev.done fun k => ?_
    simp only [crossroadsref01_Take.l0]
    rw [if_neg (by omega)]
    simp only [Option.bind_some, List.length_nil, List.nil_append, Int.toNat_natCast]
    rw [if_pos (by omega), if_pos (by omega), if_pos (by simp; omega)]
  | succ j ih =>
    intro i hi
    have hi' : i < l.length := by omega
    have hm := hl _ (rd_mem l i (by omega) (by omega))
    refine Ev.step (f := fun k => crossroadsref01_Take.l0 k l (m : Int) (num (l.take (i + 1))) ((i + 1 : Nat) : Int)) (fun k => ?_) (ih (i + 1) (by omega))
    simp only [crossroadsref01_Take.l0]
    rw [if_pos (by omega), if_pos (by omega), if_pos (by omega), w64 (by omega), take_succ_rd l i hi', num_snoc]
    rw [show (((num (l.take i) * 256) % 4294967296) + ((rd l (i : Int)) % 4294967296)) % 4294967296 = num (l.take i) * 256 % 4294967296 + rd l (i : Int) by omega]
    rfl
theorem rtake_ev (l : List Int) (m : Int) (hl : ∀ x ∈ l, 0 ≤ x ∧ x ≤ 255) (hs : l.length < 140737488355328) : Ev (fun k => crossroadsref01_Take.f k l m) (take l m) := by
  unfold crossroadsref01_Take.f take
  by_cases h : m < 1
  · rw [if_pos (.inl h)]
    simp only [if_pos h]
    refine Ev.done fun k => ?_
    simp [crossroadsref01_Take.j0]
  · simp only [if_neg h]
    by_cases h4 : m > 4
    · rw [if_pos (.inr h4)]
      refine Ev.done fun k => ?_
      simp [crossroadsref01_Take.j0, h4]
    · rw [if_neg (by omega)]
      obtain ⟨mm, rfl⟩ := Int.eq_ofNat_of_zero_le (show 0 ≤ m by omega)
      simp only [Int.toNat_natCast]
      by_cases h5 : (l.length : Int) < (mm : Int)
      · rw [if_pos h5]
        refine Ev.done fun k => ?_
        simp only [crossroadsref01_Take.j0]
        rw [if_neg (by simp; omega), if_pos h5]
      · rw [if_neg h5]
        have := rtake_l0 l mm hl hs (by omega) (by omega) mm 0 (by omega)
        refine Ev.step (f := fun k => crossroadsref01_Take.l0 k l (mm : Int) 0 0) (fun k => ?_) (by simpa [num] using this)
        simp only [crossroadsref01_Take.j0]
        rw [if_neg (by simp; omega), if_neg h5]
end Go.Proofs.Ytdlgikajkljdeaa.PBd

