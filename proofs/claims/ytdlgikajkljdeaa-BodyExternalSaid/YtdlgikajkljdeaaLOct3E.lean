/- Rows of four bytes each, further: bytes of a number and back, the second number of a row. -/
import Derived.Test.YtdlgikajkljdeaaLOct2E
set_option linter.unusedSimpArgs false
set_option linter.unusedVariables false
namespace Go.Proofs.Ytdlgikajkljdeaa.PBd
open Go.RowKit Go.Proofs.YtdlgikajkljdeaaW.PrintWords Go.Proofs.YtdlgikajkljdeaaW.PrintLast Go.Proofs.YtdlgikajkljdeaaW.PrintMore Go.Proofs.Ytdlgikajkljdeaa.Aid

theorem row_four (l : List Int) (hl : ∀ x ∈ l, 0 ≤ x ∧ x < 4294967296) : row l 4 = (l.flatMap (be · 4), 0) := by
  unfold row
  rw [if_neg (by omega), rowN_four l [] hl]
  rfl
theorem four_eq (n : Int) : crossroadsref01_Four.f n = some (be n 4) := by
  unfold crossroadsref01_Four.f
  simp [be]
/-- A greeting off its bytes. -/
theorem be_num (a b c d : Int) (ha : 0 ≤ a ∧ a ≤ 255) (hb : 0 ≤ b ∧ b ≤ 255) (hc : 0 ≤ c ∧ c ≤ 255) (hd : 0 ≤ d ∧ d ≤ 255) : num [a, b, c, d] = ((a * 256 + b) * 256 + c) * 256 + d ∧ be (num [a, b, c, d]) 4 = [a, b, c, d] := by
  have h : num [a, b, c, d] = ((a * 256 + b) * 256 + c) * 256 + d := by
    simp only [num, List.foldl]; omega
  refine ⟨h, ?_⟩
  rw [h]
  simp only [be]
  congr 1
  · omega
  congr 1
  · omega
  congr 1
  · omega
  congr 1
  omega
theorem take4 {l : List Int} (h : 4 ≤ l.length) : ∃ a b c d t, l = a :: b :: c :: d :: t := by
  rcases l with _ | ⟨a, _ | ⟨b, _ | ⟨c, _ | ⟨d, t⟩⟩⟩⟩
  · simp at h
  · simp at h
  · simp at h
  · simp at h
  · exact ⟨a, b, c, d, t, rfl⟩
theorem flat_chunks : ∀ (q : Nat) (l : List Int), (∀ x ∈ l, 0 ≤ x ∧ x ≤ 255) → l.length = q * 4 → (chunks 4 q l).flatMap (be · 4) = l := by
  intro q
  induction q with
  | zero => intro l _ h; cases l <;> simp at h; rfl
  | succ q ih =>
    intro l hb hl
    obtain ⟨a, b, c, d, t, rfl⟩ := take4 (l := l) (by omega)
    have h := be_num a b c d (hb a (by simp)) (hb b (by simp)) (hb c (by simp)) (hb d (by simp))
    simp only [chunks, List.take, List.drop, List.flatMap_cons]
    rw [h.2, ih t (fun x hx => hb x (by simp [hx])) (by simp at hl; omega)]
    rfl
theorem chunks_mem : ∀ (q : Nat) (l : List Int), (∀ x ∈ l, 0 ≤ x ∧ x ≤ 255) → ∀ x ∈ chunks 4 q l, 0 ≤ x ∧ x < 4294967296 := by
  intro q
  induction q with
  | zero => intro l _ x hx; simp [chunks] at hx
  | succ q ih =>
    intro l hb x hx
    rcases List.mem_cons.1 hx with rfl | hx
    · exact num_range _ (fun y hy => hb y (List.mem_of_mem_take hy))
    · exact ih _ (fun y hy => hb y (List.mem_of_mem_drop hy)) x hx
theorem rows4 (l : List Int) : rows l 4 = if (l.length : Int) % 4 = 0 then (chunks 4 (l.length / 4) l, 0) else ([], 2) := by
  unfold rows
  rw [if_neg (by omega)]
  rfl
theorem second (l : List Int) (hb : ∀ x ∈ l, 0 ≤ x ∧ x ≤ 255) (q : Nat) (hq : 2 ≤ q) (hl : l.length = q * 4) : rd (chunks 4 q l) 1 = ((rd l 4 * 256 + rd l 5) * 256 + rd l 6) * 256 + rd l 7 ∧
    (0 ≤ rd l 4 ∧ rd l 4 ≤ 255) ∧ (0 ≤ rd l 5 ∧ rd l 5 ≤ 255) ∧ (0 ≤ rd l 6 ∧ rd l 6 ≤ 255) ∧ (0 ≤ rd l 7 ∧ rd l 7 ≤ 255) := by
  obtain ⟨q, rfl⟩ : ∃ n, q = n + 2 := ⟨q - 2, by omega⟩
  obtain ⟨a, b, c, d, t, rfl⟩ := take4 (l := l) (by omega)
  obtain ⟨a2, b2, c2, d2, t2, rfl⟩ := take4 (l := t) (by simp at hl; omega)
  have h := be_num a2 b2 c2 d2 (hb _ (by simp)) (hb _ (by simp)) (hb _ (by simp)) (hb _ (by simp))
  refine ⟨?_, hb a2 (by simp), hb b2 (by simp), hb c2 (by simp), hb d2 (by simp)⟩
  simp only [chunks, List.take, List.drop, rd]
  exact h.1
end Go.Proofs.Ytdlgikajkljdeaa.PBd

