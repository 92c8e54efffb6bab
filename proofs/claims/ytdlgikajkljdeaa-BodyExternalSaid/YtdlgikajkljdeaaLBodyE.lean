/- What the functions of body and of its reference come to: masks and summaries. -/
import Derived.Test.YtdlgikajkljdeaaLOct3E
set_option linter.unusedSimpArgs false
set_option linter.unusedVariables false
namespace Go.Proofs.Ytdlgikajkljdeaa.PBd
open Go.RowKit Go.Proofs.YtdlgikajkljdeaaW.PrintWords Go.Proofs.YtdlgikajkljdeaaW.PrintLast Go.Proofs.YtdlgikajkljdeaaW.PrintMore Go.Proofs.Ytdlgikajkljdeaa.Aid

theorem alive_ev : Ev (fun k => crossroadslaw12_alive.f k) true := Ev.of crossroadslaw12_alive.mono (k := 40) (by decide +kernel)

/-- The mask of n ones. -/
def mask (n : Nat) : Int := 4294967296 - 2 ^ (32 - n)
def isM (a : Int) : Bool := (List.range' 0 33).any fun n => mask n == a
theorem rmask_at : ∀ n : Fin 33, crossroadsref03_Mask.f 40 (n.val : Int) = some (mask n.val) := by decide +kernel
theorem rmask_ev (n : Nat) (h : n ≤ 32) : Ev (fun k => crossroadsref03_Mask.f k (n : Int)) (mask n) :=
  Ev.of (crossroadsref03_Mask.mono _) (k := 40) (rmask_at ⟨n, by omega⟩)
theorem rlong_l0 (a : Int) : ∀ (j i : Nat), i + j = 33 → ∃ n : Int, Ev (fun k => crossroadsref03_Long.l0 k a (i : Int)) (n, if ((List.range' i j).any fun n => mask n == a) = true then 0 else 3) := by
  intro j
  induction j with
  | zero =>
    intro i hi
    refine ⟨0, Ev.done fun k => ?_⟩
    simp only [crossroadsref03_Long.l0]
    rw [if_neg (by omega)]
    rfl
  | succ j ih =>
    intro i hi
    by_cases h : mask i = a
    · refine ⟨i, Ev.step (f := fun k => ((crossroadsref03_Mask.f k (i : Int)).bind fun t => (if t = a then (some ((i : Int), (0 : Int))) else (crossroadsref03_Long.l0 k a ((i + 1 : Nat) : Int))))) (fun k => ?_) ?_⟩
      · simp only [crossroadsref03_Long.l0]
        rw [if_pos (by omega), w64 (by omega)]
        rfl
      · refine Ev.bind (rmask_ev i (by omega)) ?_
        have e : ((List.range' i (j + 1)).any fun n => mask n == a) = true := by rw [List.range'_succ, List.any_cons]; simp [h]
        simp only [h, if_true]
        refine Ev.const fun k => ?_
        rw [if_pos e]
    · obtain ⟨n, hn⟩ := ih (i + 1) (by omega)
      refine ⟨n, Ev.step (f := fun k => ((crossroadsref03_Mask.f k (i : Int)).bind fun t => (if t = a then (some ((i : Int), (0 : Int))) else (crossroadsref03_Long.l0 k a ((i + 1 : Nat) : Int))))) (fun k => ?_) ?_⟩
      · simp only [crossroadsref03_Long.l0]
        rw [if_pos (by omega), w64 (by omega)]
        rfl
      · refine Ev.bind (rmask_ev i (by omega)) ?_
        have e : ((List.range' i (j + 1)).any fun n => mask n == a) = ((List.range' (i + 1) j).any fun n => mask n == a) := by rw [List.range'_succ, List.any_cons]; simp [h]
        simp only [h, if_false]
        rw [e]
        exact hn
theorem risMask_ev (a : Int) : Ev (fun k => crossroadsref12_isMask.f k a) (isM a) := by
  obtain ⟨n, hn⟩ := rlong_l0 a 33 0 (by omega)
  unfold crossroadsref12_isMask.f crossroadsref03_Long.f
  refine Ev.bind0 (a := (n, if isM a = true then 0 else 3)) hn ?_
  show some ((if isM a = true then (0 : Int) else 3) == 0) = some (isM a)
  cases isM a <;> rfl
theorem not_u32 (a : Int) (h : 0 ≤ a ∧ a < 4294967296) : bits .xor .u32 4294967295 a = 4294967295 - a := by
  obtain ⟨n, rfl⟩ := Int.eq_ofNat_of_zero_le h.1
  have hn : n < 4294967296 := by omega
  show IntKind.u32.wrap (((BitVec.ofInt 32 4294967295) ^^^ (BitVec.ofInt 32 (n : Int))).toNat : Int) = _
  rw [show BitVec.ofInt 32 4294967295 = BitVec.allOnes 32 from by decide, BitVec.allOnes_xor, BitVec.toNat_not, BitVec.ofInt_natCast, BitVec.toNat_ofNat, IntKind.wrap_u32]
  have : n % 2 ^ 32 = n := Nat.mod_eq_of_lt (by simpa using hn)
  rw [this]
  omega
theorem bitLen_ones : ∀ c : Fin 33, Lib.bitLen (2 ^ c.val - 1) = c.val := by decide +kernel
theorem shifted : ∀ c : Fin 33, (IntKind.u64.wrap (4294967295 * 2 ^ c.val)) % 4294967296 = 4294967296 - 2 ^ c.val := by decide +kernel
theorem isM_of_pow : ∀ c : Fin 33, isM (4294967296 - 2 ^ c.val) = true := by decide +kernel
theorem isMask_eq (a : Int) (h : 0 ≤ a ∧ a < 4294967296) : body_isMask.f a = some (isM a) := by
  unfold body_isMask.f addr_Long.f bits_LeadingZeros32.f addr_Mask.f
  rw [not_u32 a h, if_pos (by omega)]
  simp only [Option.bind_some]
  have hb := Any.bitLen_le32 (4294967295 - a) (by omega) (by omega)
  generalize hg : Lib.bitLen (4294967295 - a).toNat = b at hb
  have hm : (32 - (mn (mx (32 - (b : Int)) 0) 32)).toNat = b := by
    unfold mn mx
    repeat' split
    all_goals omega
  rw [hm, shifted ⟨b, by omega⟩]
  by_cases he : 4294967296 - 2 ^ b = a
  · rw [if_pos he]
    simp only [Option.bind_some]
    rw [← he, isM_of_pow ⟨b, by omega⟩]
    rfl
  · rw [if_neg he]
    simp only [Option.bind_some]
    refine congrArg some ?_
    have hn : isM a = false := by
      by_cases hc : isM a = true
      · exfalso
        obtain ⟨n, hn, hna⟩ := List.any_eq_true.1 hc
        have hn2 : n ≤ 32 := by
          have := List.mem_range'_1.1 hn
          omega
        have hna : mask n = a := by simpa using hna
        apply he
        have h1 : 4294967295 - a = 2 ^ (32 - n) - 1 := by rw [← hna]; unfold mask; omega
        have h2 : (4294967295 - a).toNat = 2 ^ (32 - n) - 1 := by
          rw [h1]
          have : (1 : Int) ≤ 2 ^ (32 - n) := by exact_mod_cast Nat.one_le_two_pow
          have h3 : ((2 ^ (32 - n) - 1 : Nat) : Int) = 2 ^ (32 - n) - 1 := by
            rw [Int.natCast_sub Nat.one_le_two_pow]; simp
          omega
        rw [h2] at hg
        have h4 := bitLen_ones ⟨32 - n, by omega⟩
        simp only at h4
        rw [h4] at hg
        rw [← hg, ← hna]; rfl
      · simpa using hc
    rw [hn]; rfl
def cost (c : Int) : Bool := decide (0 ≤ c ∧ c ≤ 16777215)
theorem cost_eq (c : Int) : body_isCost.f c = some (cost c) := by
  unfold body_isCost.f body_isIn.f cost
  by_cases h : 0 ≤ c <;> simp [h]
theorem rcost_eq (c : Int) : crossroadsref12_cost.f c = some (cost c) := by
  unfold crossroadsref12_cost.f cost
  by_cases h : c ≥ 0
  · simp [h, show (0 : Int) ≤ c from h]
  · rw [if_neg h]; simp; omega
def summ (m c : Int) : List Int × Int := if isM m = true ∧ cost c = true then ([m, c].flatMap (be · 4), 0) else ([], 1)
theorem summ_ev (m c : Int) (hm : 0 ≤ m ∧ m < 4294967296) : Ev (fun k => body_Summary.f k m c) (summ m c) := by
  unfold body_Summary.f summ
  rw [isMask_eq m hm, cost_eq]
  simp only [Option.bind_some]
  by_cases h1 : isM m = true
  · simp only [h1, if_true, true_and]
    by_cases h2 : cost c = true
    · have hc : 0 ≤ c ∧ c ≤ 16777215 := by simpa [cost] using h2
      simp only [h2, if_true]
      rw [show c % 4294967296 = c by omega]
      have hl : ∀ x ∈ [m, c], 0 ≤ x ∧ x < 4294967296 := by
        intro x hx
        simp only [List.mem_cons, List.not_mem_nil, or_false] at hx
        rcases hx with rfl | rfl
        · exact hm
        · omega
      have hr := row_ev [m, c] 4 hl (by simp)
      rw [row_four _ hl] at hr
      exact Ev.bind0 hr rfl
    · simp only [h2]
      exact Ev.now _
  · simp only [h1, false_and, if_false]
    exact Ev.now _
theorem rsumm_ev (m c : Int) : Ev (fun k => crossroadsref12_Summary.f k m c) (summ m c) := by
  unfold crossroadsref12_Summary.f summ
  refine Ev.bind (risMask_ev m) ?_
  by_cases h1 : isM m = true
  · simp only [h1, if_true, true_and, rcost_eq, Option.bind_some]
    refine Ev.done fun k => ?_
    simp only [crossroadsref12_Summary.j0]
    by_cases h2 : cost c = true
    · have hc : 0 ≤ c ∧ c ≤ 16777215 := by simpa [cost] using h2
      rw [if_neg (by simp [h2]), four_eq, four_eq, show c % 4294967296 = c by omega]
      simp only [Option.bind_some, be_length]
      rw [if_pos (by omega), if_pos h2]
      simp
    · rw [if_pos (by simpa using h2), if_neg h2]
  · simp only [h1, false_and, if_false]
    refine Ev.done fun k => ?_
    simp [crossroadsref12_Summary.j0]
def rsum (l : List Int) : Int × Int × Int :=
  if l.length < 8 then (0, 0, 2) else if l.length > 8 then (0, 0, 3) else
  if isM (rd (chunks 4 2 l) 0) = true ∧ rd (chunks 4 2 l) 1 ≤ 16777215 then (rd (chunks 4 2 l) 0, rd (chunks 4 2 l) 1, 0) else (0, 0, 3)
theorem rsum_lt {l : List Int} (h : l.length < 8) : rsum l = (0, 0, 2) := by unfold rsum; rw [if_pos h]
theorem rsum_gt {l : List Int} (h : l.length > 8) : rsum l = (0, 0, 3) := by unfold rsum; rw [if_neg (by omega), if_pos h]
theorem rsum_eq {l : List Int} (h : l.length = 8) : rsum l = if isM (rd (chunks 4 2 l) 0) = true ∧ rd (chunks 4 2 l) 1 ≤ 16777215 then (rd (chunks 4 2 l) 0, rd (chunks 4 2 l) 1, 0) else (0, 0, 3) := by unfold rsum; rw [if_neg (by omega), if_neg (by omega)]
theorem rows_eight {l : List Int} (h : l.length = 8) : rows l 4 = (chunks 4 2 l, 0) := by
  rw [rows4, if_pos (by omega), h]
theorem read_ev (l : List Int) (hb : ∀ x ∈ l, 0 ≤ x ∧ x ≤ 255) (hl : l.length < 35184372088832) : Ev (fun k => body_ReadSummary.f k l) (rsum l) := by
  unfold body_ReadSummary.f body_rows.f
  rw [show wrap64 (2 * 4) = 8 by rw [w64 (by omega)]; rfl]
  by_cases h1 : (l.length : Int) < 8
  · rw [rsum_lt (by omega)]
    simp only [if_pos h1]
    exact Ev.const fun k => by simp
  · simp only [if_neg h1]
    by_cases h2 : (l.length : Int) > 8
    · rw [rsum_gt (by omega)]
      simp only [if_pos h2]
      exact Ev.const fun k => by simp
    · simp only [if_neg h2]
      have h8 : l.length = 8 := by omega
      have hr := rows_ev l 4 hb hl
      rw [rows_eight h8] at hr
      rw [rsum_eq h8]
      have hc := chunks_length 4 2 l
      have h0 := chunks_mem 2 l hb _ (rd_mem (chunks 4 2 l) 0 (by omega) (by omega))
      have h4 := chunks_mem 2 l hb _ (rd_mem (chunks 4 2 l) 1 (by omega) (by omega))
      by_cases h5 : isM (rd (chunks 4 2 l) 0) = true
      · refine Ev.bind0 (Ev.bind0 (r := (chunks 4 2 l, 0)) hr ?_) ?_
        · simp only
          rw [if_pos (by omega), isMask_eq _ h0]
          simp [h5]
        · simp only [if_true, h5, true_and]
          rw [if_pos (by omega)]
          by_cases h6 : rd (chunks 4 2 l) 1 > 16777215
          · rw [if_pos h6, if_neg (by omega)]
          · rw [if_neg h6, if_pos (by omega), if_pos (by omega), w64 (by omega)]
      · refine Ev.bind0 (Ev.bind0 (r := ([], 3)) hr ?_) ?_
        · simp only
          rw [if_pos (by omega), isMask_eq _ h0]
          simp [h5]
        · simp [h5]
/-- What is written is read as it was. -/
theorem back (m c : Int) (hm : 0 ≤ m ∧ m < 4294967296) (h : isM m = true ∧ cost c = true) : rsum (summ m c).1 = (m, c, 0) := by
  have hc : 0 ≤ c ∧ c ≤ 16777215 := by simpa [cost] using h.2
  have hl : ∀ x ∈ [m, c], 0 ≤ x ∧ x < 4294967296 := by
    intro x hx
    simp only [List.mem_cons, List.not_mem_nil, or_false] at hx
    rcases hx with rfl | rfl
    · exact hm
    · omega
  have hf := flat_length [m, c]
  have hk := chunks_four [m, c] hl
  unfold summ
  rw [if_pos h]
  simp only
  rw [rsum_eq (by rw [hf]; rfl)]
  rw [show (chunks 4 2 ([m, c].flatMap (be · 4))) = [m, c] from hk]
  rw [if_pos ⟨h.1, hc.2⟩]
  rfl
/-- What is read is written as it was. -/
theorem forth (l : List Int) (hb : ∀ x ∈ l, 0 ≤ x ∧ x ≤ 255) (h : (rsum l).2.2 = 0) : summ (rsum l).1 (rsum l).2.1 = (l, 0) := by
  by_cases h1 : l.length < 8
  · rw [rsum_lt h1] at h; simp at h
  · by_cases h2 : l.length > 8
    · rw [rsum_gt h2] at h; simp at h
    · have h8 : l.length = 8 := by omega
      rw [rsum_eq h8] at h ⊢
      by_cases h3 : isM (rd (chunks 4 2 l) 0) = true ∧ rd (chunks 4 2 l) 1 ≤ 16777215
      · simp only [if_pos h3]
        have hc := chunks_length 4 2 l
        have hf := flat_chunks 2 l hb (by omega)
        have h4 := chunks_mem 2 l hb _ (rd_mem (chunks 4 2 l) 1 (by omega) (by omega))
        generalize chunks 4 2 l = g at *
        rcases g with _ | ⟨x0, _ | ⟨x1, _ | ⟨x2, t⟩⟩⟩
        · simp at hc
        · simp at hc
        · have e0 : rd [x0, x1] 0 = x0 := rfl
          have e1 : rd [x0, x1] 1 = x1 := rfl
          rw [e0, e1] at h3
          rw [e1] at h4
          rw [e0, e1]
          unfold summ
          rw [if_pos ⟨h3.1, by simp [cost]; omega⟩, hf]
        · simp at hc
      · rw [if_neg h3] at h; simp at h
theorem summ_mem (m c : Int) : ∀ x ∈ (summ m c).1, 0 ≤ x ∧ x ≤ 255 := by
  unfold summ
  split
  · exact flat_mem _
  · simp
theorem summ_len (m c : Int) : (summ m c).1.length ≤ 8 := by
  unfold summ
  split
  · rw [flat_length]; simp
  · simp
theorem rsum_mask (l : List Int) (hb : ∀ x ∈ l, 0 ≤ x ∧ x ≤ 255) : 0 ≤ (rsum l).1 ∧ (rsum l).1 < 4294967296 := by
  have hc := chunks_length 4 2 l
  have h0 := chunks_mem 2 l hb _ (rd_mem (chunks 4 2 l) 0 (by omega) (by omega))
  unfold rsum
  repeat' split
  all_goals first | exact h0 | simp
end Go.Proofs.Ytdlgikajkljdeaa.PBd

