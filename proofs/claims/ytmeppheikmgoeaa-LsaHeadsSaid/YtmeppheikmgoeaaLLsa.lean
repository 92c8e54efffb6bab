/- What the functions of lsa and of its reference come to: heads. -/
import Derived.Test.YtmeppheikmgoeaaLOct2
namespace Go.Proofs.Ytmeppheikmgoeaa.PLh
open Go.RowKit Go.Proofs.YtmeppheikmgoeaaW.PrintWords Go.Proofs.YtmeppheikmgoeaaW.PrintLast Go.Proofs.YtmeppheikmgoeaaW.PrintMore Go.Proofs.Ytmeppheikmgoeaa.Aid

theorem alive_ev : Ev (fun k => crossroadslaw11_alive.f k) true := Ev.of crossroadslaw11_alive.mono (k := 30) (by decide +kernel)

/-- May a head be. -/
def may (age opt typ sum long : Int) : Bool := decide ((0 ≤ age ∧ age ≤ 3600) ∧ (0 ≤ opt ∧ opt ≤ 255) ∧ (1 ≤ typ ∧ typ ≤ 7 ∧ typ ≠ 6) ∧ (0 ≤ sum ∧ sum ≤ 65535) ∧ (20 ≤ long ∧ long ≤ 1400))
theorem may_at {age opt typ sum long : Int} (h : may age opt typ sum long = true) : (0 ≤ age ∧ age ≤ 3600) ∧ (0 ≤ opt ∧ opt ≤ 255) ∧ (1 ≤ typ ∧ typ ≤ 7 ∧ typ ≠ 6) ∧ (0 ≤ sum ∧ sum ≤ 65535) ∧ (20 ≤ long ∧ long ≤ 1400) := by simpa [may] using h
theorem isIn_eq (n a b : Int) : lsa_isIn.f n a b = some (decide (a ≤ n ∧ n ≤ b)) := by
  unfold lsa_isIn.f
  by_cases h : a ≤ n
  · rw [if_pos h]; simp [h]
  · rw [if_neg h]; simp [h]
theorem may_ev (age opt typ id adv seq sum long : Int) : Ev (fun k => lsa_May.f k age opt typ id adv seq sum long) (may age opt typ sum long) := by
  refine ⟨1, fun k hk => ?_⟩
  obtain ⟨k, rfl⟩ : ∃ n, k = n + 1 := ⟨k - 1, by omega⟩
  unfold lsa_May.f may
  simp only [isIn_eq, Option.bind_some, lsa_May.j0]
  by_cases h1 : 1 ≤ typ ∧ typ ≤ 5
  · simp only [h1, and_self, decide_true, if_true]
    by_cases h2 : 0 ≤ age ∧ age ≤ 3600
    · simp only [h2, and_self, decide_true, if_true]
      by_cases h3 : 0 ≤ opt ∧ opt ≤ 255
      · simp only [h3, and_self, decide_true, if_true]
        by_cases h4 : 0 ≤ sum ∧ sum ≤ 65535
        · simp only [h4, and_self, decide_true, if_true]
          refine congrArg some ?_; rw [decide_eq_decide]; simp only [true_and]; omega
        · rw [if_neg (by simp; omega)]
          refine congrArg some ?_; symm; rw [decide_eq_false_iff_not]; omega
      · rw [if_neg (by simp; omega)]
        refine congrArg some ?_; symm; rw [decide_eq_false_iff_not]; omega
    · rw [if_neg (by simp; omega)]
      refine congrArg some ?_; symm; rw [decide_eq_false_iff_not]; omega
  · rw [if_neg (by simp; omega)]
    by_cases h5 : typ = 7
    · rw [if_pos (by simp [h5])]
      by_cases h2 : 0 ≤ age ∧ age ≤ 3600
      · simp only [h2, and_self, decide_true, if_true]
        by_cases h3 : 0 ≤ opt ∧ opt ≤ 255
        · simp only [h3, and_self, decide_true, if_true]
          by_cases h4 : 0 ≤ sum ∧ sum ≤ 65535
          · simp only [h4, and_self, decide_true, if_true]
            refine congrArg some ?_; rw [decide_eq_decide]; simp only [true_and]; omega
          · rw [if_neg (by simp; omega)]
            refine congrArg some ?_; symm; rw [decide_eq_false_iff_not]; omega
        · rw [if_neg (by simp; omega)]
          refine congrArg some ?_; symm; rw [decide_eq_false_iff_not]; omega
      · rw [if_neg (by simp; omega)]
        refine congrArg some ?_; symm; rw [decide_eq_false_iff_not]; omega
    · rw [if_neg (by simp [h5])]
      refine congrArg some ?_; symm; rw [decide_eq_false_iff_not]; omega
theorem rmay_eq (age opt typ id adv seq sum long : Int) : crossroadsref11_May.f age opt typ id adv seq sum long = some (may age opt typ sum long) := by
  unfold crossroadsref11_May.f may
  repeat' split
  all_goals (refine congrArg some ?_; first | (rw [decide_eq_decide]; omega) | (symm; rw [decide_eq_false_iff_not]; omega))

/-- A head's numbers as a row. -/
def nums (age opt typ id adv seq sum long : Int) : List Int := [age * 65536 + opt * 256 + typ, id, adv, seq, sum * 65536 + long]
def raw (age opt typ id adv seq sum long : Int) : List Int := (nums age opt typ id adv seq sum long).flatMap (be · 4)
theorem row_four (l : List Int) (hl : ∀ x ∈ l, 0 ≤ x ∧ x < 4294967296) : row l 4 = (l.flatMap (be · 4), 0) := by
  unfold row
  rw [if_neg (by omega), rowN_four l [] hl]
  rfl
theorem nums_mem {age opt typ id adv seq sum long : Int} (h : may age opt typ sum long = true) (hi : 0 ≤ id ∧ id < 4294967296) (ha : 0 ≤ adv ∧ adv < 4294967296) (hs : 0 ≤ seq ∧ seq < 4294967296) :
    ∀ x ∈ nums age opt typ id adv seq sum long, 0 ≤ x ∧ x < 4294967296 := by
  obtain ⟨h1, h2, h3, h4, h5⟩ := may_at h
  intro x hx
  simp only [nums, List.mem_cons, List.not_mem_nil, or_false] at hx
  rcases hx with rfl | rfl | rfl | rfl | rfl <;> omega
theorem raw_ev (age opt typ id adv seq sum long : Int) (h : may age opt typ sum long = true) (hi : 0 ≤ id ∧ id < 4294967296) (ha : 0 ≤ adv ∧ adv < 4294967296) (hs : 0 ≤ seq ∧ seq < 4294967296) :
    Ev (fun k => lsa_raw.f k age opt typ id adv seq sum long) (raw age opt typ id adv seq sum long) := by
  obtain ⟨h1, h2, h3, h4, h5⟩ := may_at h
  unfold lsa_raw.f
  rw [show (((age) % 4294967296) * 65536) % 4294967296 = age * 65536 by omega, show (((opt) % 4294967296) * 256) % 4294967296 = opt * 256 by omega, show typ % 4294967296 = typ by omega,
    show (((sum) % 4294967296) * 65536) % 4294967296 = sum * 65536 by omega, show long % 4294967296 = long by omega]
  rw [bits_join .u32 32 (by decide) wraps_u32 16 (age * 65536) (opt * 256) (by omega) (by omega) (by omega) (by omega) (by omega) (by omega)]
  rw [bits_join .u32 32 (by decide) wraps_u32 8 (age * 65536 + opt * 256) typ (by omega) (by omega) (by omega) (by omega) (by omega) (by omega)]
  rw [bits_join .u32 32 (by decide) wraps_u32 16 (sum * 65536) long (by omega) (by omega) (by omega) (by omega) (by omega) (by omega)]
  have hm := nums_mem h hi ha hs
  have hr := row_ev (nums age opt typ id adv seq sum long) 4 hm (by simp [nums])
  rw [row_four _ hm] at hr
  exact Ev.bind0 hr rfl
theorem four_eq (n : Int) : crossroadsref01_Four.f n = some (be n 4) := by
  unfold crossroadsref01_Four.f
  simp [be]
theorem two_eq (n : Int) (h : 0 ≤ n ∧ n ≤ 65535) : crossroadsref11_two.f n = some [n / 256 % 256, n % 256] := by
  unfold crossroadsref11_two.f
  rw [Int.tdiv_eq_ediv_of_nonneg h.1, Int.tmod_eq_emod_of_nonneg h.1, w64 (by omega), Int.emod_emod_of_dvd n (Int.dvd_refl 256)]
theorem rraw_eq (age opt typ id adv seq sum long : Int) (h : may age opt typ sum long = true) : crossroadsref11_raw.f age opt typ id adv seq sum long = some (raw age opt typ id adv seq sum long) := by
  obtain ⟨h1, h2, h3, h4, h5⟩ := may_at h
  unfold crossroadsref11_raw.f
  rw [two_eq age (by omega), two_eq sum (by omega), two_eq long (by omega)]
  simp only [four_eq, Option.bind_some, List.length_append, be_length, List.length_cons, List.length_nil]
  simp only [show (0 + 1 + 1 + (0 + 1 + 1) < 140737488355328) from by decide, show (0 + 1 + 1 + (0 + 1 + 1) + 4 < 140737488355328) from by decide, show (0 + 1 + 1 + (0 + 1 + 1) + 4 + 4 < 140737488355328) from by decide, show (0 + 1 + 1 + (0 + 1 + 1) + 4 + 4 + 4 < 140737488355328) from by decide, show (0 + 1 + 1 + (0 + 1 + 1) + 4 + 4 + 4 + (0 + 1 + 1) < 140737488355328) from by decide, show (0 + 1 + 1 + (0 + 1 + 1) + 4 + 4 + 4 + (0 + 1 + 1) + (0 + 1 + 1) < 140737488355328) from by decide, if_true]
  refine congrArg some ?_
  have e1 : [age / 256 % 256, age % 256] ++ [opt % 256, typ % 256] = be (age * 65536 + opt * 256 + typ) 4 := by
    simp only [be, List.cons_append, List.nil_append]
    rw [show (age * 65536 + opt * 256 + typ) / 256 ^ 3 % 256 = age / 256 % 256 by omega, show (age * 65536 + opt * 256 + typ) / 256 ^ 2 % 256 = age % 256 by omega, show (age * 65536 + opt * 256 + typ) / 256 ^ 1 % 256 = opt % 256 by omega, show (age * 65536 + opt * 256 + typ) / 256 ^ 0 % 256 = typ % 256 by omega]
  have e2 : [sum / 256 % 256, sum % 256] ++ [long / 256 % 256, long % 256] = be (sum * 65536 + long) 4 := by
    simp only [be, List.cons_append, List.nil_append]
    rw [show (sum * 65536 + long) / 256 ^ 3 % 256 = sum / 256 % 256 by omega, show (sum * 65536 + long) / 256 ^ 2 % 256 = sum % 256 by omega, show (sum * 65536 + long) / 256 ^ 1 % 256 = long / 256 % 256 by omega, show (sum * 65536 + long) / 256 ^ 0 % 256 = long % 256 by omega]
  rw [e1, List.append_assoc _ [sum / 256 % 256, sum % 256], e2]
  simp [raw, nums]
def head (age opt typ id adv seq sum long : Int) : List Int × Int := if may age opt typ sum long then (raw age opt typ id adv seq sum long, 0) else ([], 1)
theorem head_ev (age opt typ id adv seq sum long : Int) (hi : 0 ≤ id ∧ id < 4294967296) (ha : 0 ≤ adv ∧ adv < 4294967296) (hs : 0 ≤ seq ∧ seq < 4294967296) :
    Ev (fun k => lsa_Head.f k age opt typ id adv seq sum long) (head age opt typ id adv seq sum long) := by
  unfold lsa_Head.f head
  refine Ev.bind (may_ev age opt typ id adv seq sum long) ?_
  by_cases h : may age opt typ sum long = true
  · simp only [h, if_true]
    exact Ev.bind0 (raw_ev age opt typ id adv seq sum long h hi ha hs) rfl
  · simp only [h]
    exact Ev.now _
theorem rhead_eq (age opt typ id adv seq sum long : Int) : crossroadsref11_Head.f age opt typ id adv seq sum long = some (head age opt typ id adv seq sum long) := by
  unfold crossroadsref11_Head.f head
  rw [rmay_eq]
  simp only [Option.bind_some]
  by_cases h : may age opt typ sum long = true
  · simp only [h, if_true]
    rw [rraw_eq age opt typ id adv seq sum long h]
    rfl
  · simp only [h]
    rfl
theorem LsaHeads_pure : crossroadslaw11_LsaHeads.Pure := by
  intro age opt typ id adv seq sum long _ _ _ hi ha hs _ _
  refine Ev.rounds ?_
  have hi := wf_u32 hi
  have ha := wf_u32 ha
  have hs := wf_u32 hs
  have hn : crossroadsref11_Next.f seq = lsa_Next.f seq := rfl
  obtain ⟨n, hn2⟩ : ∃ n, lsa_Next.f seq = some n := by unfold lsa_Next.f; split <;> exact ⟨_, rfl⟩
  unfold crossroadslaw11_LsaHeads.f
  refine Ev.bind (head_ev age opt typ id adv seq sum long hi ha hs) ?_
  rw [rhead_eq, hn, hn2]
  simp only [Option.bind_some]
  refine Ev.bind alive_ev ?_
  simp only [if_true]
  refine Ev.bind0 (may_ev age opt typ id adv seq sum long) ?_
  simp [rmay_eq, lsa_Key.f, crossroadsref11_Key.f]
end Go.Proofs.Ytmeppheikmgoeaa.PLh

