/- Externals: what they are written as, and what bytes are read as. -/
import Derived.Test.YtdlgikajkljdeaaLBodyE
import Derived.Laws.BitsAllLaws
set_option linter.unusedSimpArgs false
set_option linter.unusedVariables false
namespace Go.Proofs.Ytdlgikajkljdeaa.PBd
open Go.RowKit Go.Proofs.YtdlgikajkljdeaaW.PrintWords Go.Proofs.YtdlgikajkljdeaaW.PrintLast Go.Proofs.YtdlgikajkljdeaaW.PrintMore Go.Proofs.Ytdlgikajkljdeaa.Aid

def code (s : Bool) (c : Int) : Int := if s = true then c + 2147483648 else c
theorem or_high (c : Int) (h : 0 ≤ c ∧ c ≤ 16777215) : bits .or .u32 c 2147483648 = c + 2147483648 := by
  have h1 : bits .or .u32 2147483648 c = 2147483648 + c := bits_join .u32 32 (by decide) wraps_u32 31 2147483648 c (by omega) (by decide) (by decide) (by omega) (by omega) (by omega)
  have h2 : bits .or .u32 c 2147483648 = bits .or .u32 2147483648 c := by
    show IntKind.u32.wrap (((BitVec.ofInt 32 c) ||| (BitVec.ofInt 32 2147483648)).toNat : Int) = IntKind.u32.wrap (((BitVec.ofInt 32 2147483648) ||| (BitVec.ofInt 32 c)).toNat : Int)
    rw [BitVec.or_comm]
  rw [h2, h1]; omega
theorem not_high (r : Int) (h : 0 ≤ r ∧ r < 4294967296) : bits .andNot .u32 r 2147483648 = r % 2147483648 := by
  rw [u32_andNot r 2147483648 h.1 h.2 (by omega) (by omega)]
  have : r.toNat &&& (4294967295 - (2147483648 : Int).toNat) = r.toNat % 2 ^ 31 := Nat.and_two_pow_sub_one_eq_mod r.toNat 31
  rw [this]
  omega
theorem is_high (r : Int) (h : 0 ≤ r ∧ r < 4294967296) : (bits .and .u32 r 2147483648 != 0) = decide (2147483648 ≤ r) := by
  rw [u32_and r 2147483648 h.1 h.2 (by omega) (by omega)]
  have hm : r.toNat &&& (2147483648 : Int).toNat = 2147483648 * (r.toNat / 2147483648 % 2) := by
    show r.toNat &&& 2 ^ 31 = _
    have h2 : (r.toNat &&& 2 ^ 31) >>> 31 = (r.toNat >>> 31) &&& 1 := by rw [Nat.shiftRight_and_distrib]; rfl
    have h3 : (r.toNat &&& 2 ^ 31) % 2 ^ 31 = 0 := by rw [Nat.and_mod_two_pow]; simp
    rw [Nat.shiftRight_eq_div_pow, Nat.shiftRight_eq_div_pow, Nat.and_one_is_mod] at h2
    generalize r.toNat &&& 2 ^ 31 = m at *
    omega
  rw [hm]
  by_cases h2 : 2147483648 ≤ r
  · rw [decide_eq_true h2, show r.toNat / 2147483648 % 2 = 1 by omega]; rfl
  · rw [decide_eq_false h2, show r.toNat / 2147483648 % 2 = 0 by omega]; rfl
theorem low24 (r : Int) (h : 0 ≤ r ∧ r < 4294967296) : bits .and .u32 r 16777215 = r % 16777216 :=
  bits_mask .u32 32 (by decide) wraps_u32 24 (by decide) r h.1 (by simpa using h.2)
def ext (m : Int) (s : Bool) (c f t : Int) : List Int × Int := if isM m = true ∧ cost c = true then ([m, code s c, f, t].flatMap (be · 4), 0) else ([], 1)
theorem code_range {s : Bool} {c : Int} (h : 0 ≤ c ∧ c ≤ 16777215) : 0 ≤ code s c ∧ code s c < 4294967296 := by unfold code; split <;> omega
theorem four_mem {a b c d : Int} (ha : 0 ≤ a ∧ a < 4294967296) (hb : 0 ≤ b ∧ b < 4294967296) (hc : 0 ≤ c ∧ c < 4294967296) (hd : 0 ≤ d ∧ d < 4294967296) : ∀ x ∈ [a, b, c, d], 0 ≤ x ∧ x < 4294967296 := by
  intro x hx
  simp only [List.mem_cons, List.not_mem_nil, or_false] at hx
  rcases hx with rfl | rfl | rfl | rfl <;> assumption
theorem ext_ev (m : Int) (s : Bool) (c f t : Int) (hm : 0 ≤ m ∧ m < 4294967296) (hf : 0 ≤ f ∧ f < 4294967296) (ht : 0 ≤ t ∧ t < 4294967296) : Ev (fun k => body_External.f k m s c f t) (ext m s c f t) := by
  unfold body_External.f ext
  rw [isMask_eq m hm, cost_eq]
  simp only [Option.bind_some]
  by_cases h1 : isM m = true
  · simp only [h1, if_true, true_and]
    by_cases h2 : cost c = true
    · have hc : 0 ≤ c ∧ c ≤ 16777215 := by simpa [cost] using h2
      have hl := four_mem hm (code_range (s := s) hc) hf ht
      have hr := row_ev [m, code s c, f, t] 4 hl (by simp)
      rw [row_four _ hl] at hr
      simp only [h2, if_true]
      refine Ev.step (f := fun k => ((octet_Row.f k [m, code s c, f, t] 4).bind fun bt => (some (bt.1, bt.2)))) (fun k => ?_) (Ev.bind0 hr rfl)
      simp only [body_External.j0]
      rw [if_neg (by simp), show c % 4294967296 = c by omega, or_high c hc]
      cases s <;> simp [code]
    · simp only [h2]
      refine Ev.done fun k => ?_
      simp [body_External.j0]
  · simp only [h1, false_and, if_false]
    refine Ev.done fun k => ?_
    simp [body_External.j0]
theorem rext_j1 (m n : Int) (s : Bool) (c f t : Int) (k : Nat) : crossroadsref12_External.j1 (k + 1) n m s c f t = some ([m, n, f, t].flatMap (be · 4), 0) := by
  simp only [crossroadsref12_External.j1, four_eq, Option.bind_some, be_length, List.length_append]
  rw [if_pos (by omega), if_pos (by omega), if_pos (by omega)]
  simp
theorem rext_ev (m : Int) (s : Bool) (c f t : Int) : Ev (fun k => crossroadsref12_External.f k m s c f t) (ext m s c f t) := by
  unfold crossroadsref12_External.f ext
  refine Ev.bind (risMask_ev m) ?_
  by_cases h1 : isM m = true
  · simp only [h1, if_true, true_and, rcost_eq, Option.bind_some]
    by_cases h2 : cost c = true
    · have hc : 0 ≤ c ∧ c ≤ 16777215 := by simpa [cost] using h2
      simp only [h2, if_true]
      refine Ev.step (f := fun k => crossroadsref12_External.j1 k (code s c) m s c f t) (fun k => ?_) (Ev.done fun k => rext_j1 _ _ _ _ _ _ _)
      simp only [crossroadsref12_External.j0]
      rw [if_neg (by simp), show c % 4294967296 = c by omega, show (c + 2147483648) % 4294967296 = c + 2147483648 by omega]
      cases s <;> simp [code]
    · simp only [h2]
      refine Ev.done fun k => ?_
      simp [crossroadsref12_External.j0]
  · simp only [h1, false_and, if_false]
    refine Ev.done fun k => ?_
    simp [crossroadsref12_External.j0]
abbrev X6 := Int × Bool × Int × Int × Int × Int
def rext (l : List Int) : X6 :=
  if l.length < 16 then (0, false, 0, 0, 0, 2) else if l.length > 16 then (0, false, 0, 0, 0, 3) else
  if isM (rd (chunks 4 4 l) 0) = true ∧ rd (chunks 4 4 l) 1 % 2147483648 ≤ 16777215 then (rd (chunks 4 4 l) 0, decide (2147483648 ≤ rd (chunks 4 4 l) 1), rd (chunks 4 4 l) 1 % 16777216, rd (chunks 4 4 l) 2, rd (chunks 4 4 l) 3, 0) else (0, false, 0, 0, 0, 3)
theorem rext_lt {l : List Int} (h : l.length < 16) : rext l = (0, false, 0, 0, 0, 2) := by unfold rext; rw [if_pos h]
theorem rext_gt {l : List Int} (h : l.length > 16) : rext l = (0, false, 0, 0, 0, 3) := by unfold rext; rw [if_neg (by omega), if_pos h]
theorem rext_eq {l : List Int} (h : l.length = 16) : rext l = if isM (rd (chunks 4 4 l) 0) = true ∧ rd (chunks 4 4 l) 1 % 2147483648 ≤ 16777215 then (rd (chunks 4 4 l) 0, decide (2147483648 ≤ rd (chunks 4 4 l) 1), rd (chunks 4 4 l) 1 % 16777216, rd (chunks 4 4 l) 2, rd (chunks 4 4 l) 3, 0) else (0, false, 0, 0, 0, 3) := by unfold rext; rw [if_neg (by omega), if_neg (by omega)]
theorem rows_sixteen {l : List Int} (h : l.length = 16) : rows l 4 = (chunks 4 4 l, 0) := by
  rw [rows4, if_pos (by omega), h]
theorem readx_ev (l : List Int) (hb : ∀ x ∈ l, 0 ≤ x ∧ x ≤ 255) (hl : l.length < 35184372088832) : Ev (fun k => body_ReadExternal.f k l) (rext l) := by
  unfold body_ReadExternal.f body_rows.f
  rw [show wrap64 (4 * 4) = 16 by rw [w64 (by omega)]; rfl]
  by_cases h1 : (l.length : Int) < 16
  · rw [rext_lt (by omega)]
    simp only [if_pos h1]
    exact Ev.const fun k => by simp
  · simp only [if_neg h1]
    by_cases h2 : (l.length : Int) > 16
    · rw [rext_gt (by omega)]
      simp only [if_pos h2]
      exact Ev.const fun k => by simp
    · simp only [if_neg h2]
      have h8 : l.length = 16 := by omega
      have hr := rows_ev l 4 hb hl
      rw [rows_sixteen h8] at hr
      rw [rext_eq h8]
      have hc := chunks_length 4 4 l
      have h0 := chunks_mem 4 l hb _ (rd_mem (chunks 4 4 l) 0 (by omega) (by omega))
      have h4 := chunks_mem 4 l hb _ (rd_mem (chunks 4 4 l) 1 (by omega) (by omega))
      by_cases h5 : isM (rd (chunks 4 4 l) 0) = true
      · refine Ev.bind0 (Ev.bind0 (r := (chunks 4 4 l, 0)) hr ?_) ?_
        · simp only
          rw [if_pos (by omega), isMask_eq _ h0]
          simp [h5]
        · simp only [if_true, h5, true_and]
          rw [if_pos (by omega), not_high _ h4, is_high _ h4, low24 _ h4]
          by_cases h6 : rd (chunks 4 4 l) 1 % 2147483648 > 16777215
          · rw [if_pos h6, if_neg (by omega)]
          · rw [if_neg h6, if_pos (by omega), if_pos (by omega), if_pos (by omega), if_pos (by omega), w64 (by omega)]
      · refine Ev.bind0 (Ev.bind0 (r := ([], 3)) hr ?_) ?_
        · simp only
          rw [if_pos (by omega), isMask_eq _ h0]
          simp [h5]
        · simp [h5]
theorem rreadx_ev (l : List Int) (hb : ∀ x ∈ l, 0 ≤ x ∧ x ≤ 255) (hl : l.length < 35184372088832) : Ev (fun k => crossroadsref12_ReadExternal.f k l) (rext l) := by
  unfold crossroadsref12_ReadExternal.f
  by_cases h1 : (l.length : Int) < 16
  · rw [rext_lt (by omega)]
    simp only [if_pos h1]
    exact Ev.now _
  · simp only [if_neg h1]
    by_cases h2 : (l.length : Int) > 16
    · rw [rext_gt (by omega)]
      simp only [if_pos h2]
      refine Ev.done fun k => ?_
      simp [crossroadsref12_ReadExternal.j0]
    · simp only [if_neg h2]
      have h8 : l.length = 16 := by omega
      have hr := rrows_ev l 4 hb hl
      rw [rows_sixteen h8] at hr
      rw [rext_eq h8]
      have hc := chunks_length 4 4 l
      have h0 := chunks_mem 4 l hb _ (rd_mem (chunks 4 4 l) 0 (by omega) (by omega))
      obtain ⟨hs, b4, b5, b6, b7⟩ := second l hb 4 (by omega) (by omega)
      simp only [show (4 : Int) < (l.length : Int) by omega, if_true]
      have hgo : rd l 4 = 0 ∨ rd l 4 = 128 → Ev (fun k => crossroadsref12_ReadExternal.j0 k l false) (if isM (rd (chunks 4 4 l) 0) = true ∧ rd (chunks 4 4 l) 1 % 2147483648 ≤ 16777215 then (rd (chunks 4 4 l) 0, decide (2147483648 ≤ rd (chunks 4 4 l) 1), rd (chunks 4 4 l) 1 % 16777216, rd (chunks 4 4 l) 2, rd (chunks 4 4 l) 3, 0) else (0, false, 0, 0, 0, 3)) := by
        intro h4
        refine Ev.step (f := fun k => ((crossroadsref01_Rows.f k l 4).bind fun bt394 => (if 0 < (bt394.1.length : Int) then ((crossroadsref12_isMask.f k (rd bt394.1 0)).bind fun t399 => (if t399 = true then (if 4 < (l.length : Int) then (if 1 < (bt394.1.length : Int) then (if 2 < (bt394.1.length : Int) then (if 3 < (bt394.1.length : Int) then (some (rd bt394.1 0, ((rd l 4) == 128), wrap64 (Int.tmod (rd bt394.1 1) 16777216), rd bt394.1 2, rd bt394.1 3, (0 : Int))) else (none)) else (none)) else (none)) else (none)) else (some (0, false, 0, 0, 0, 3)))) else (none)))) (fun k => ?_) ?_
        · simp only [crossroadsref12_ReadExternal.j0]
          rw [if_neg (by simp)]
        · refine Ev.bind hr ?_
          simp only [show (0 : Int) < ((chunks 4 4 l).length : Int) by omega, if_true]
          refine Ev.bind0 (risMask_ev _) ?_
          by_cases h5 : isM (rd (chunks 4 4 l) 0) = true
          · rw [if_pos h5, if_pos (by omega), if_pos (by omega), if_pos (by omega), if_pos (by omega), if_pos ⟨h5, by omega⟩, Int.tmod_eq_emod_of_nonneg (by omega), w64 (by omega)]
            have e : (rd l 4 == 128) = decide (2147483648 ≤ rd (chunks 4 4 l) 1) := by
              rw [show (rd l 4 == 128) = decide (rd l 4 = 128) from rfl, decide_eq_decide]; omega
            rw [e]
          · rw [if_neg h5, if_neg (fun h => h5 h.1)]
      by_cases h4 : rd l 4 = 0
      · simp only [if_pos h4]
        exact hgo (.inl h4)
      · simp only [h4, if_false]
        by_cases h5 : rd l 4 = 128
        · simpa [h5] using hgo (.inr h5)
        · rw [if_neg (by omega)]
          refine Ev.done fun k => ?_
          simp [crossroadsref12_ReadExternal.j0, h5]
theorem backx (m : Int) (s : Bool) (c f t : Int) (hm : 0 ≤ m ∧ m < 4294967296) (hf : 0 ≤ f ∧ f < 4294967296) (ht : 0 ≤ t ∧ t < 4294967296) (h : isM m = true ∧ cost c = true) : rext (ext m s c f t).1 = (m, s, c, f, t, 0) := by
  have hc : 0 ≤ c ∧ c ≤ 16777215 := by simpa [cost] using h.2
  have hl := four_mem hm (code_range (s := s) hc) hf ht
  have hf := flat_length [m, code s c, f, t]
  have hk := chunks_four [m, code s c, f, t] hl
  unfold ext
  rw [if_pos h]
  simp only
  rw [rext_eq (by rw [hf]; rfl)]
  rw [show (chunks 4 4 ([m, code s c, f, t].flatMap (be · 4))) = [m, code s c, f, t] from hk]
  have e0 : rd [m, code s c, f, t] 0 = m := rfl
  have e1 : rd [m, code s c, f, t] 1 = code s c := rfl
  have e2 : rd [m, code s c, f, t] 2 = f := rfl
  have e3 : rd [m, code s c, f, t] 3 = t := rfl
  rw [e0, e1, e2, e3]
  have h1 : code s c % 2147483648 = c := by unfold code; split <;> omega
  have h2 : code s c % 16777216 = c := by unfold code; split <;> omega
  have h3 : decide (2147483648 ≤ code s c) = s := by
    cases s
    · simp [code]; omega
    · simp [code]; omega
  rw [h1, h2, h3, if_pos ⟨h.1, hc.2⟩]
theorem forthx (l : List Int) (hb : ∀ x ∈ l, 0 ≤ x ∧ x ≤ 255) (h : (rext l).2.2.2.2.2 = 0) : ext (rext l).1 (rext l).2.1 (rext l).2.2.1 (rext l).2.2.2.1 (rext l).2.2.2.2.1 = (l, 0) := by
  by_cases h1 : l.length < 16
  · rw [rext_lt h1] at h; simp at h
  · by_cases h2 : l.length > 16
    · rw [rext_gt h2] at h; simp at h
    · have h8 : l.length = 16 := by omega
      rw [rext_eq h8] at h ⊢
      by_cases h3 : isM (rd (chunks 4 4 l) 0) = true ∧ rd (chunks 4 4 l) 1 % 2147483648 ≤ 16777215
      · simp only [if_pos h3]
        have hc := chunks_length 4 4 l
        have hf := flat_chunks 4 l hb (by omega)
        have h4 := chunks_mem 4 l hb _ (rd_mem (chunks 4 4 l) 1 (by omega) (by omega))
        generalize chunks 4 4 l = g at *
        rcases g with _ | ⟨x0, _ | ⟨x1, _ | ⟨x2, _ | ⟨x3, _ | ⟨x4, t⟩⟩⟩⟩⟩
        · simp at hc
        · simp at hc
        · simp at hc
        · simp at hc
        · have e0 : rd [x0, x1, x2, x3] 0 = x0 := rfl
          have e1 : rd [x0, x1, x2, x3] 1 = x1 := rfl
          have e2 : rd [x0, x1, x2, x3] 2 = x2 := rfl
          have e3 : rd [x0, x1, x2, x3] 3 = x3 := rfl
          rw [e0, e1] at h3
          rw [e1] at h4
          rw [e0, e1, e2, e3]
          unfold ext
          have hcode : code (decide (2147483648 ≤ x1)) (x1 % 16777216) = x1 := by
            unfold code
            by_cases h9 : 2147483648 ≤ x1
            · rw [if_pos (by simpa using h9)]; omega
            · rw [if_neg (by simpa using h9)]; omega
          rw [if_pos ⟨h3.1, by simp [cost]; omega⟩, hcode, hf]
        · simp at hc
      · rw [if_neg h3] at h; simp at h
theorem ext_mem (m : Int) (s : Bool) (c f t : Int) : ∀ x ∈ (ext m s c f t).1, 0 ≤ x ∧ x ≤ 255 := by
  unfold ext
  split
  · exact flat_mem _
  · simp
theorem ext_len (m : Int) (s : Bool) (c f t : Int) : (ext m s c f t).1.length ≤ 16 := by
  unfold ext
  split
  · rw [flat_length]; simp
  · simp
theorem rext_range (l : List Int) (hb : ∀ x ∈ l, 0 ≤ x ∧ x ≤ 255) : (0 ≤ (rext l).1 ∧ (rext l).1 < 4294967296) ∧ (0 ≤ (rext l).2.2.2.1 ∧ (rext l).2.2.2.1 < 4294967296) ∧ (0 ≤ (rext l).2.2.2.2.1 ∧ (rext l).2.2.2.2.1 < 4294967296) := by
  have hc := chunks_length 4 4 l
  have h0 := chunks_mem 4 l hb _ (rd_mem (chunks 4 4 l) 0 (by omega) (by omega))
  have h2 := chunks_mem 4 l hb _ (rd_mem (chunks 4 4 l) 2 (by omega) (by omega))
  have h3 := chunks_mem 4 l hb _ (rd_mem (chunks 4 4 l) 3 (by omega) (by omega))
  unfold rext
  repeat' split
  all_goals first | exact ⟨h0, h2, h3⟩ | simp
theorem BodyExternal_pure : crossroadslaw12_BodyExternal.Pure := by
  intro m s c f t l hm _ hf ht hl
  refine Ev.rounds ?_
  have hm := wf_u32 hm
  have hf := wf_u32 hf
  have ht := wf_u32 ht
  have hb : ∀ x ∈ l, 0 ≤ x ∧ x ≤ 255 := fun x hx => wf_u8 (hl.2.2 x hx)
  unfold crossroadslaw12_BodyExternal.f
  by_cases h : (l.length : Int) > 1400
  · simp only [if_pos h]
    exact Ev.bind0 alive_ev rfl
  · simp only [if_neg h]
    have h8 := ext_len m s c f t
    obtain ⟨r1, r2, r3⟩ := rext_range l hb
    refine Ev.bind (ext_ev m s c f t hm hf ht) ?_
    refine Ev.bind (rext_ev m s c f t) ?_
    refine Ev.bind (readx_ev l hb (by omega)) ?_
    refine Ev.bind (rreadx_ev l hb (by omega)) ?_
    refine Ev.bind (readx_ev _ (ext_mem m s c f t) (by omega)) ?_
    refine Ev.bind (ext_ev _ _ _ _ _ r1 r2 r3) ?_
    by_cases e : (ext m s c f t).2 = 0
    · have hmc : isM m = true ∧ cost c = true := by
        by_cases h : isM m = true ∧ cost c = true
        · exact h
        · unfold ext at e; rw [if_neg h] at e; simp at e
      rw [backx m s c f t hm hf ht hmc]
      simp only [e, if_true]
      by_cases g : (rext l).2.2.2.2.2 = 0
      · rw [forthx l hb g]
        simp only [g, if_true, beq_self_eq_true]
        exact Ev.bind0 alive_ev (by simp)
      · simp only [g, if_false, if_true, beq_self_eq_true]
        exact Ev.bind0 alive_ev (by simp)
    · simp only [e, if_false]
      by_cases g : (rext l).2.2.2.2.2 = 0
      · rw [forthx l hb g]
        simp only [g, if_true, beq_self_eq_true]
        exact Ev.bind0 alive_ev (by simp)
      · simp only [g, if_false, if_true, beq_self_eq_true]
        exact Ev.bind0 alive_ev (by simp)
end Go.Proofs.Ytdlgikajkljdeaa.PBd

