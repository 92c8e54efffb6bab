/- What the functions of hello and of its reference come to. -/
import Derived.Test.YtgfjhkapbpagcaaLOct2Dd
set_option linter.unusedSimpArgs false
set_option linter.unusedVariables false
namespace Go.Proofs.Ytgfjhkapbpagcaa.PHd
open Go.RowKit Go.Proofs.YtgfjhkapbpagcaaW.PrintWords Go.Proofs.YtgfjhkapbpagcaaW.PrintLast Go.Proofs.YtgfjhkapbpagcaaW.PrintMore Go.Proofs.Ytgfjhkapbpagcaa.Aid

theorem alive_ev : Ev (fun k => crossroadslaw10_alive.f k) true := Ev.of crossroadslaw10_alive.mono (k := 12) (by decide +kernel)

/-- May a greeting be written. -/
def may (i o p : Int) (n : Nat) : Bool := decide ((0 ≤ i ∧ i ≤ 65535) ∧ (0 ≤ o ∧ o ≤ 255) ∧ (0 ≤ p ∧ p ≤ 255) ∧ (n : Int) ≤ 300)
theorem isIn_eq (a b : Int) : hello_isIn.f a b = some (decide (0 ≤ a ∧ a ≤ b)) := by
  unfold hello_isIn.f
  by_cases h : a ≥ 0
  · rw [if_pos h]; simp [show (0 : Int) ≤ a from h]
  · rw [if_neg h]; simp; intro h'; omega
theorem may_eq (m i o p d r b : Int) (l : List Int) : hello_May.f m i o p d r b l = some (may i o p l.length) := by
  unfold hello_May.f may
  simp only [isIn_eq, Option.bind_some]
  by_cases h1 : 0 ≤ i ∧ i ≤ 65535 <;> by_cases h2 : 0 ≤ o ∧ o ≤ 255 <;> by_cases h3 : 0 ≤ p ∧ p ≤ 255 <;> simp [h1, h2, h3]
/-- The greeting's numbers as a row. -/
def nums5 (m i o p d r b : Int) (l : List Int) : List Int := [m, i * 65536 + o * 256 + p, d, r, b] ++ l
def enc (m i o p d r b : Int) (l : List Int) : List Int × Int := if may i o p l.length then ((nums5 m i o p d r b l).flatMap (be · 4), 0) else ([], 1)
theorem may_at {i o p : Int} {n : Nat} (h : may i o p n = true) : (0 ≤ i ∧ i ≤ 65535) ∧ (0 ≤ o ∧ o ≤ 255) ∧ (0 ≤ p ∧ p ≤ 255) ∧ (n : Int) ≤ 300 := by simpa [may] using h
theorem times_eq (m i o p d r b : Int) (l : List Int) (h : may i o p l.length = true) : hello_Hello_times.f m i o p d r b l = some (i * 65536 + o * 256 + p) := by
  obtain ⟨h1, h2, h3, _⟩ := may_at h
  unfold hello_Hello_times.f
  rw [show (((i) % 4294967296) * 65536) % 4294967296 = i * 65536 by omega, show (((o) % 4294967296) * 256) % 4294967296 = o * 256 by omega, show p % 4294967296 = p by omega]
  rw [bits_join .u32 32 (by decide) wraps_u32 16 (i * 65536) (o * 256) (by omega) (by omega) (by omega) (by omega) (by omega) (by omega)]
  rw [bits_join .u32 32 (by decide) wraps_u32 8 (i * 65536 + o * 256) p (by omega) (by omega) (by omega) (by omega) (by omega) (by omega)]
theorem row_four (l : List Int) (hl : ∀ x ∈ l, 0 ≤ x ∧ x < 4294967296) : row l 4 = (l.flatMap (be · 4), 0) := by
  unfold row
  rw [if_neg (by omega), rowN_four l [] hl]
  rfl
theorem nums5_mem {m i o p d r b : Int} {l : List Int} (h : may i o p l.length = true) (hm : 0 ≤ m ∧ m < 4294967296) (hd : 0 ≤ d ∧ d < 4294967296) (hr : 0 ≤ r ∧ r < 4294967296) (hb : 0 ≤ b ∧ b < 4294967296)
    (hl : ∀ x ∈ l, 0 ≤ x ∧ x < 4294967296) : ∀ x ∈ nums5 m i o p d r b l, 0 ≤ x ∧ x < 4294967296 := by
  obtain ⟨h1, h2, h3, _⟩ := may_at h
  intro x hx
  simp only [nums5, List.cons_append, List.nil_append, List.mem_cons] at hx
  rcases hx with rfl | rfl | rfl | rfl | rfl | hx
  · exact hm
  · omega
  · exact hd
  · exact hr
  · exact hb
  · exact hl x hx
theorem enc_ev (m i o p d r b : Int) (l : List Int) (hm : 0 ≤ m ∧ m < 4294967296) (hd : 0 ≤ d ∧ d < 4294967296) (hr : 0 ≤ r ∧ r < 4294967296) (hb : 0 ≤ b ∧ b < 4294967296)
    (hl : ∀ x ∈ l, 0 ≤ x ∧ x < 4294967296) : Ev (fun k => hello_Encode.f k m i o p d r b l) (enc m i o p d r b l) := by
  unfold hello_Encode.f enc
  rw [may_eq]
  simp only [Option.bind_some]
  by_cases h : may i o p l.length = true
  · have hn := (may_at h).2.2.2
    simp only [h, if_true]
    rw [times_eq m i o p d r b l h]
    simp only [Option.bind_some, List.length_cons, List.length_nil]
    simp only [show 0 + 1 + 1 + 1 + 1 + 1 + l.length < 35184372088832 by omega, if_true]
    have hr := row_ev (nums5 m i o p d r b l) 4 (nums5_mem h hm hd hr hb hl) (by simp [nums5]; omega)
    rw [row_four _ (nums5_mem h hm hd (by assumption) hb hl)] at hr
    exact Ev.bind0 hr rfl
  · simp only [h, if_false]
    exact Ev.now _
/-- The bits of an and, with a small mask. -/
theorem i64_wrap_small (n : Nat) (h : n < 9223372036854775808) : IntKind.i64.wrap (n : Int) = (n : Int) := by rw [IntKind.wrap_i64]; omega
theorem i64_ofInt_wrap (x : Int) : BitVec.ofInt 64 (IntKind.i64.wrap x) = BitVec.ofInt 64 x := by
  apply BitVec.eq_of_toInt_eq
  rw [BitVec.toInt_ofInt, BitVec.toInt_ofInt, IntKind.wrap_i64]
  simp only [Int.bmod_def, Nat.reducePow]
  omega
theorem and_i64 (a : Int) : bits .and .i64 a 10 = (((BitVec.ofInt 64 a) &&& 10#64).toNat : Int) := by
  have h : ((BitVec.ofInt 64 a) &&& 10#64).toNat ≤ 10 := by
    rw [BitVec.toNat_and]; exact Nat.le_trans Nat.and_le_right (by decide)
  have := i64_wrap_small ((BitVec.ofInt 64 a) &&& 10#64).toNat (by omega)
  rw [← this]
  rfl
theorem xor_i64 (a b : Int) : BitVec.ofInt 64 (bits .xor .i64 a b) = BitVec.ofInt 64 a ^^^ BitVec.ofInt 64 b := by
  show BitVec.ofInt 64 (IntKind.i64.wrap (((BitVec.ofInt 64 a) ^^^ (BitVec.ofInt 64 b)).toNat : Int)) = _
  rw [i64_ofInt_wrap, BitVec.ofInt_natCast, BitVec.ofNat_toNat, BitVec.setWidth_eq]
theorem same_bits (a b : Int) : (bits .and .i64 (bits .xor .i64 a b) 10 = 0) ↔ (bits .and .i64 a 10 = bits .and .i64 b 10) := by
  rw [and_i64, and_i64, and_i64, xor_i64]
  have e : (BitVec.ofInt 64 a ^^^ BitVec.ofInt 64 b) &&& 10#64 = (BitVec.ofInt 64 a &&& 10#64) ^^^ (BitVec.ofInt 64 b &&& 10#64) := by
    ext i hi
    simp only [BitVec.getElem_and, BitVec.getElem_xor]
    cases (BitVec.ofInt 64 a)[i] <;> cases (BitVec.ofInt 64 b)[i] <;> cases (10#64)[i] <;> rfl
  rw [e]
  constructor
  · intro h
    have h0 : (BitVec.ofInt 64 a &&& 10#64) ^^^ (BitVec.ofInt 64 b &&& 10#64) = 0#64 := by
      apply BitVec.eq_of_toNat_eq
      simpa using h
    rw [BitVec.xor_eq_zero_iff.1 h0]
  · intro h
    have h0 : (BitVec.ofInt 64 a &&& 10#64) = (BitVec.ofInt 64 b &&& 10#64) := BitVec.eq_of_toNat_eq (by exact_mod_cast h)
    rw [h0]; simp

def check (fm fi fo fd : Int) (q : Bool) (m i o d : Int) : Int :=
  if i = fi ∧ d = fd ∧ (q = true ∨ m = fm) then (if bits .and .i64 o 10 = bits .and .i64 fo 10 then 0 else 3) else 13
theorem check_ev (fm fi fo fd fr : Int) (q : Bool) (m i o p d r b : Int) (l : List Int) : Ev (fun k => hello_Check.f k fm fi fo fd fr q m i o p d r b l) (check fm fi fo fd q m i o d) := by
  refine ⟨3, fun k hk => ?_⟩
  obtain ⟨k, rfl⟩ : ∃ n, k = n + 3 := ⟨k - 3, by omega⟩
  have hs := same_bits o fo
  unfold hello_Check.f check
  by_cases h1 : i = fi <;> by_cases h2 : d = fd <;> by_cases h3 : m = fm <;> cases q <;> simp [h1, h2, h3, hello_Check.j0, hello_Check.j1] <;> by_cases h4 : bits .and .i64 o 10 = bits .and .i64 fo 10 <;> simp_all
/-- Where a number stands first in what is left of a row. -/
theorem index_l0 (l : List Int) (v : Int) (hl : l.length ≤ 9223372036854775807) : ∀ (j i : Nat), i + j = l.length →
    ∃ r : Int, Ev (fun k => slices_Index_uint32_uint32.l0 k l v (l.length : Int) (i : Int)) r ∧ decide (r ≥ 0) = (l.drop i).contains v := by
  intro j
  induction j with
  | zero =>
    intro i hi
    obtain rfl : i = l.length := by omega
    refine ⟨-1, Ev.done fun k => ?_, by simp⟩
    simp only [slices_Index_uint32_uint32.l0]
    rw [if_neg (by omega)]
  | succ j ih =>
    intro i hi
    have hi' : i < l.length := by omega
    by_cases h : v = rd l i
    · refine ⟨i, Ev.done fun k => ?_, ?_⟩
      · simp only [slices_Index_uint32_uint32.l0]
        rw [if_pos (by omega), if_pos (by omega), if_pos (by omega), if_pos h]
      · rw [drop_rd l i hi', ← h]; simp
    · obtain ⟨r, h1, h2⟩ := ih (i + 1) (by omega)
      refine ⟨r, Ev.step (f := fun k => slices_Index_uint32_uint32.l0 k l v (l.length : Int) ((i + 1 : Nat) : Int)) (fun k => ?_) h1, ?_⟩
      · simp only [slices_Index_uint32_uint32.l0]
        rw [if_pos (by omega), if_pos (by omega), if_pos (by omega), if_neg h, w64 (by omega)]
        rfl
      · rw [h2, drop_rd l i hi', List.contains_cons]
        simp [h]
theorem both_ev (fm fi fo fd fr : Int) (q : Bool) (m i o p d r b : Int) (l : List Int) (hl : l.length ≤ 9223372036854775807) : Ev (fun k => hello_Both.f k fm fi fo fd fr q m i o p d r b l) (l.contains fr) := by
  obtain ⟨x, h1, h2⟩ := index_l0 l fr hl l.length 0 (by omega)
  unfold hello_Both.f slices_Contains_uint32_uint32.f slices_Index_uint32_uint32.f
  refine Ev.bind0 (Ev.bind0 (a := x) (by simpa using h1) rfl) ?_
  rw [h2]; rfl
/-- A greeting off its bytes. -/
theorem be_num (a b c d : Int) (ha : 0 ≤ a ∧ a ≤ 255) (hb : 0 ≤ b ∧ b ≤ 255) (hc : 0 ≤ c ∧ c ≤ 255) (hd : 0 ≤ d ∧ d ≤ 255) : num [a, b, c, d] = ((a * 256 + b) * 256 + c) * 256 + d ∧ be (num [a, b, c, d]) 4 = [a, b, c, d] := by
  have h : num [a, b, c, d] = ((a * 256 + b) * 256 + c) * 256 + d := by
    simp only [num, List.foldl]; omega
  refine ⟨h, ?_⟩
  rw [h]
  simp only [be]
  congr 1
  · omega
  congr 1
  · omega
  congr 1
  · omega
  congr 1
  omega
theorem take4 {l : List Int} (h : 4 ≤ l.length) : ∃ a b c d t, l = a :: b :: c :: d :: t := by
  rcases l with _ | ⟨a, _ | ⟨b, _ | ⟨c, _ | ⟨d, t⟩⟩⟩⟩
  · simp at h
  · simp at h
  · simp at h
  · simp at h
  · exact ⟨a, b, c, d, t, rfl⟩
theorem flat_chunks : ∀ (q : Nat) (l : List Int), (∀ x ∈ l, 0 ≤ x ∧ x ≤ 255) → l.length = q * 4 → (chunks 4 q l).flatMap (be · 4) = l := by
  intro q
  induction q with
  | zero => intro l _ h; cases l <;> simp at h; rfl
  | succ q ih =>
    intro l hb hl
    obtain ⟨a, b, c, d, t, rfl⟩ := take4 (l := l) (by omega)
    have h := be_num a b c d (hb a (by simp)) (hb b (by simp)) (hb c (by simp)) (hb d (by simp))
    simp only [chunks, List.take, List.drop, List.flatMap_cons]
    rw [h.2, ih t (fun x hx => hb x (by simp [hx])) (by simp at hl; omega)]
    rfl
theorem chunks_mem : ∀ (q : Nat) (l : List Int), (∀ x ∈ l, 0 ≤ x ∧ x ≤ 255) → ∀ x ∈ chunks 4 q l, 0 ≤ x ∧ x < 4294967296 := by
  intro q
  induction q with
  | zero => intro l _ x hx; simp [chunks] at hx
  | succ q ih =>
    intro l hb x hx
    rcases List.mem_cons.1 hx with rfl | hx
    · exact num_range _ (fun y hy => hb y (List.mem_of_mem_take hy))
    · exact ih _ (fun y hy => hb y (List.mem_of_mem_drop hy)) x hx
theorem and255 (x : Int) (h0 : 0 ≤ x) (h1 : x < 4294967296) : bits .and .i64 x 255 = x % 256 :=
  bits_mask .i64 32 (by decide) (fun n h0 h1 => by rw [IntKind.wrap_i64]; omega) 8 (by decide) x h0 (by simpa using h1)

abbrev T9 := Int × Int × Int × Int × Int × Int × Int × List Int × Int
def dec (l : List Int) : T9 :=
  if (l.length : Int) < 20 ∨ (l.length : Int) % 4 ≠ 0 then (0, 0, 0, 0, 0, 0, 0, [], 2) else
  if (l.length / 4 : Nat) > 305 then (0, 0, 0, 0, 0, 0, 0, [], 5) else
  (rd (chunks 4 (l.length / 4) l) 0, rd (chunks 4 (l.length / 4) l) 1 / 65536, rd (chunks 4 (l.length / 4) l) 1 / 256 % 256, rd (chunks 4 (l.length / 4) l) 1 % 256, rd (chunks 4 (l.length / 4) l) 2, rd (chunks 4 (l.length / 4) l) 3, rd (chunks 4 (l.length / 4) l) 4, (chunks 4 (l.length / 4) l).drop 5, 0)
theorem rows4 (l : List Int) : rows l 4 = if (l.length : Int) % 4 = 0 then (chunks 4 (l.length / 4) l, 0) else ([], 2) := by
  unfold rows
  rw [if_neg (by omega)]
  rfl
theorem dec_short {l : List Int} (h : (l.length : Int) < 20 ∨ (l.length : Int) % 4 ≠ 0) : dec l = (0, 0, 0, 0, 0, 0, 0, [], 2) := by unfold dec; rw [if_pos h]
theorem dec_long {l : List Int} (h : ¬ ((l.length : Int) < 20 ∨ (l.length : Int) % 4 ≠ 0)) (h3 : (l.length / 4 : Nat) > 305) : dec l = (0, 0, 0, 0, 0, 0, 0, [], 5) := by unfold dec; rw [if_neg h, if_pos h3]
theorem dec_ok {l : List Int} (h : ¬ ((l.length : Int) < 20 ∨ (l.length : Int) % 4 ≠ 0)) (h3 : ¬ (l.length / 4 : Nat) > 305) : dec l =
  (rd (chunks 4 (l.length / 4) l) 0, rd (chunks 4 (l.length / 4) l) 1 / 65536, rd (chunks 4 (l.length / 4) l) 1 / 256 % 256, rd (chunks 4 (l.length / 4) l) 1 % 256, rd (chunks 4 (l.length / 4) l) 2, rd (chunks 4 (l.length / 4) l) 3, rd (chunks 4 (l.length / 4) l) 4, (chunks 4 (l.length / 4) l).drop 5, 0) := by unfold dec; rw [if_neg h, if_neg h3]
theorem dec_ev (l : List Int) (hb : ∀ x ∈ l, 0 ≤ x ∧ x ≤ 255) (hl : l.length ≤ 1300) : Ev (fun k => hello_Decode.f k l) (dec l) := by
  have hr := rows_ev l 4 hb (by omega)
  rw [rows4] at hr
  unfold hello_Decode.f
  refine Ev.bind hr ?_
  by_cases h1 : (l.length : Int) % 4 = 0
  · simp only [if_pos h1, if_true]
    refine Ev.done fun k => ?_
    simp only [hello_Decode.j0]
    have hc := chunks_length 4 (l.length / 4) l
    by_cases h2 : (l.length : Int) < 20
    · rw [if_pos (by simpa using h2), dec_short (.inl h2)]
    · rw [if_neg (by simpa using h2)]
      by_cases h3 : (l.length / 4 : Nat) > 305
      · rw [if_pos (by omega), dec_long (by omega) h3]
      · have hT := chunks_mem (l.length / 4) l hb _ (rd_mem _ 1 (by omega) (by omega))
        rw [if_neg (by omega), dec_ok (by omega) h3]
        rw [if_pos (by omega), if_pos (by omega), if_pos (by omega), if_pos (by omega), if_pos (by omega), if_pos (by omega), w64 (by omega), and255 _ (by omega) (by omega), and255 _ (by omega) (by omega)]
        rfl
  · rw [dec_short (.inr h1)]
    simp only [if_neg h1]
    refine Ev.done fun k => ?_
    simp [hello_Decode.j0]
theorem second (l : List Int) (hb : ∀ x ∈ l, 0 ≤ x ∧ x ≤ 255) (q : Nat) (hq : 2 ≤ q) (hl : l.length = q * 4) : rd (chunks 4 q l) 1 = ((rd l 4 * 256 + rd l 5) * 256 + rd l 6) * 256 + rd l 7 ∧
    (0 ≤ rd l 4 ∧ rd l 4 ≤ 255) ∧ (0 ≤ rd l 5 ∧ rd l 5 ≤ 255) ∧ (0 ≤ rd l 6 ∧ rd l 6 ≤ 255) ∧ (0 ≤ rd l 7 ∧ rd l 7 ≤ 255) := by
  obtain ⟨q, rfl⟩ : ∃ n, q = n + 2 := ⟨q - 2, by omega⟩
  obtain ⟨a, b, c, d, t, rfl⟩ := take4 (l := l) (by omega)
  obtain ⟨a2, b2, c2, d2, t2, rfl⟩ := take4 (l := t) (by simp at hl; omega)
  have h := be_num a2 b2 c2 d2 (hb _ (by simp)) (hb _ (by simp)) (hb _ (by simp)) (hb _ (by simp))
  refine ⟨?_, hb a2 (by simp), hb b2 (by simp), hb c2 (by simp), hb d2 (by simp)⟩
  simp only [chunks, List.take, List.drop, rd]
  exact h.1
theorem rdec_ev (l : List Int) (hb : ∀ x ∈ l, 0 ≤ x ∧ x ≤ 255) (hl : l.length ≤ 1300) : Ev (fun k => crossroadsref10_Decode.f k l) (dec l) := by
  unfold crossroadsref10_Decode.f
  by_cases h2 : (l.length : Int) < 20
  · rw [dec_short (.inl h2)]
    simp only [if_pos h2]
    refine Ev.done fun k => ?_
    simp [crossroadsref10_Decode.j0]
  · simp only [if_neg h2]
    by_cases h1 : (l.length : Int) % 4 = 0
    · have hr := rrows_ev l 4 hb (by omega)
      rw [rows4, if_pos h1] at hr
      have hc := chunks_length 4 (l.length / 4) l
      refine Ev.step (f := fun k => ((crossroadsref01_Rows.f k l 4).bind fun bt295 => (if (bt295.1.length : Int) > 305 then (some (0, 0, 0, 0, 0, 0, 0, ([] : List Int), 5)) else (if 0 < (bt295.1.length : Int) then (if 4 < (l.length : Int) then (if 5 < (l.length : Int) then (if 6 < (l.length : Int) then (if 7 < (l.length : Int) then (if 2 < (bt295.1.length : Int) then (if 3 < (bt295.1.length : Int) then (if 4 < (bt295.1.length : Int) then (if 5 ≤ (bt295.1.length : Int) then (some (rd bt295.1 0, wrap64 ((wrap64 (256 * (wrap64 (rd l 4)))) + (wrap64 (rd l 5))), wrap64 (rd l 6), wrap64 (rd l 7), rd bt295.1 2, rd bt295.1 3, rd bt295.1 4, (bt295.1.drop (5 : Int).toNat), 0)) else (none)) else (none)) else (none)) else (none)) else (none)) else (none)) else (none)) else (none)) else (none))))) (fun k => ?_) (Ev.bind0 hr ?_)
      · simp only [crossroadsref10_Decode.j0]
        rw [if_neg (by simp [h1])]
      · by_cases h3 : (l.length / 4 : Nat) > 305
        · rw [if_pos (by simp only [hc]; omega), dec_long (by omega) h3]
        · obtain ⟨hs, b4, b5, b6, b7⟩ := second l hb (l.length / 4) (by omega) (by omega)
          simp only [hc]
          rw [if_neg (by omega), dec_ok (by omega) h3]
          rw [if_pos (by omega), if_pos (by omega), if_pos (by omega), if_pos (by omega), if_pos (by omega), if_pos (by omega), if_pos (by omega), if_pos (by omega), if_pos (by omega), hs]
          rw [w64 (x := rd l 4) (by omega), w64 (x := rd l 5) (by omega), w64 (x := rd l 6) (by omega), w64 (x := rd l 7) (by omega), w64 (x := 256 * rd l 4) (by omega), w64 (x := 256 * rd l 4 + rd l 5) (by omega)]
          refine congrArg some ?_
          refine Prod.ext rfl (Prod.ext ?_ (Prod.ext ?_ (Prod.ext ?_ rfl)))
          · show 256 * rd l 4 + rd l 5 = (((rd l 4 * 256 + rd l 5) * 256 + rd l 6) * 256 + rd l 7) / 65536; omega
          · show rd l 6 = (((rd l 4 * 256 + rd l 5) * 256 + rd l 6) * 256 + rd l 7) / 256 % 256; omega
          · show rd l 7 = (((rd l 4 * 256 + rd l 5) * 256 + rd l 6) * 256 + rd l 7) % 256; omega
    · rw [dec_short (.inr h1)]
      refine Ev.done fun k => ?_
      simp [crossroadsref10_Decode.j0, h1]
theorem dec_mem (l : List Int) (hb : ∀ x ∈ l, 0 ≤ x ∧ x ≤ 255) : (0 ≤ (dec l).1 ∧ (dec l).1 < 4294967296) ∧ (0 ≤ (dec l).2.2.2.2.1 ∧ (dec l).2.2.2.2.1 < 4294967296) ∧ (0 ≤ (dec l).2.2.2.2.2.1 ∧ (dec l).2.2.2.2.2.1 < 4294967296) ∧ (0 ≤ (dec l).2.2.2.2.2.2.1 ∧ (dec l).2.2.2.2.2.2.1 < 4294967296) ∧ (∀ x ∈ (dec l).2.2.2.2.2.2.2.1, 0 ≤ x ∧ x < 4294967296) := by
  have hc := chunks_length 4 (l.length / 4) l
  have hm := chunks_mem (l.length / 4) l hb
  unfold dec
  split
  · simp
  · split
    · simp
    · exact ⟨hm _ (rd_mem _ 0 (by omega) (by omega)), hm _ (rd_mem _ 2 (by omega) (by omega)), hm _ (rd_mem _ 3 (by omega) (by omega)), hm _ (rd_mem _ 4 (by omega) (by omega)), fun x hx => hm x (List.mem_of_mem_drop hx)⟩
theorem dec_back (l : List Int) (hb : ∀ x ∈ l, 0 ≤ x ∧ x ≤ 255) (h : (dec l).2.2.2.2.2.2.2.2 = 0) :
    enc (dec l).1 (dec l).2.1 (dec l).2.2.1 (dec l).2.2.2.1 (dec l).2.2.2.2.1 (dec l).2.2.2.2.2.1 (dec l).2.2.2.2.2.2.1 (dec l).2.2.2.2.2.2.2.1 = (l, 0) := by
  have hc := chunks_length 4 (l.length / 4) l
  have hm := chunks_mem (l.length / 4) l hb
  unfold dec at h ⊢
  by_cases h1 : (l.length : Int) < 20 ∨ (l.length : Int) % 4 ≠ 0
  · rw [if_pos h1] at h; simp at h
  · by_cases h2 : (l.length / 4 : Nat) > 305
    · rw [if_neg h1, if_pos h2] at h; simp at h
    · simp only [if_neg h1, if_neg h2]
      have hf := flat_chunks (l.length / 4) l hb (by omega)
      have hq : 5 ≤ (chunks 4 (l.length / 4) l).length := by omega
      generalize chunks 4 (l.length / 4) l = g at *
      rcases g with _ | ⟨x0, _ | ⟨x1, _ | ⟨x2, _ | ⟨x3, _ | ⟨x4, t⟩⟩⟩⟩⟩
      · simp at hq
      · simp at hq
      · simp at hq
      · simp at hq
      · simp at hq
      · have hT := hm x1 (by simp)
        have hr0 : rd (x0 :: x1 :: x2 :: x3 :: x4 :: t) 0 = x0 := rfl
        have hr1 : rd (x0 :: x1 :: x2 :: x3 :: x4 :: t) 1 = x1 := rfl
        have hr2 : rd (x0 :: x1 :: x2 :: x3 :: x4 :: t) 2 = x2 := rfl
        have hr3 : rd (x0 :: x1 :: x2 :: x3 :: x4 :: t) 3 = x3 := rfl
        have hr4 : rd (x0 :: x1 :: x2 :: x3 :: x4 :: t) 4 = x4 := rfl
        simp only [hr0, hr1, hr2, hr3, hr4, List.drop]
        simp only [List.length_cons] at hc
        unfold enc
        have hmay : may (x1 / 65536) (x1 / 256 % 256) (x1 % 256) t.length = true := by
          simp only [may, decide_eq_true_eq]; omega
        rw [if_pos hmay]
        have : nums5 x0 (x1 / 65536) (x1 / 256 % 256) (x1 % 256) x2 x3 x4 t = x0 :: x1 :: x2 :: x3 :: x4 :: t := by
          simp only [nums5, List.cons_append, List.nil_append]
          rw [show x1 / 65536 * 65536 + x1 / 256 % 256 * 256 + x1 % 256 = x1 by omega]
        rw [this, hf]
theorem dec_len (l : List Int) (hl : l.length ≤ 1300) : (dec l).2.2.2.2.2.2.2.1.length ≤ 9223372036854775807 := by
  have hc := chunks_length 4 (l.length / 4) l
  unfold dec
  split
  · simp
  · split
    · simp
    · simp only [List.length_drop]; omega
theorem HelloDecode_pure : crossroadslaw10_HelloDecode.Pure := by
  intro l _ _ hb
  refine Ev.rounds ?_
  have hb : ∀ x ∈ l, 0 ≤ x ∧ x ≤ 255 := fun x hx => wf_u8 (hb x hx)
  unfold crossroadslaw10_HelloDecode.f
  by_cases h : (l.length : Int) > 1300
  · simp only [if_pos h]
    exact Ev.bind0 alive_ev rfl
  · simp only [if_neg h, Option.bind_some, List.length_nil, List.nil_append]
    simp only [show 0 + l.length < 140737488355328 by omega, if_true]
    obtain ⟨m1, m2, m3, m4, m5⟩ := dec_mem l hb
    have hlen := dec_len l (by omega)
    refine Ev.bind (dec_ev l hb (by omega)) ?_
    refine Ev.bind (rdec_ev l hb (by omega)) ?_
    refine Ev.bind (enc_ev (dec l).1 (dec l).2.1 (dec l).2.2.1 (dec l).2.2.2.1 (dec l).2.2.2.2.1 (dec l).2.2.2.2.2.1 (dec l).2.2.2.2.2.2.1 (dec l).2.2.2.2.2.2.2.1 m1 m2 m3 m4 m5) ?_
    refine Ev.bind alive_ev ?_
    simp only [if_true, crossroadslaw10_plain.f, Option.bind_some]
    have hsame : Ev (fun k => crossroadsref10_Same.f k (dec l).1 (dec l).2.1 (dec l).2.2.1 (dec l).2.2.2.1 (dec l).2.2.2.2.1 (dec l).2.2.2.2.2.1 (dec l).2.2.2.2.2.2.1 (dec l).2.2.2.2.2.2.2.1 (dec l).1 (dec l).2.1 (dec l).2.2.1 (dec l).2.2.2.1 (dec l).2.2.2.2.1 (dec l).2.2.2.2.2.1 (dec l).2.2.2.2.2.2.1 (dec l).2.2.2.2.2.2.2.1) true := by
      unfold crossroadsref10_Same.f
      simp only [if_true]
      exact Ev.bind0 (same_ev _ hlen) rfl
    refine Ev.bind0 hsame ?_
    simp only [if_true]
    by_cases h0 : (dec l).2.2.2.2.2.2.2.2 = 0
    · rw [if_pos h0, dec_back l hb h0]
      simp
    · rw [if_neg h0]
end Go.Proofs.Ytgfjhkapbpagcaa.PHd

