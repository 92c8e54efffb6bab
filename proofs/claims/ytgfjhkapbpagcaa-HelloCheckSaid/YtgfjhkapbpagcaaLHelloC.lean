/- What the functions of hello and of its reference come to. -/
import Derived.Test.YtgfjhkapbpagcaaLOct2C
set_option linter.unusedSimpArgs false
set_option linter.unusedVariables false
namespace Go.Proofs.Ytgfjhkapbpagcaa.PAll
open Go.RowKit Go.Proofs.YtgfjhkapbpagcaaW.PrintWords Go.Proofs.YtgfjhkapbpagcaaW.PrintLast Go.Proofs.YtgfjhkapbpagcaaW.PrintMore Go.Proofs.Ytgfjhkapbpagcaa.Aid

theorem alive_ev : Ev (fun k => crossroadslaw10_alive.f k) true := Ev.of crossroadslaw10_alive.mono (k := 12) (by decide +kernel)

/-- May a greeting be written. -/
def may (i o p : Int) (n : Nat) : Bool := decide ((0 ≤ i ∧ i ≤ 65535) ∧ (0 ≤ o ∧ o ≤ 255) ∧ (0 ≤ p ∧ p ≤ 255) ∧ (n : Int) ≤ 300)
theorem isIn_eq (a b : Int) : hello_isIn.f a b = some (decide (0 ≤ a ∧ a ≤ b)) := by
  unfold hello_isIn.f
  by_cases h : a ≥ 0
  · rw [if_pos h]; simp [show (0 : Int) ≤ a from h]
  · rw [if_neg h]; simp; intro h'; omega
theorem may_eq (m i o p d r b : Int) (l : List Int) : hello_May.f m i o p d r b l = some (may i o p l.length) := by
  unfold hello_May.f may
  simp only [isIn_eq, Option.bind_some]
  by_cases h1 : 0 ≤ i ∧ i ≤ 65535 <;> by_cases h2 : 0 ≤ o ∧ o ≤ 255 <;> by_cases h3 : 0 ≤ p ∧ p ≤ 255 <;> simp [h1, h2, h3]
theorem rmay_eq (m i o p d r b : Int) (l : List Int) : crossroadsref10_May.f m i o p d r b l = some (may i o p l.length) := by
  unfold crossroadsref10_May.f may
  repeat' split
  all_goals (refine congrArg some ?_; first | (rw [decide_eq_decide]; omega) | (symm; rw [decide_eq_false_iff_not]; omega))

/-- The greeting's numbers as a row. -/
def nums5 (m i o p d r b : Int) (l : List Int) : List Int := [m, i * 65536 + o * 256 + p, d, r, b] ++ l
def enc (m i o p d r b : Int) (l : List Int) : List Int × Int := if may i o p l.length then ((nums5 m i o p d r b l).flatMap (be · 4), 0) else ([], 1)
theorem may_at {i o p : Int} {n : Nat} (h : may i o p n = true) : (0 ≤ i ∧ i ≤ 65535) ∧ (0 ≤ o ∧ o ≤ 255) ∧ (0 ≤ p ∧ p ≤ 255) ∧ (n : Int) ≤ 300 := by simpa [may] using h
theorem times_eq (m i o p d r b : Int) (l : List Int) (h : may i o p l.length = true) : hello_Hello_times.f m i o p d r b l = some (i * 65536 + o * 256 + p) := by
  obtain ⟨h1, h2, h3, _⟩ := may_at h
  unfold hello_Hello_times.f
  rw [show (((i) % 4294967296) * 65536) % 4294967296 = i * 65536 by omega, show (((o) % 4294967296) * 256) % 4294967296 = o * 256 by omega, show p % 4294967296 = p by omega]
  rw [bits_join .u32 32 (by decide) wraps_u32 16 (i * 65536) (o * 256) (by omega) (by omega) (by omega) (by omega) (by omega) (by omega)]
  rw [bits_join .u32 32 (by decide) wraps_u32 8 (i * 65536 + o * 256) p (by omega) (by omega) (by omega) (by omega) (by omega) (by omega)]
theorem row_four (l : List Int) (hl : ∀ x ∈ l, 0 ≤ x ∧ x < 4294967296) : row l 4 = (l.flatMap (be · 4), 0) := by
  unfold row
  rw [if_neg (by omega), rowN_four l [] hl]
  rfl
theorem nums5_mem {m i o p d r b : Int} {l : List Int} (h : may i o p l.length = true) (hm : 0 ≤ m ∧ m < 4294967296) (hd : 0 ≤ d ∧ d < 4294967296) (hr : 0 ≤ r ∧ r < 4294967296) (hb : 0 ≤ b ∧ b < 4294967296)
    (hl : ∀ x ∈ l, 0 ≤ x ∧ x < 4294967296) : ∀ x ∈ nums5 m i o p d r b l, 0 ≤ x ∧ x < 4294967296 := by
  obtain ⟨h1, h2, h3, _⟩ := may_at h
  intro x hx
  simp only [nums5, List.cons_append, List.nil_append, List.mem_cons] at hx
  rcases hx with rfl | rfl | rfl | rfl | rfl | hx
  · exact hm
  · omega
  · exact hd
  · exact hr
  · exact hb
  · exact hl x hx
theorem enc_ev (m i o p d r b : Int) (l : List Int) (hm : 0 ≤ m ∧ m < 4294967296) (hd : 0 ≤ d ∧ d < 4294967296) (hr : 0 ≤ r ∧ r < 4294967296) (hb : 0 ≤ b ∧ b < 4294967296)
    (hl : ∀ x ∈ l, 0 ≤ x ∧ x < 4294967296) : Ev (fun k => hello_Encode.f k m i o p d r b l) (enc m i o p d r b l) := by
  unfold hello_Encode.f enc
  rw [may_eq]
  simp only [Option.bind_some]
  by_cases h : may i o p l.length = true
  · have hn := (may_at h).2.2.2
    simp only [h, if_true]
    rw [times_eq m i o p d r b l h]
    simp only [Option.bind_some, List.length_cons, List.length_nil]
    simp only [show 0 + 1 + 1 + 1 + 1 + 1 + l.length < 35184372088832 by omega, if_true]
    have hr := row_ev (nums5 m i o p d r b l) 4 (nums5_mem h hm hd hr hb hl) (by simp [nums5]; omega)
    rw [row_four _ (nums5_mem h hm hd (by assumption) hb hl)] at hr
    exact Ev.bind0 hr rfl
  · simp only [h, if_false]
    exact Ev.now _
theorem four_eq (n : Int) : crossroadsref01_Four.f n = some (be n 4) := by
  unfold crossroadsref01_Four.f
  simp [be]
theorem renc_l0 (x : List Int) (hx : x.length ≤ 1000) : ∀ (j i : Nat) (acc : List Int), i + j = x.length → acc.length + 4 * j < 1000000 →
    Ev (fun k => crossroadsref10_Encode.l0 k acc x (i : Int)) (acc ++ (x.drop i).flatMap (be · 4), 0) := by
  intro j
  induction j with
  | zero =>
    intro i acc hi _
    obtain rfl : i = x.length := by omega
    refine Ev.done fun k => ?_
    simp [crossroadsref10_Encode.l0]
  | succ j ih =>
    intro i acc hi ha
    have hi' : i < x.length := by omega
    refine Ev.step (f := fun k => crossroadsref10_Encode.l0 k (acc ++ be (rd x i) 4) x ((i + 1 : Nat) : Int)) (fun k => ?_) ?_
    · simp only [crossroadsref10_Encode.l0, four_eq, Option.bind_some]
      rw [if_pos (by omega), if_pos (by omega), if_pos (by rw [be_length]; omega), w64 (by omega)]
      rfl
    · have := ih (i + 1) (acc ++ be (rd x i) 4) (by omega) (by simp [be_length]; omega)
      rw [drop_rd x i hi']
      simpa using this
theorem renc_ev (m i o p d r b : Int) (l : List Int) : Ev (fun k => crossroadsref10_Encode.f k m i o p d r b l) (enc m i o p d r b l) := by
  unfold crossroadsref10_Encode.f enc
  rw [rmay_eq]
  simp only [Option.bind_some]
  by_cases h : may i o p l.length = true
  · obtain ⟨h1, h2, h3, hn⟩ := may_at h
    simp only [h, if_true, four_eq, Option.bind_some, be_length, List.length_cons, List.length_nil]
    simp only [show 4 + (0 + 1 + 1 + 1 + 1) < 140737488355328 by omega, show 0 + 1 + 1 + 1 + l.length < 35184372088832 by omega, if_true]
    have e0 : wrap64 (Int.tdiv i 256) % 256 = (i * 65536 + o * 256 + p) / 256 ^ 3 % 256 := by
      rw [Int.tdiv_eq_ediv_of_nonneg h1.1, w64 (by omega)]; omega
    have e1 : Int.tmod i 256 % 256 = (i * 65536 + o * 256 + p) / 256 ^ 2 % 256 := by
      rw [Int.tmod_eq_emod_of_nonneg h1.1]; omega
    have e2 : o % 256 = (i * 65536 + o * 256 + p) / 256 ^ 1 % 256 := by omega
    have e3 : p % 256 = (i * 65536 + o * 256 + p) / 256 ^ 0 % 256 := by omega
    have he : [wrap64 (Int.tdiv i 256) % 256, Int.tmod i 256 % 256, o % 256, p % 256] = be (i * 65536 + o * 256 + p) 4 := by
      rw [e0, e1, e2, e3]; rfl
    have := renc_l0 ([d, r, b] ++ l) (by simp; omega) (([d, r, b] ++ l).length) 0 (be m 4 ++ be (i * 65536 + o * 256 + p) 4) (by omega) (by simp [be_length]; omega)
    simp only [he]
    simpa [nums5] using this
  · simp only [h, if_false]
    exact Ev.now _

/-- The bits of an and, with a small mask. -/
theorem i64_wrap_small (n : Nat) (h : n < 9223372036854775808) : IntKind.i64.wrap (n : Int) = (n : Int) := by rw [IntKind.wrap_i64]; omega
theorem i64_ofInt_wrap (x : Int) : BitVec.ofInt 64 (IntKind.i64.wrap x) = BitVec.ofInt 64 x := by
  apply BitVec.eq_of_toInt_eq
  rw [BitVec.toInt_ofInt, BitVec.toInt_ofInt, IntKind.wrap_i64]
  simp only [Int.bmod_def, Nat.reducePow]
  omega
theorem and_i64 (a : Int) : bits .and .i64 a 10 = (((BitVec.ofInt 64 a) &&& 10#64).toNat : Int) := by
  have h : ((BitVec.ofInt 64 a) &&& 10#64).toNat ≤ 10 := by
    rw [BitVec.toNat_and]; exact Nat.le_trans Nat.and_le_right (by decide)
  have := i64_wrap_small ((BitVec.ofInt 64 a) &&& 10#64).toNat (by omega)
  rw [← this]
  rfl
theorem xor_i64 (a b : Int) : BitVec.ofInt 64 (bits .xor .i64 a b) = BitVec.ofInt 64 a ^^^ BitVec.ofInt 64 b := by
  show BitVec.ofInt 64 (IntKind.i64.wrap (((BitVec.ofInt 64 a) ^^^ (BitVec.ofInt 64 b)).toNat : Int)) = _
  rw [i64_ofInt_wrap, BitVec.ofInt_natCast, BitVec.ofNat_toNat, BitVec.setWidth_eq]
theorem same_bits (a b : Int) : (bits .and .i64 (bits .xor .i64 a b) 10 = 0) ↔ (bits .and .i64 a 10 = bits .and .i64 b 10) := by
  rw [and_i64, and_i64, and_i64, xor_i64]
  have e : (BitVec.ofInt 64 a ^^^ BitVec.ofInt 64 b) &&& 10#64 = (BitVec.ofInt 64 a &&& 10#64) ^^^ (BitVec.ofInt 64 b &&& 10#64) := by
    ext i hi
    simp only [BitVec.getElem_and, BitVec.getElem_xor]
    cases (BitVec.ofInt 64 a)[i] <;> cases (BitVec.ofInt 64 b)[i] <;> cases (10#64)[i] <;> rfl
  rw [e]
  constructor
  · intro h
    have h0 : (BitVec.ofInt 64 a &&& 10#64) ^^^ (BitVec.ofInt 64 b &&& 10#64) = 0#64 := by
      apply BitVec.eq_of_toNat_eq
      simpa using h
    rw [BitVec.xor_eq_zero_iff.1 h0]
  · intro h
    have h0 : (BitVec.ofInt 64 a &&& 10#64) = (BitVec.ofInt 64 b &&& 10#64) := BitVec.eq_of_toNat_eq (by exact_mod_cast h)
    rw [h0]; simp

def check (fm fi fo fd : Int) (q : Bool) (m i o d : Int) : Int :=
  if i = fi ∧ d = fd ∧ (q = true ∨ m = fm) then (if bits .and .i64 o 10 = bits .and .i64 fo 10 then 0 else 3) else 13
theorem check_ev (fm fi fo fd fr : Int) (q : Bool) (m i o p d r b : Int) (l : List Int) : Ev (fun k => hello_Check.f k fm fi fo fd fr q m i o p d r b l) (check fm fi fo fd q m i o d) := by
  refine ⟨3, fun k hk => ?_⟩
  obtain ⟨k, rfl⟩ : ∃ n, k = n + 3 := ⟨k - 3, by omega⟩
  have hs := same_bits o fo
  unfold hello_Check.f check
  by_cases h1 : i = fi <;> by_cases h2 : d = fd <;> by_cases h3 : m = fm <;> cases q <;> simp [h1, h2, h3, hello_Check.j0, hello_Check.j1] <;> by_cases h4 : bits .and .i64 o 10 = bits .and .i64 fo 10 <;> simp_all
theorem rcheck_ev (fm fi fo fd fr : Int) (q : Bool) (m i o p d r b : Int) (l : List Int) : Ev (fun k => crossroadsref10_Check.f k fm fi fo fd fr q m i o p d r b l) (check fm fi fo fd q m i o d) := by
  refine ⟨3, fun k hk => ?_⟩
  obtain ⟨k, rfl⟩ : ∃ n, k = n + 3 := ⟨k - 3, by omega⟩
  unfold crossroadsref10_Check.f check
  by_cases h1 : i = fi <;> by_cases h2 : d = fd <;> by_cases h3 : m = fm <;> cases q <;> simp [h1, h2, h3, crossroadsref10_Check.j0] <;> by_cases h4 : bits .and .i64 o 10 = bits .and .i64 fo 10 <;> simp_all

/-- Where a number stands first in what is left of a row. -/
theorem index_l0 (l : List Int) (v : Int) (hl : l.length ≤ 9223372036854775807) : ∀ (j i : Nat), i + j = l.length →
    ∃ r : Int, Ev (fun k => slices_Index_uint32_uint32.l0 k l v (l.length : Int) (i : Int)) r ∧ decide (r ≥ 0) = (l.drop i).contains v := by
  intro j
  induction j with
  | zero =>
    intro i hi
    obtain rfl : i = l.length := by omega
    refine ⟨-1, Ev.done fun k => ?_, by simp⟩
    simp only [slices_Index_uint32_uint32.l0]
    rw [if_neg (by omega)]
  | succ j ih =>
    intro i hi
    have hi' : i < l.length := by omega
    by_cases h : v = rd l i
    · refine ⟨i, Ev.done fun k => ?_, ?_⟩
      · simp only [slices_Index_uint32_uint32.l0]
        rw [if_pos (by omega), if_pos (by omega), if_pos (by omega), if_pos h]
      · rw [drop_rd l i hi', ← h]; simp
    · obtain ⟨r, h1, h2⟩ := ih (i + 1) (by omega)
      refine ⟨r, Ev.step (f := fun k => slices_Index_uint32_uint32.l0 k l v (l.length : Int) ((i + 1 : Nat) : Int)) (fun k => ?_) h1, ?_⟩
      · simp only [slices_Index_uint32_uint32.l0]
        rw [if_pos (by omega), if_pos (by omega), if_pos (by omega), if_neg h, w64 (by omega)]
        rfl
      · rw [h2, drop_rd l i hi', List.contains_cons]
        simp [h]
theorem both_ev (fm fi fo fd fr : Int) (q : Bool) (m i o p d r b : Int) (l : List Int) (hl : l.length ≤ 9223372036854775807) : Ev (fun k => hello_Both.f k fm fi fo fd fr q m i o p d r b l) (l.contains fr) := by
  obtain ⟨x, h1, h2⟩ := index_l0 l fr hl l.length 0 (by omega)
  unfold hello_Both.f slices_Contains_uint32_uint32.f slices_Index_uint32_uint32.f
  refine Ev.bind0 (Ev.bind0 (a := x) (by simpa using h1) rfl) ?_
  rw [h2]; rfl
theorem rboth_l0 (fm fi fo fd fr : Int) (q : Bool) (m i o p d r b : Int) (l : List Int) (hl : l.length ≤ 9223372036854775807) : ∀ (j n : Nat) (f : Bool), n + j = l.length →
    Ev (fun k => crossroadsref10_Both.l0 k f (n : Int) fm fi fo fd fr q m i o p d r b l) (f || (l.drop n).contains fr) := by
  intro j
  induction j with
  | zero =>
    intro n f hn
    obtain rfl : n = l.length := by omega
    refine Ev.done fun k => ?_
    simp only [crossroadsref10_Both.l0]
    rw [if_neg (by omega)]
    simp
  | succ j ih =>
    intro n f hn
    have hn' : n < l.length := by omega
    cases f with
    | true =>
      refine Ev.step (f := fun k => crossroadsref10_Both.l0 k true ((n + 1 : Nat) : Int) fm fi fo fd fr q m i o p d r b l) (fun k => ?_) (by simpa using ih (n + 1) true (by omega))
      simp only [crossroadsref10_Both.l0]
      rw [if_pos (by omega), if_pos trivial, w64 (by omega)]
      rfl
    | false =>
      refine Ev.step (f := fun k => crossroadsref10_Both.l0 k (rd l n == fr) ((n + 1 : Nat) : Int) fm fi fo fd fr q m i o p d r b l) (fun k => ?_) ?_
      · simp only [crossroadsref10_Both.l0]
        rw [if_pos (by omega), if_neg (by simp), if_pos (by omega), w64 (by omega)]
        rfl
      · have := ih (n + 1) (rd l n == fr) (by omega)
        rw [drop_rd l n hn', List.contains_cons]
        have hc : (rd l n == fr) = (fr == rd l n) := by
          by_cases h : rd l n = fr
          · rw [h]
          · rw [beq_eq_false_iff_ne.2 h, beq_eq_false_iff_ne.2 (Ne.symm h)]
        simpa [hc] using this
theorem rboth_ev (fm fi fo fd fr : Int) (q : Bool) (m i o p d r b : Int) (l : List Int) (hl : l.length ≤ 9223372036854775807) : Ev (fun k => crossroadsref10_Both.f k fm fi fo fd fr q m i o p d r b l) (l.contains fr) := by
  unfold crossroadsref10_Both.f
  simpa using rboth_l0 fm fi fo fd fr q m i o p d r b l hl l.length 0 false (by omega)

theorem HelloCheck_pure : crossroadslaw10_HelloCheck.Pure := by
  intro fm fi fo fd fr q m i o p d r b l _ _ _ _ _ _ _ _ _ _ _ _ hl
  refine Ev.rounds ?_
  unfold crossroadslaw10_HelloCheck.f
  by_cases h : (l.length : Int) > 1300
  · simp only [if_pos h]
    exact Ev.bind0 alive_ev rfl
  · simp only [if_neg h]
    refine Ev.bind alive_ev ?_
    simp only [if_true]
    refine Ev.bind (check_ev fm fi fo fd fr q m i o p d r b l) ?_
    simp only [crossroadslaw10_plain.f, crossroadslaw10_iface.f, Option.bind_some]
    refine Ev.bind (rcheck_ev fm fi fo fd fr q m i o p d r b l) ?_
    simp only [if_true]
    refine Ev.bind (both_ev fm fi fo fd fr q m i o p d r b l (by omega)) ?_
    exact Ev.bind0 (rboth_ev fm fi fo fd fr q m i o p d r b l (by omega)) (by simp)

/-- A greeting off its bytes. -/
theorem be_num (a b c d : Int) (ha : 0 ≤ a ∧ a ≤ 255) (hb : 0 ≤ b ∧ b ≤ 255) (hc : 0 ≤ c ∧ c ≤ 255) (hd : 0 ≤ d ∧ d ≤ 255) : num [a, b, c, d] = ((a * 256 + b) * 256 + c) * 256 + d ∧ be (num [a, b, c, d]) 4 = [a, b, c, d] := by
  have h : num [a, b, c, d] = ((a * 256 + b) * 256 + c) * 256 + d := by
    simp only [num, List.foldl]; omega
  refine ⟨h, ?_⟩
  rw [h]
  simp only [be]
  congr 1
  · omega
  congr 1
  · omega
  congr 1
  · omega
  congr 1
  omega
theorem take4 {l : List Int} (h : 4 ≤ l.length) : ∃ a b c d t, l = a :: b :: c :: d :: t := by
  rcases l with _ | ⟨a, _ | ⟨b, _ | ⟨c, _ | ⟨d, t⟩⟩⟩⟩
  · simp at h
  · simp at h
  · simp at h
  · simp at h
  · exact ⟨a, b, c, d, t, rfl⟩
theorem flat_chunks : ∀ (q : Nat) (l : List Int), (∀ x ∈ l, 0 ≤ x ∧ x ≤ 255) → l.length = q * 4 → (chunks 4 q l).flatMap (be · 4) = l := by
  intro q
  induction q with
  | zero => intro l _ h; cases l <;> simp at h; rfl
  | succ q ih =>
    intro l hb hl
    obtain ⟨a, b, c, d, t, rfl⟩ := take4 (l := l) (by omega)
    have h := be_num a b c d (hb a (by simp)) (hb b (by simp)) (hb c (by simp)) (hb d (by simp))
    simp only [chunks, List.take, List.drop, List.flatMap_cons]
    rw [h.2, ih t (fun x hx => hb x (by simp [hx])) (by simp at hl; omega)]
    rfl
theorem chunks_mem : ∀ (q : Nat) (l : List Int), (∀ x ∈ l, 0 ≤ x ∧ x ≤ 255) → ∀ x ∈ chunks 4 q l, 0 ≤ x ∧ x < 4294967296 := by
  intro q
  induction q with
  | zero => intro l _ x hx; simp [chunks] at hx
  | succ q ih =>
    intro l hb x hx
    rcases List.mem_cons.1 hx with rfl | hx
    · exact num_range _ (fun y hy => hb y (List.mem_of_mem_take hy))
    · exact ih _ (fun y hy => hb y (List.mem_of_mem_drop hy)) x hx
theorem and255 (x : Int) (h0 : 0 ≤ x) (h1 : x < 4294967296) : bits .and .i64 x 255 = x % 256 :=
  bits_mask .i64 32 (by decide) (fun n h0 h1 => by rw [IntKind.wrap_i64]; omega) 8 (by decide) x h0 (by simpa using h1)

abbrev T9 := Int × Int × Int × Int × Int × Int × Int × List Int × Int
def dec (l : List Int) : T9 :=
  if (l.length : Int) < 20 ∨ (l.length : Int) % 4 ≠ 0 then (0, 0, 0, 0, 0, 0, 0, [], 2) else
  if (l.length / 4 : Nat) > 305 then (0, 0, 0, 0, 0, 0, 0, [], 5) else
  (rd (chunks 4 (l.length / 4) l) 0, rd (chunks 4 (l.length / 4) l) 1 / 65536, rd (chunks 4 (l.length / 4) l) 1 / 256 % 256, rd (chunks 4 (l.length / 4) l) 1 % 256, rd (chunks 4 (l.length / 4) l) 2, rd (chunks 4 (l.length / 4) l) 3, rd (chunks 4 (l.length / 4) l) 4, (chunks 4 (l.length / 4) l).drop 5, 0)
theorem rows4 (l : List Int) : rows l 4 = if (l.length : Int) % 4 = 0 then (chunks 4 (l.length / 4) l, 0) else ([], 2) := by
  unfold rows
  rw [if_neg (by omega)]
  rfl
theorem dec_short {l : List Int} (h : (l.length : Int) < 20 ∨ (l.length : Int) % 4 ≠ 0) : dec l = (0, 0, 0, 0, 0, 0, 0, [], 2) := by unfold dec; rw [if_pos h]
theorem dec_long {l : List Int} (h : ¬ ((l.length : Int) < 20 ∨ (l.length : Int) % 4 ≠ 0)) (h3 : (l.length / 4 : Nat) > 305) : dec l = (0, 0, 0, 0, 0, 0, 0, [], 5) := by unfold dec; rw [if_neg h, if_pos h3]
theorem dec_ok {l : List Int} (h : ¬ ((l.length : Int) < 20 ∨ (l.length : Int) % 4 ≠ 0)) (h3 : ¬ (l.length / 4 : Nat) > 305) : dec l =
  (rd (chunks 4 (l.length / 4) l) 0, rd (chunks 4 (l.length / 4) l) 1 / 65536, rd (chunks 4 (l.length / 4) l) 1 / 256 % 256, rd (chunks 4 (l.length / 4) l) 1 % 256, rd (chunks 4 (l.length / 4) l) 2, rd (chunks 4 (l.length / 4) l) 3, rd (chunks 4 (l.length / 4) l) 4, (chunks 4 (l.length / 4) l).drop 5, 0) := by unfold dec; rw [if_neg h, if_neg h3]
theorem dec_ev (l : List Int) (hb : ∀ x ∈ l, 0 ≤ x ∧ x ≤ 255) (hl : l.length ≤ 1300) : Ev (fun k => hello_Decode.f k l) (dec l) := by
  have hr := rows_ev l 4 hb (by omega)
  rw [rows4] at hr
  unfold hello_Decode.f
  refine Ev.bind hr ?_
  by_cases h1 : (l.length : Int) % 4 = 0
  · simp only [if_pos h1, if_true]
    refine Ev.done fun k => ?_
    simp only [hello_Decode.j0]
    have hc := chunks_length 4 (l.length / 4) l
    by_cases h2 : (l.length : Int) < 20
    · rw [if_pos (by simpa using h2), dec_short (.inl h2)]
    · rw [if_neg (by simpa using h2)]
      by_cases h3 : (l.length / 4 : Nat) > 305
      · rw [if_pos (by omega), dec_long (by omega) h3]
      · have hT := chunks_mem (l.length / 4) l hb _ (rd_mem _ 1 (by omega) (by omega))
        rw [if_neg (by omega), dec_ok (by omega) h3]
        rw [if_pos (by omega), if_pos (by omega), if_pos (by omega), if_pos (by omega), if_pos (by omega), if_pos (by omega), w64 (by omega), and255 _ (by omega) (by omega), and255 _ (by omega) (by omega)]
        rfl
  · rw [dec_short (.inr h1)]
    simp only [if_neg h1]
    refine Ev.done fun k => ?_
    simp [hello_Decode.j0]
theorem second (l : List Int) (hb : ∀ x ∈ l, 0 ≤ x ∧ x ≤ 255) (q : Nat) (hq : 2 ≤ q) (hl : l.length = q * 4) : rd (chunks 4 q l) 1 = ((rd l 4 * 256 + rd l 5) * 256 + rd l 6) * 256 + rd l 7 ∧
    (0 ≤ rd l 4 ∧ rd l 4 ≤ 255) ∧ (0 ≤ rd l 5 ∧ rd l 5 ≤ 255) ∧ (0 ≤ rd l 6 ∧ rd l 6 ≤ 255) ∧ (0 ≤ rd l 7 ∧ rd l 7 ≤ 255) := by
  obtain ⟨q, rfl⟩ : ∃ n, q = n + 2 := ⟨q - 2, by omega⟩
  obtain ⟨a, b, c, d, t, rfl⟩ := take4 (l := l) (by omega)
  obtain ⟨a2, b2, c2, d2, t2, rfl⟩ := take4 (l := t) (by simp at hl; omega)
  have h := be_num a2 b2 c2 d2 (hb _ (by simp)) (hb _ (by simp)) (hb _ (by simp)) (hb _ (by simp))
  refine ⟨?_, hb a2 (by simp), hb b2 (by simp), hb c2 (by simp), hb d2 (by simp)⟩
  simp only [chunks, List.take, List.drop, rd]
  exact h.1
theorem dec_mem (l : List Int) (hb : ∀ x ∈ l, 0 ≤ x ∧ x ≤ 255) : (0 ≤ (dec l).1 ∧ (dec l).1 < 4294967296) ∧ (0 ≤ (dec l).2.2.2.2.1 ∧ (dec l).2.2.2.2.1 < 4294967296) ∧ (0 ≤ (dec l).2.2.2.2.2.1 ∧ (dec l).2.2.2.2.2.1 < 4294967296) ∧ (0 ≤ (dec l).2.2.2.2.2.2.1 ∧ (dec l).2.2.2.2.2.2.1 < 4294967296) ∧ (∀ x ∈ (dec l).2.2.2.2.2.2.2.1, 0 ≤ x ∧ x < 4294967296) := by
  have hc := chunks_length 4 (l.length / 4) l
  have hm := chunks_mem (l.length / 4) l hb
  unfold dec
  split
  · simp
  · split
    · simp
    · exact ⟨hm _ (rd_mem _ 0 (by omega) (by omega)), hm _ (rd_mem _ 2 (by omega) (by omega)), hm _ (rd_mem _ 3 (by omega) (by omega)), hm _ (rd_mem _ 4 (by omega) (by omega)), fun x hx => hm x (List.mem_of_mem_drop hx)⟩
theorem dec_back (l : List Int) (hb : ∀ x ∈ l, 0 ≤ x ∧ x ≤ 255) (h : (dec l).2.2.2.2.2.2.2.2 = 0) :
    enc (dec l).1 (dec l).2.1 (dec l).2.2.1 (dec l).2.2.2.1 (dec l).2.2.2.2.1 (dec l).2.2.2.2.2.1 (dec l).2.2.2.2.2.2.1 (dec l).2.2.2.2.2.2.2.1 = (l, 0) := by
  have hc := chunks_length 4 (l.length / 4) l
  have hm := chunks_mem (l.length / 4) l hb
  unfold dec at h ⊢
  by_cases h1 : (l.length : Int) < 20 ∨ (l.length : Int) % 4 ≠ 0
  · rw [if_pos h1] at h; simp at h
  · by_cases h2 : (l.length / 4 : Nat) > 305
    · rw [if_neg h1, if_pos h2] at h; simp at h
    · simp only [if_neg h1, if_neg h2]
      have hf := flat_chunks (l.length / 4) l hb (by omega)
      have hq : 5 ≤ (chunks 4 (l.length / 4) l).length := by omega
      generalize chunks 4 (l.length / 4) l = g at *
      rcases g with _ | ⟨x0, _ | ⟨x1, _ | ⟨x2, _ | ⟨x3, _ | ⟨x4, t⟩⟩⟩⟩⟩
      · simp at hq
      · simp at hq
      · simp at hq
      · simp at hq
      · simp at hq
      · have hT := hm x1 (by simp)
        have hr0 : rd (x0 :: x1 :: x2 :: x3 :: x4 :: t) 0 = x0 := rfl
        have hr1 : rd (x0 :: x1 :: x2 :: x3 :: x4 :: t) 1 = x1 := rfl
        have hr2 : rd (x0 :: x1 :: x2 :: x3 :: x4 :: t) 2 = x2 := rfl
        have hr3 : rd (x0 :: x1 :: x2 :: x3 :: x4 :: t) 3 = x3 := rfl
        have hr4 : rd (x0 :: x1 :: x2 :: x3 :: x4 :: t) 4 = x4 := rfl
        simp only [hr0, hr1, hr2, hr3, hr4, List.drop]
        simp only [List.length_cons] at hc
        unfold enc
        have hmay : may (x1 / 65536) (x1 / 256 % 256) (x1 % 256) t.length = true := by
          simp only [may, decide_eq_true_eq]; omega
        rw [if_pos hmay]
        have : nums5 x0 (x1 / 65536) (x1 / 256 % 256) (x1 % 256) x2 x3 x4 t = x0 :: x1 :: x2 :: x3 :: x4 :: t := by
          simp only [nums5, List.cons_append, List.nil_append]
          rw [show x1 / 65536 * 65536 + x1 / 256 % 256 * 256 + x1 % 256 = x1 by omega]
        rw [this, hf]
theorem dec_len (l : List Int) (hl : l.length ≤ 1300) : (dec l).2.2.2.2.2.2.2.1.length ≤ 9223372036854775807 := by
  have hc := chunks_length 4 (l.length / 4) l
  unfold dec
  split
  · simp
  · split
    · simp
    · simp only [List.length_drop]; omega
end Go.Proofs.Ytgfjhkapbpagcaa.PAll

