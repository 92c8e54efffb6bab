/- Masks: a run of ones ahead. -/
import Derived.Test.YthbcmgpmjljdeaaGreatLOct
set_option maxRecDepth 100000
set_option linter.unusedVariables false
set_option linter.unusedSimpArgs false
open Go Go.Proofs.Fr
namespace Go.Proofs.YthbcmgpmjljdeaaGreat.F
/-- The mask of n ones. -/
def mask (n : Nat) : Int := 4294967296 - 2 ^ (32 - n)
def isM (a : Int) : Bool := (List.range' 0 33).any fun n => decide (mask n = a)
theorem isM_at {a : Int} (h : isM a = true) : ∃ n : Fin 33, mask n.val = a := by
  obtain ⟨n, hn, hna⟩ := List.any_eq_true.1 h
  have := List.mem_range'_1.1 hn
  exact ⟨⟨n, by omega⟩, by simpa using hna⟩
theorem isM_of (n : Nat) (hn : n ≤ 32) : isM (mask n) = true := List.any_eq_true.2 ⟨n, List.mem_range'_1.2 (by omega), by simp⟩
theorem tab_size : ((⟨#[0, 1, 2, 2, 3, 3, 3, 3, 4, 4, 4, 4, 4, 4, 4, 4, 5, 5, 5, 5, 5, 5, 5, 5, 5, 5, 5, 5, 5, 5, 5, 5, 6, 6, 6, 6, 6, 6, 6, 6, 6, 6, 6, 6, 6, 6, 6, 6, 6, 6, 6, 6, 6, 6, 6, 6, 6, 6, 6, 6, 6, 6, 6, 6, 7, 7, 7, 7, 7, 7, 7, 7, 7, 7, 7, 7, 7, 7, 7, 7, 7, 7, 7, 7, 7, 7, 7, 7, 7, 7, 7, 7, 7, 7, 7, 7, 7, 7, 7, 7, 7, 7, 7, 7, 7, 7, 7, 7, 7, 7, 7, 7, 7, 7, 7, 7, 7, 7, 7, 7, 7, 7, 7, 7, 7, 7, 7, 7, 8, 8, 8, 8, 8, 8, 8, 8, 8, 8, 8, 8, 8, 8, 8, 8, 8, 8, 8, 8, 8, 8, 8, 8, 8, 8, 8, 8, 8, 8, 8, 8, 8, 8, 8, 8, 8, 8, 8, 8, 8, 8, 8, 8, 8, 8, 8, 8, 8, 8, 8, 8, 8, 8, 8, 8, 8, 8, 8, 8, 8, 8, 8, 8, 8, 8, 8, 8, 8, 8, 8, 8, 8, 8, 8, 8, 8, 8, 8, 8, 8, 8, 8, 8, 8, 8, 8, 8, 8, 8, 8, 8, 8, 8, 8, 8, 8, 8, 8, 8, 8, 8, 8, 8, 8, 8, 8, 8, 8, 8, 8, 8, 8, 8, 8, 8, 8, 8, 8, 8, 8, 8, 8, 8, 8, 8, 8, 8]⟩ : ByteArray).size : Int) = 256 := by decide +kernel
theorem tab_le : ∀ i : Fin 256, 0 ≤ btS (⟨#[0, 1, 2, 2, 3, 3, 3, 3, 4, 4, 4, 4, 4, 4, 4, 4, 5, 5, 5, 5, 5, 5, 5, 5, 5, 5, 5, 5, 5, 5, 5, 5, 6, 6, 6, 6, 6, 6, 6, 6, 6, 6, 6, 6, 6, 6, 6, 6, 6, 6, 6, 6, 6, 6, 6, 6, 6, 6, 6, 6, 6, 6, 6, 6, 7, 7, 7, 7, 7, 7, 7, 7, 7, 7, 7, 7, 7, 7, 7, 7, 7, 7, 7, 7, 7, 7, 7, 7, 7, 7, 7, 7, 7, 7, 7, 7, 7, 7, 7, 7, 7, 7, 7, 7, 7, 7, 7, 7, 7, 7, 7, 7, 7, 7, 7, 7, 7, 7, 7, 7, 7, 7, 7, 7, 7, 7, 7, 7, 8, 8, 8, 8, 8, 8, 8, 8, 8, 8, 8, 8, 8, 8, 8, 8, 8, 8, 8, 8, 8, 8, 8, 8, 8, 8, 8, 8, 8, 8, 8, 8, 8, 8, 8, 8, 8, 8, 8, 8, 8, 8, 8, 8, 8, 8, 8, 8, 8, 8, 8, 8, 8, 8, 8, 8, 8, 8, 8, 8, 8, 8, 8, 8, 8, 8, 8, 8, 8, 8, 8, 8, 8, 8, 8, 8, 8, 8, 8, 8, 8, 8, 8, 8, 8, 8, 8, 8, 8, 8, 8, 8, 8, 8, 8, 8, 8, 8, 8, 8, 8, 8, 8, 8, 8, 8, 8, 8, 8, 8, 8, 8, 8, 8, 8, 8, 8, 8, 8, 8, 8, 8, 8, 8, 8, 8, 8, 8]⟩ : ByteArray) i.val ∧ btS (⟨#[0, 1, 2, 2, 3, 3, 3, 3, 4, 4, 4, 4, 4, 4, 4, 4, 5, 5, 5, 5, 5, 5, 5, 5, 5, 5, 5, 5, 5, 5, 5, 5, 6, 6, 6, 6, 6, 6, 6, 6, 6, 6, 6, 6, 6, 6, 6, 6, 6, 6, 6, 6, 6, 6, 6, 6, 6, 6, 6, 6, 6, 6, 6, 6, 7, 7, 7, 7, 7, 7, 7, 7, 7, 7, 7, 7, 7, 7, 7, 7, 7, 7, 7, 7, 7, 7, 7, 7, 7, 7, 7, 7, 7, 7, 7, 7, 7, 7, 7, 7, 7, 7, 7, 7, 7, 7, 7, 7, 7, 7, 7, 7, 7, 7, 7, 7, 7, 7, 7, 7, 7, 7, 7, 7, 7, 7, 7, 7, 8, 8, 8, 8, 8, 8, 8, 8, 8, 8, 8, 8, 8, 8, 8, 8, 8, 8, 8, 8, 8, 8, 8, 8, 8, 8, 8, 8, 8, 8, 8, 8, 8, 8, 8, 8, 8, 8, 8, 8, 8, 8, 8, 8, 8, 8, 8, 8, 8, 8, 8, 8, 8, 8, 8, 8, 8, 8, 8, 8, 8, 8, 8, 8, 8, 8, 8, 8, 8, 8, 8, 8, 8, 8, 8, 8, 8, 8, 8, 8, 8, 8, 8, 8, 8, 8, 8, 8, 8, 8, 8, 8, 8, 8, 8, 8, 8, 8, 8, 8, 8, 8, 8, 8, 8, 8, 8, 8, 8, 8, 8, 8, 8, 8, 8, 8, 8, 8, 8, 8, 8, 8, 8, 8, 8, 8, 8, 8]⟩ : ByteArray) i.val ≤ 8 := by decide +kernel
theorem len32 (x : Int) (h : 0 ≤ x ∧ x < 4294967296) : ∃ n : Int, math_bits_Len32.p (x, ()) = some (n, ()) ∧ 0 ≤ n ∧ n ≤ 32 := by
  have key : ∀ (z c : Int), 0 ≤ z ∧ z < 256 → 0 ≤ c ∧ c ≤ 24 → ∃ n : Int, (if (0 : Int) ≤ IntKind.u8.wrap z ∧ IntKind.u8.wrap z < ((⟨#[0, 1, 2, 2, 3, 3, 3, 3, 4, 4, 4, 4, 4, 4, 4, 4, 5, 5, 5, 5, 5, 5, 5, 5, 5, 5, 5, 5, 5, 5, 5, 5, 6, 6, 6, 6, 6, 6, 6, 6, 6, 6, 6, 6, 6, 6, 6, 6, 6, 6, 6, 6, 6, 6, 6, 6, 6, 6, 6, 6, 6, 6, 6, 6, 7, 7, 7, 7, 7, 7, 7, 7, 7, 7, 7, 7, 7, 7, 7, 7, 7, 7, 7, 7, 7, 7, 7, 7, 7, 7, 7, 7, 7, 7, 7, 7, 7, 7, 7, 7, 7, 7, 7, 7, 7, 7, 7, 7, 7, 7, 7, 7, 7, 7, 7, 7, 7, 7, 7, 7, 7, 7, 7, 7, 7, 7, 7, 7, 8, 8, 8, 8, 8, 8, 8, 8, 8, 8, 8, 8, 8, 8, 8, 8, 8, 8, 8, 8, 8, 8, 8, 8, 8, 8, 8, 8, 8, 8, 8, 8, 8, 8, 8, 8, 8, 8, 8, 8, 8, 8, 8, 8, 8, 8, 8, 8, 8, 8, 8, 8, 8, 8, 8, 8, 8, 8, 8, 8, 8, 8, 8, 8, 8, 8, 8, 8, 8, 8, 8, 8, 8, 8, 8, 8, 8, 8, 8, 8, 8, 8, 8, 8, 8, 8, 8, 8, 8, 8, 8, 8, 8, 8, 8, 8, 8, 8, 8, 8, 8, 8, 8, 8, 8, 8, 8, 8, 8, 8, 8, 8, 8, 8, 8, 8, 8, 8, 8, 8, 8, 8, 8, 8, 8, 8, 8, 8]⟩ : ByteArray).size : Int) then (some (IntKind.i64.wrap (c + (IntKind.i64.wrap (btS (⟨#[0, 1, 2, 2, 3, 3, 3, 3, 4, 4, 4, 4, 4, 4, 4, 4, 5, 5, 5, 5, 5, 5, 5, 5, 5, 5, 5, 5, 5, 5, 5, 5, 6, 6, 6, 6, 6, 6, 6, 6, 6, 6, 6, 6, 6, 6, 6, 6, 6, 6, 6, 6, 6, 6, 6, 6, 6, 6, 6, 6, 6, 6, 6, 6, 7, 7, 7, 7, 7, 7, 7, 7, 7, 7, 7, 7, 7, 7, 7, 7, 7, 7, 7, 7, 7, 7, 7, 7, 7, 7, 7, 7, 7, 7, 7, 7, 7, 7, 7, 7, 7, 7, 7, 7, 7, 7, 7, 7, 7, 7, 7, 7, 7, 7, 7, 7, 7, 7, 7, 7, 7, 7, 7, 7, 7, 7, 7, 7, 8, 8, 8, 8, 8, 8, 8, 8, 8, 8, 8, 8, 8, 8, 8, 8, 8, 8, 8, 8, 8, 8, 8, 8, 8, 8, 8, 8, 8, 8, 8, 8, 8, 8, 8, 8, 8, 8, 8, 8, 8, 8, 8, 8, 8, 8, 8, 8, 8, 8, 8, 8, 8, 8, 8, 8, 8, 8, 8, 8, 8, 8, 8, 8, 8, 8, 8, 8, 8, 8, 8, 8, 8, 8, 8, 8, 8, 8, 8, 8, 8, 8, 8, 8, 8, 8, 8, 8, 8, 8, 8, 8, 8, 8, 8, 8, 8, 8, 8, 8, 8, 8, 8, 8, 8, 8, 8, 8, 8, 8, 8, 8, 8, 8, 8, 8, 8, 8, 8, 8, 8, 8, 8, 8, 8, 8, 8, 8]⟩ : ByteArray) (Int.toNat (IntKind.u8.wrap z))))), ()) : Option (Int × Unit)) else none) = some (n, ()) ∧ 0 ≤ n ∧ n ≤ 32 := by
    intro z c hz hc
    have e : IntKind.u8.wrap z = z := by rw [wu8]; omega
    rw [e, tab_size, if_pos ⟨hz.1, hz.2⟩]
    obtain ⟨k, rfl⟩ := Int.eq_ofNat_of_zero_le hz.1
    have ht := tab_le ⟨k, by omega⟩
    simp only [Int.toNat_natCast] at ht ⊢
    generalize btS (⟨#[0, 1, 2, 2, 3, 3, 3, 3, 4, 4, 4, 4, 4, 4, 4, 4, 5, 5, 5, 5, 5, 5, 5, 5, 5, 5, 5, 5, 5, 5, 5, 5, 6, 6, 6, 6, 6, 6, 6, 6, 6, 6, 6, 6, 6, 6, 6, 6, 6, 6, 6, 6, 6, 6, 6, 6, 6, 6, 6, 6, 6, 6, 6, 6, 7, 7, 7, 7, 7, 7, 7, 7, 7, 7, 7, 7, 7, 7, 7, 7, 7, 7, 7, 7, 7, 7, 7, 7, 7, 7, 7, 7, 7, 7, 7, 7, 7, 7, 7, 7, 7, 7, 7, 7, 7, 7, 7, 7, 7, 7, 7, 7, 7, 7, 7, 7, 7, 7, 7, 7, 7, 7, 7, 7, 7, 7, 7, 7, 8, 8, 8, 8, 8, 8, 8, 8, 8, 8, 8, 8, 8, 8, 8, 8, 8, 8, 8, 8, 8, 8, 8, 8, 8, 8, 8, 8, 8, 8, 8, 8, 8, 8, 8, 8, 8, 8, 8, 8, 8, 8, 8, 8, 8, 8, 8, 8, 8, 8, 8, 8, 8, 8, 8, 8, 8, 8, 8, 8, 8, 8, 8, 8, 8, 8, 8, 8, 8, 8, 8, 8, 8, 8, 8, 8, 8, 8, 8, 8, 8, 8, 8, 8, 8, 8, 8, 8, 8, 8, 8, 8, 8, 8, 8, 8, 8, 8, 8, 8, 8, 8, 8, 8, 8, 8, 8, 8, 8, 8, 8, 8, 8, 8, 8, 8, 8, 8, 8, 8, 8, 8, 8, 8, 8, 8, 8, 8]⟩ : ByteArray) k = t at *
    rw [w64 (x := t) (by omega), w64 (x := c + t) (by omega)]
    exact ⟨_, rfl, by omega, by omega⟩
  unfold math_bits_Len32.p
  simp only [jn_eq]
  by_cases h1 : x ≥ 65536
  · rw [if_pos (by simpa using h1), fdiv_pos (by decide)]
    by_cases h2 : x / 2 ^ 16 ≥ 256
    · rw [if_pos (by simpa using h2), fdiv_pos (by decide), w64 (x := 16 + 8) (by omega)]
      exact key _ _ (by omega) (by omega)
    · rw [if_neg (by simpa using h2)]
      exact key _ _ (by omega) (by omega)
  · rw [if_neg (by simpa using h1)]
    by_cases h2 : x ≥ 256
    · rw [if_pos (by simpa using h2), fdiv_pos (by decide), w64 (x := 0 + 8) (by omega)]
      exact key _ _ (by omega) (by omega)
    · rw [if_neg (by simpa using h2)]
      exact key _ _ (by omega) (by omega)
theorem mask_at : ∀ c : Fin 33, addr_Mask.p ((c.val : Int), ()) = some (mask c.val, ()) := by decide +kernel
theorem isMask_at : ∀ c : Fin 33, body_isMask.p (mask c.val, ()) = some (true, ()) := by decide +kernel
theorem isMask_eq (a : Int) : body_isMask.p (a, ()) = some (isM a, ()) := by
  by_cases hm : isM a = true
  · obtain ⟨c, rfl⟩ := isM_at hm
    rw [isMask_at c, hm]
  · have hmf : isM a = false := by simpa using hm
    rw [hmf]
    unfold body_isMask.p addr_Long.p math_bits_LeadingZeros32.p
    have hx : 0 ≤ ibits .xor .u32 (4294967295) a ∧ ibits .xor .u32 (4294967295) a < 4294967296 := by
      show 0 ≤ IntKind.u32.wrap _ ∧ IntKind.u32.wrap _ < 4294967296
      rw [wu32]; omega
    obtain ⟨n, hn, h0, h1⟩ := len32 _ hx
    simp only [hn, Option.bind_some]
    rw [w64 (by omega)]
    obtain ⟨k, hk⟩ := Int.eq_ofNat_of_zero_le (show 0 ≤ 32 - n by omega)
    rw [hk, mask_at ⟨k, by omega⟩]
    simp only [Option.bind_some]
    have hne : ¬ mask k = a := fun e => by rw [← e, isM_of k (by omega)] at hmf; cases hmf
    rw [if_pos (by simpa using hne)]
    rfl
theorem rmask_at : ∀ c : Fin 33, ref03_Mask.p ((c.val : Int), ()) = some (mask c.val, ()) := by decide +kernel
def fnd (a : Int) (i j : Nat) : Int × Int × Unit := match (List.range' i j).find? fun n => decide (mask n = a) with
  | some n => ((n : Int), 0, ())
  | none => (0, 3, ())
theorem rlong_eq (a : Int) : ref03_Long.p (a, ()) = some (fnd a 0 33) := by
  unfold ref03_Long.p
  simp only [jn_eq]
  refine (iterK_fix (F := fun x : Int × Unit => some (fnd a x.1.toNat (33 - x.1.toNat))) (m := fun x => 33 - x.1.toNat) (I := fun x => 0 ≤ x.1 ∧ x.1 ≤ 33) ?_ _ _ ⟨by simp, by simp⟩ (by simp)).trans rfl
  rintro ⟨i, _⟩ r ⟨i0, i1⟩ hr
  obtain ⟨j, rfl⟩ := Int.eq_ofNat_of_zero_le i0
  simp only [Int.toNat_natCast] at *
  by_cases hj : j ≤ 32
  · rw [if_pos (by simp; omega), rmask_at ⟨j, by omega⟩]
    simp only [Option.bind_some]
    have e : 33 - j = (33 - (j + 1)) + 1 := by omega
    unfold fnd
    rw [e, List.range'_succ, List.find?_cons]
    by_cases hm : mask j = a
    · rw [if_pos (by simpa using hm), decide_eq_true hm]
    · rw [if_neg (by simpa using hm), decide_eq_false hm, w64 (by omega), hr _ ⟨by first | omega | (dsimp only; omega) | (simp only [List.length_cons, List.length_nil, List.length_append, List.length_drop, List.length_take, maxBytes]; omega) | (simp; omega), by first | omega | (dsimp only; omega) | (simp only [List.length_cons, List.length_nil, List.length_append, List.length_drop, List.length_take, maxBytes]; omega) | (simp; omega)⟩ (by first | omega | (dsimp only; omega) | (simp only [List.length_cons, List.length_nil, List.length_append, List.length_drop, List.length_take, maxBytes]; omega) | (simp; omega))]
      simp only [show ((j : Int) + 1).toNat = j + 1 by omega, fnd]
  · rw [if_neg (by simp; omega)]
    have e : 33 - j = 0 := by omega
    rw [e]
    rfl
theorem risMask_eq (a : Int) : ref12_isMask.p (a, ()) = some (isM a, ()) := by
  unfold ref12_isMask.p
  rw [rlong_eq]
  simp only [Option.bind_some]
  congr 2
  unfold fnd isM
  cases h : (List.range' 0 33).find? fun n => decide (mask n = a) with
  | none =>
    have : ((List.range' 0 33).any fun n => decide (mask n = a)) = false := by
      rw [List.any_eq_false]
      intro x hx
      have := List.find?_eq_none.1 h x hx
      exact this
    rw [this]; rfl
  | some n =>
    have : ((List.range' 0 33).any fun n => decide (mask n = a)) = true := List.any_eq_true.2 ⟨n, List.mem_of_find?_eq_some h, by simpa using List.find?_some h⟩
    rw [this]; rfl
end Go.Proofs.YthbcmgpmjljdeaaGreat.F
