/- Numbers of four bytes, as bytes and back. -/
import Derived.Test.YthbcmgpmjljdeaaGreatLOct
set_option maxRecDepth 100000
set_option linter.unusedVariables false
set_option linter.unusedSimpArgs false
open Go Go.Proofs.Fr
namespace Go.Proofs.YthbcmgpmjljdeaaGreat.F
def U32 (x : Int) : Prop := 0 ≤ x ∧ x < 4294967296
def b4 (ws : List Int) : List Int := ws.flatMap fun n => be n 4
theorem b4_nil : b4 [] = [] := rfl
theorem b4_cons (a : Int) (l : List Int) : b4 (a :: l) = be a 4 ++ b4 l := by simp [b4]
theorem b4_app (a l : List Int) : b4 (a ++ l) = b4 a ++ b4 l := by simp [b4]
theorem b4_length (l : List Int) : (b4 l).length = 4 * l.length := by
  induction l with
  | nil => rfl
  | cons a l ih => rw [b4_cons, List.length_append, ih, be_length, List.length_cons]; omega
theorem b4_by (l : List Int) : By (b4 l) := by
  intro x hx
  simp only [b4, List.mem_flatMap] at hx
  obtain ⟨n, _, hn⟩ := hx
  exact be_by n 4 x hn
theorem rowB4 (ws : List Int) : rowB ws 4 = (b4 ws, 0, ()) := by
  unfold rowB
  rw [if_neg (by omega), if_pos]
  · rfl
  · rw [List.all_eq_true]
    intro x _
    simp [fits]
theorem num4 (a b c d : Int) (ha : 0 ≤ a ∧ a ≤ 255) (hb : 0 ≤ b ∧ b ≤ 255) (hc : 0 ≤ c ∧ c ≤ 255) (hd : 0 ≤ d ∧ d ≤ 255) : num [a, b, c, d] = ((a * 256 + b) * 256 + c) * 256 + d := by
  simp only [num, nacc, List.foldl]
  omega
theorem num_be (n : Int) (h : U32 n) : num (be n 4) = n := by
  unfold U32 at h
  simp only [be]
  rw [num4 _ _ _ _ (by omega) (by omega) (by omega) (by omega)]
  simp only [show (256 : Int) ^ 3 = 16777216 by decide, show (256 : Int) ^ 2 = 65536 by decide, show (256 : Int) ^ 1 = 256 by decide, show (256 : Int) ^ 0 = 1 by decide]
  omega
theorem chunks_b4 (ws : List Int) (h : ∀ x ∈ ws, U32 x) : chunks 4 ws.length (b4 ws) = ws := by
  induction ws with
  | nil => rfl
  | cons a l ih =>
    show num ((b4 (a :: l)).take 4) :: chunks 4 l.length ((b4 (a :: l)).drop 4) = _
    rw [b4_cons, List.take_left' (be_length a 4), List.drop_left' (be_length a 4), num_be a (h a (.head _)), ih fun x hx => h x (.tail _ hx)]
theorem be_num (a b c d : Int) (ha : 0 ≤ a ∧ a ≤ 255) (hb : 0 ≤ b ∧ b ≤ 255) (hc : 0 ≤ c ∧ c ≤ 255) (hd : 0 ≤ d ∧ d ≤ 255) : be (num [a, b, c, d]) 4 = [a, b, c, d] := by
  rw [num4 a b c d ha hb hc hd]
  simp only [be, show (256 : Int) ^ 3 = 16777216 by decide, show (256 : Int) ^ 2 = 65536 by decide, show (256 : Int) ^ 1 = 256 by decide, show (256 : Int) ^ 0 = 1 by decide]
  congr 1
  · omega
  · congr 1
    · omega
    · congr 1
      · omega
      · congr 1
        omega
theorem b4_chunks : ∀ (q : Nat) (l : List Int), By l → l.length = 4 * q → b4 (chunks 4 q l) = l := by
  intro q
  induction q with
  | zero => intro l _ hl; have hn : l = [] := List.eq_nil_of_length_eq_zero (by omega); subst hn; rfl
  | succ q ih =>
    intro l hb hl
    rcases l with _ | ⟨a, _ | ⟨b, _ | ⟨c, _ | ⟨d, t⟩⟩⟩⟩
    · simp at hl
    · simp at hl; omega
    · simp at hl; omega
    · simp at hl; omega
    · show b4 (num [a, b, c, d] :: chunks 4 q t) = _
      rw [b4_cons, ih t (fun x hx => hb x (by simp [hx])) (by simp at hl; omega), be_num a b c d (hb a (by simp)) (hb b (by simp)) (hb c (by simp)) (hb d (by simp))]
      rfl
theorem chunk_at (q : Nat) : ∀ (i : Nat) (l : List Int), i < q → rd (chunks 4 q l) i = num ((l.drop (4 * i)).take 4) := by
  induction q with
  | zero => intro i l h; omega
  | succ q ih =>
    intro i l h
    cases i with
    | zero => rfl
    | succ i =>
      show rd (chunks 4 q (l.drop 4)) i = _
      rw [ih i _ (by omega), List.drop_drop]
      congr 3
      omega
theorem ofInt_nat64 (n : Nat) : BitVec.ofInt 64 (n : Int) = BitVec.ofNat 64 n := by
  apply BitVec.eq_of_toNat_eq
  simp [BitVec.toNat_ofInt, BitVec.toNat_ofNat]
theorem and_mask64 (k : Nat) (hk : k ≤ 62) {x : Int} (h : 0 ≤ x ∧ x < 9223372036854775808) : ibits .and .i64 x ((2 ^ k - 1 : Nat) : Int) = x % (2 ^ k : Nat) := by
  obtain ⟨n, rfl⟩ := Int.eq_ofNat_of_zero_le h.1
  have hn : n < 18446744073709551616 := by omega
  have hp : 2 ^ k ≤ 2 ^ 62 := Nat.pow_le_pow_right (by omega) hk
  have hp0 : 0 < 2 ^ k := Nat.two_pow_pos k
  have hk2 : 2 ^ k - 1 < 18446744073709551616 := by omega
  show IntKind.i64.wrap ((BitVec.ofInt 64 (n : Int) &&& BitVec.ofInt 64 ((2 ^ k - 1 : Nat) : Int)).toNat : Int) = _
  rw [ofInt_nat64, ofInt_nat64, BitVec.toNat_and, BitVec.toNat_ofNat, BitVec.toNat_ofNat, Nat.mod_eq_of_lt hn, Nat.mod_eq_of_lt hk2, Nat.and_two_pow_sub_one_eq_mod]
  have := Nat.mod_lt n hp0
  rw [w64 (by omega)]
  omega
end Go.Proofs.YthbcmgpmjljdeaaGreat.F
