/- The internet sum: what sum and its reference compute. -/
import Derived.Test.YthhklfepclgcbaaLBase
set_option maxRecDepth 100000
set_option linter.unusedVariables false
set_option linter.unusedSimpArgs false
open Go Go.Proofs.Fr
namespace Go.Proofs.Ythhklfepclgcbaa.F
theorem jn_by {α R : Type} {j : α → Option R} {m : (α → Option R) → Option R} {rhs : Option R} (I : α → Prop) (G : α → Option R) (hj : ∀ x, I x → j x = G x) (hm : ∀ j' : α → Option R, (∀ x, I x → j' x = G x) → m j' = rhs) : jn j m = rhs := by
  rw [jn_eq]; exact hm j hj
theorem wu64 (x : Int) : IntKind.u64.wrap x = x % 18446744073709551616 := by simp [IntKind.wrap, IntKind.signed, IntKind.bits]
theorem ofInt_nat64 (n : Nat) : BitVec.ofInt 64 (n : Int) = BitVec.ofNat 64 n := by
  apply BitVec.eq_of_toNat_eq
  simp [BitVec.toNat_ofInt, BitVec.toNat_ofNat]
theorem and64 {x : Int} (h : 0 ≤ x ∧ x < 18446744073709551616) : ibits .and .u64 x 65535 = x % 65536 := by
  obtain ⟨n, rfl⟩ := Int.eq_ofNat_of_zero_le h.1
  have hn : n < 18446744073709551616 := by omega
  show IntKind.u64.wrap ((BitVec.ofInt 64 (n : Int) &&& BitVec.ofInt 64 ((2 ^ 16 - 1 : Nat) : Int)).toNat : Int) = _
  rw [ofInt_nat64, ofInt_nat64, BitVec.toNat_and, BitVec.toNat_ofNat, BitVec.toNat_ofNat, Nat.mod_eq_of_lt hn, Nat.mod_eq_of_lt (by decide), Nat.and_two_pow_sub_one_eq_mod, wu64]
  omega
theorem or64 {a c : Int} (ha : 0 ≤ a ∧ a ≤ 255) (hc : 0 ≤ c ∧ c ≤ 255) : ibits .or .u64 (256 * a) c = 256 * a + c := by
  obtain ⟨n, rfl⟩ := Int.eq_ofNat_of_zero_le ha.1
  obtain ⟨m, rfl⟩ := Int.eq_ofNat_of_zero_le hc.1
  have hm : m < 2 ^ 8 := by omega
  have e : 256 * (n : Int) = ((2 ^ 8 * n : Nat) : Int) := by omega
  rw [e]
  show IntKind.u64.wrap ((BitVec.ofInt 64 ((2 ^ 8 * n : Nat) : Int) ||| BitVec.ofInt 64 (m : Int)).toNat : Int) = _
  rw [ofInt_nat64, ofInt_nat64, BitVec.toNat_or, BitVec.toNat_ofNat, BitVec.toNat_ofNat, Nat.mod_eq_of_lt (by omega), Nat.mod_eq_of_lt (by omega), ← Nat.two_pow_add_eq_or_of_lt hm, wu64]
  omega
/-- The words of a row, added up; what the row's first byte is is told by the flag. -/
def Wp : Bool → List Int → Int
  | _, [] => 0
  | true, a :: r => 256 * a + Wp false r
  | false, a :: r => a + Wp true r
theorem Wp_range : ∀ (l : List Int) (b : Bool), By l → 0 ≤ Wp b l ∧ Wp b l ≤ 65280 * (l.length : Int)
  | [], b, _ => by cases b <;> simp [Wp]
  | a :: r, b, h => by
    have ha := h a (.head _)
    have h1 := Wp_range r false (fun x hx => h x (.tail _ hx))
    have h2 := Wp_range r true (fun x hx => h x (.tail _ hx))
    simp only [List.length_cons]
    cases b <;> simp only [Wp] <;> omega
def foldw (x : Int) : Int := if h : x > 65535 then foldw (x / 65536 + x % 65536) else x
termination_by x.toNat
decreasing_by omega
theorem foldw_big {x : Int} (h : x > 65535) : foldw x = foldw (x / 65536 + x % 65536) := by
  conv => lhs; rw [foldw, dif_pos h]
theorem foldw_small {x : Int} (h : ¬ x > 65535) : foldw x = x := by
  rw [foldw, dif_neg h]
theorem foldw_range : ∀ (n : Nat) (x : Int), x.toNat ≤ n → 0 ≤ x → 0 ≤ foldw x ∧ foldw x ≤ 65535
  | 0, x, hn, h => by rw [foldw_small (by omega)]; omega
  | n + 1, x, hn, h => by
    by_cases hx : x > 65535
    · rw [foldw_big hx]; exact foldw_range n _ (by omega) (by omega)
    · rw [foldw_small hx]; omega
def isum (l : List Int) : Int := 65535 - foldw (Wp true l)
theorem isum_range {l : List Int} (h : By l) : 0 ≤ isum l ∧ isum l ≤ 65535 := by
  have := foldw_range _ _ (Nat.le_refl _) (Wp_range l true h).1
  unfold isum; omega

theorem Internet_eq (l : List Int) (hb : By l) (hl : l.length ≤ 1000000) : sum_Internet.p (l, ()) = some (isum l, ()) := by
  unfold sum_Internet.p
  refine jn_by (I := fun x : List Int × Int × Unit => x.1.length ≤ 1 ∧ By x.1 ∧ 0 ≤ x.2.1 ∧ x.2.1 ≤ 66000000000) (G := fun x => some (65535 - foldw (x.2.1 + Wp true x.1), ())) ?_ ?_
  · rintro ⟨l, s, _⟩ ⟨h1, h2, h3, h4⟩
    refine jn_by (I := fun x : Int × Unit => 0 ≤ x.1 ∧ x.1 ≤ 67000000000) (G := fun x => some (65535 - foldw x.1, ())) ?_ ?_
    · rintro ⟨y, _⟩ ⟨y0, y1⟩
      refine jn_by (I := fun x : Int × Unit => 0 ≤ x.1 ∧ x.1 ≤ 65535) (G := fun x => some (65535 - x.1, ())) ?_ ?_
      · rintro ⟨z, _⟩ ⟨z0, z1⟩
        simp only at z0 z1 ⊢
        rw [w64 (x := z) (by omega), w64 (by omega)]
      · intro j hj
        refine iterK_fix (F := fun x : Int × Unit => some (65535 - foldw x.1, ())) (m := fun x => x.1.toNat) (I := fun x => 0 ≤ x.1 ∧ x.1 ≤ 67000000000) ?_ _ _ ⟨y0, y1⟩ (by simp only at y0 y1 ⊢; omega)
        rintro ⟨z, _⟩ r ⟨z0, z1⟩ hr
        simp only at z0 z1 hr ⊢
        by_cases hz : z > 65535
        · rw [if_pos (by simpa using hz), and64 (by omega), fdiv_pos (by decide), wu64, show (z / 2 ^ 16 + z % 65536) % 18446744073709551616 = z / 65536 + z % 65536 by omega, hr (z / 65536 + z % 65536, ()) ⟨by simp only; omega, by simp only; omega⟩ (by simp only; omega), ← foldw_big hz]
        · rw [if_neg (by simpa using hz), hj _ ⟨z0, by simp only; omega⟩, foldw_small hz]
    · intro j hj
      match l, h1, h2 with
      | [], _, _ =>
        simp only [List.length_nil] at *
        rw [if_neg (by simp), hj _ ⟨h3, by simp only at h4 ⊢; omega⟩]
        simp only [Wp, Int.add_zero]
      | [a], _, h2 =>
        have ha := h2 a (.head _)
        simp only [List.length_cons, List.length_nil] at *
        rw [if_pos (by simp), if_pos (by simp), show rd [a] (Int.toNat 0) = a from rfl]
        simp only [wu64]
        rw [show (s + (a % 18446744073709551616 * 2 ^ 8) % 18446744073709551616) % 18446744073709551616 = s + 256 * a by omega, hj _ ⟨by simp only; omega, by simp only; omega⟩]
        simp only [Wp, Int.add_zero]
      | a :: b :: r, h1, _ => simp at h1
  · intro j hj
    refine (iterK_fix (F := fun x : List Int × Int × Unit => some (65535 - foldw (x.2.1 + Wp true x.1), ())) (m := fun x => x.1.length) (I := fun x => By x.1 ∧ 0 ≤ x.2.1 ∧ x.2.1 + 65535 * (x.1.length : Int) ≤ 66000000000) ?_ _ _ ⟨hb, by simp, by simp only; omega⟩ (by simp only; omega)).trans (by simp only [isum, Int.zero_add])
    rintro ⟨l, s, _⟩ r ⟨h1, h2, h3⟩ hr
    simp only at h1 h2 h3 hr ⊢
    match l, h1, h3, hr with
    | [], h1, h3, hr => rw [if_neg (by simp), hj _ ⟨by simp, h1, h2, by simp only [List.length_nil] at h3 ⊢; omega⟩]
    | [a], h1, h3, hr => rw [if_neg (by simp), hj _ ⟨by simp, h1, h2, by simp only [List.length_nil, List.length_cons] at h3 ⊢; omega⟩]
    | a :: b :: t, h1, h3, hr =>
      have ha := h1 a (.head _)
      have hc := h1 b (.tail _ (.head _))
      have ht : By t := fun x hx => h1 x (.tail _ (.tail _ hx))
      have hlen : ((a :: b :: t).length : Int) = t.length + 2 := by simp only [List.length_cons]; omega
      rw [if_pos (by rw [hlen]; simp only [decide_eq_true_eq]; omega)]
      rw [if_pos (show (0 : Int) ≤ 0 ∧ (0 : Int) < ((a :: b :: t).length : Int) by rw [hlen]; omega)]
      rw [if_pos (show (0 : Int) ≤ 1 ∧ (1 : Int) < ((a :: b :: t).length : Int) by rw [hlen]; omega)]
      rw [if_pos (show (0 : Int) ≤ 2 ∧ (2 : Int) ≤ ((a :: b :: t).length : Int) ∧ ((a :: b :: t).length : Int) ≤ ((a :: b :: t).length : Int) by rw [hlen]; omega)]
      rw [show rd (a :: b :: t) (Int.toNat 0) = a from rfl, show rd (a :: b :: t) (Int.toNat 1) = b from rfl, show List.drop (Int.toNat 2) (List.take (Int.toNat ((a :: b :: t).length : Int)) (a :: b :: t)) = t by rw [Int.toNat_natCast, List.take_length]; rfl]
      simp only [wu64]
      rw [show (a % 18446744073709551616 * 2 ^ 8) % 18446744073709551616 = 256 * a by omega, show b % 18446744073709551616 = b by omega, or64 ha hc, show (s + (256 * a + b)) % 18446744073709551616 = s + (256 * a + b) by omega]
      rw [hlen] at h3
      rw [hr (t, s + (256 * a + b), ()) ⟨ht, by simp only; omega, by simp only; omega⟩ (by simp only [List.length_cons]; omega)]
      simp only [Wp, Int.add_assoc]

end Go.Proofs.Ythhklfepclgcbaa.F
