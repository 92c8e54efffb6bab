/- The document's placing of Fletcher's pair: of all pairs the one that fits. -/
import Derived.Test.YtocloebloblodaaLSum
set_option maxRecDepth 100000
set_option linter.unusedVariables false
set_option linter.unusedSimpArgs false
open Go Go.Proofs.Fr
namespace Go.Proofs.Ytocloebloblodaa.F
def ynorm (y : Int) : Int := if y > 255 then y - 255 else y
theorem rPlace_eq {l : List Int} (hb : By l) (hl : l.length < 1000000000) (a : Int) (ha : -9223372036854775808 ≤ a ∧ a ≤ 9223372036854775807) : ref02_Place.p (l, a, ()) = some (place l a) := by
  unfold ref02_Place.p
  simp only [jn_eq, List.nil_append]
  rw [w64 (x := (l.length : Int) - 2) (by omega)]
  by_cases h1 : a < 0
  · rw [if_pos (by simpa using h1), place_no (.inl h1)]
    simp
  · rw [if_neg (by simpa using h1)]
    by_cases h2 : a > (l.length : Int) - 2
    · rw [if_pos (by simpa using h2), place_no (.inr (.inl h2))]
      simp
    · rw [if_neg (by simpa using h2)]
      by_cases h3 : l.length > 4000
      · rw [if_pos (by simp; omega), place_no (.inr (.inr h3))]
      · rw [if_neg (by simp; omega)]
        obtain ⟨i, rfl⟩ := Int.eq_ofNat_of_zero_le (show 0 ≤ a by omega)
        have hi : i + 1 < l.length := by omega
        have hw1 : IntKind.i64.wrap ((i : Int) + 1) = ((i + 1 : Nat) : Int) := by rw [w64 (by omega)]; omega
        have hy : (l.set i 0).set (i + 1) 0 = set2 l i 0 0 := rfl
        have hz := set2_length l i 0 0
        have hbz : By (set2 l i 0 0) := byts_set2 hb i (by omega) (by omega)
        rw [if_pos (by simp only [List.length_nil, maxBytes]; omega), if_pos (by omega)]
        simp only [Int.toNat_natCast, hw1, hy]
        rw [if_pos (by rw [List.length_set]; omega), rPair_eq hbz (by omega)]
        simp only [bind_eq, hz]
        obtain ⟨c, hc⟩ : ∃ c, c = S1 (set2 l i 0 0) % 255 := ⟨_, rfl⟩
        obtain ⟨d, hd⟩ : ∃ d, d = S2 (set2 l i 0 0) % 255 := ⟨_, rfl⟩
        have hpl : place l i = (set2 l i (res (((l.length : Int) - i - 1) * c - d)) (res (d - (((l.length : Int) - i - 1) + 1) * c)), 0, ()) := by
          unfold place
          rw [if_neg (by omega), Int.toNat_natCast, ← hc, ← hd]
        rw [← hc, ← hd, hpl]
        have hcr : 0 ≤ c ∧ c < 255 := by omega
        have hdr : 0 ≤ d ∧ d < 255 := by omega
        obtain ⟨A, hA⟩ : ∃ A : Int, A = (l.length : Int) - (i : Int) - 1 := ⟨_, rfl⟩
        have hAr : 0 ≤ A ∧ A ≤ 4000 := by omega
        rw [w64 (x := (l.length : Int) - (i : Int)) (by omega), w64 (x := (l.length : Int) - (i : Int) - 1) (by omega), w64 (x := 510 - c) (by omega), ← hA, show (l.length : Int) - (i : Int) = A + 1 by omega]
        have hxr := res_range (A * c - d)
        have hset : ∀ x y : Int, ((set2 l i 0 0).set i x).set (i + 1) y = set2 l i x y := fun x y => set2_twice l i 0 0 x y
        refine iterK_fix (F := fun x => some (set2 l i (res (A * c - d)) (res (d - (A + 1) * c)), 0, ())) (m := fun x => (256 - x.1).toNat) (I := fun x => 1 ≤ x.1 ∧ x.1 ≤ res (A * c - d)) ?_ _ _ ⟨by first | omega | (dsimp only; omega) | (simp only [List.length_cons, List.length_nil, List.length_append, List.length_drop, List.length_take, maxBytes]; omega) | (simp; omega), by first | omega | (dsimp only; omega) | (simp only [List.length_cons, List.length_nil, List.length_append, List.length_drop, List.length_take, maxBytes]; omega) | (simp; omega)⟩ (by first | omega | (dsimp only; omega) | (simp only [List.length_cons, List.length_nil, List.length_append, List.length_drop, List.length_take, maxBytes]; omega) | (simp; omega))
        rintro ⟨x, _⟩ r ⟨x0, x1⟩ hr
        simp only at x0 x1 ⊢
        rw [if_pos (by simp only [decide_eq_true_eq]; omega), w64 (x := 510 - c - x) (by omega)]
        have hyn : 1 ≤ ynorm (510 - c - x) ∧ ynorm (510 - c - x) ≤ 255 ∧ ynorm (510 - c - x) % 255 = (510 - c - x) % 255 := by
          unfold ynorm; split <;> omega
        -- what is asked of a pair
        have main : ∀ (y : Int), y = ynorm (510 - c - x) → (if (decide (Int.tmod (IntKind.i64.wrap ((IntKind.i64.wrap (d + (IntKind.i64.wrap (x * (A + 1))))) + (IntKind.i64.wrap (y * A)))) 255 = 0)) = true then (if 0 ≤ (i : Int) ∧ (i : Int) < (l.length : Int) then (if 0 ≤ ((i + 1 : Nat) : Int) ∧ ((i + 1 : Nat) : Int) < (((set2 l i 0 0).set i (IntKind.u8.wrap x)).length : Int) then (some (((set2 l i 0 0).set i (IntKind.u8.wrap x)).set (i + 1) (IntKind.u8.wrap y), (0 : Int), ()) : Option (List Int × Int × Unit)) else none) else none) else r (IntKind.i64.wrap (x + 1), ())) = some (set2 l i (res (A * c - d)) (res (d - (A + 1) * c)), 0, ()) := by
          intro y hy
          rw [← hy] at hyn
          have m1 : 0 ≤ x * (A + 1) ∧ x * (A + 1) ≤ 255 * 4001 := ⟨Int.mul_nonneg (by omega) (by omega), Int.mul_le_mul (by omega) (by omega) (by omega) (by omega)⟩
          have m2 : 0 ≤ y * A ∧ y * A ≤ 255 * 4000 := ⟨Int.mul_nonneg (by omega) (by omega), Int.mul_le_mul (by omega) (by omega) (by omega) (by omega)⟩
          rw [w64 (x := x * (A + 1)) (by omega), w64 (x := y * A) (by omega), w64 (x := d + x * (A + 1)) (by omega), w64 (x := d + x * (A + 1) + y * A) (by omega), tmod_pos (by omega)]
          by_cases hq : (d + x * (A + 1) + y * A) % 255 = 0
          · obtain ⟨q1, q2⟩ := place_only A c d x y (by omega) hyn.2.2 (by omega) hq
            rw [if_pos (by simpa using hq), if_pos (by omega), if_pos (by rw [List.length_set, hz]; omega), wu8, wu8, show x % 256 = x by omega, show y % 256 = y by omega, hset, q1, q2]
          · have hne : x ≠ res (A * c - d) := fun e => hq (place_is A c d x y e hyn.2.2)
            rw [if_neg (by simpa using hq), w64 (by omega), hr _ ⟨by first | omega | (dsimp only; omega) | (simp only [List.length_cons, List.length_nil, List.length_append, List.length_drop, List.length_take, maxBytes]; omega) | (simp; omega), by first | omega | (dsimp only; omega) | (simp only [List.length_cons, List.length_nil, List.length_append, List.length_drop, List.length_take, maxBytes]; omega) | (simp; omega)⟩ (by first | omega | (dsimp only; omega) | (simp only [List.length_cons, List.length_nil, List.length_append, List.length_drop, List.length_take, maxBytes]; omega) | (simp; omega))]
        obtain ⟨n, hn⟩ : ∃ n, (4611686018427387904 : Nat) = n + 1 + 1 := ⟨_, rfl⟩
        rw [hn]
        by_cases hy2 : 510 - c - x > 255
        · have hyy : ynorm (510 - c - x) = 510 - c - x - 255 := by unfold ynorm; rw [if_pos hy2]
          rw [iterK, if_pos (by simpa using hy2), w64 (x := 510 - c - x - 255) (by omega), iterK, if_neg (by simp only [decide_eq_true_eq]; omega), iterK, if_neg (by simp only [decide_eq_true_eq]; omega)]
          exact main _ hyy.symm
        · have hyy : ynorm (510 - c - x) = 510 - c - x := by unfold ynorm; rw [if_neg hy2]
          rw [iterK, if_neg (by simpa using hy2), iterK, if_neg (by simp only [decide_eq_true_eq]; omega)]
          exact main _ hyy.symm
end Go.Proofs.Ytocloebloblodaa.F
