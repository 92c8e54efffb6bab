/- The plain mathematics of both sums: Fletcher's pair and the internet sum, over lists of whole numbers. -/
import Derived.Test.YtdclgppcemjcdaaLAid
namespace Go.Proofs.Ytdclgppcemjcdaa.SumM
open Go.RowKit Go.Proofs.YtdclgppcemjcdaaW.PrintWords Go.Proofs.Ytdclgppcemjcdaa.Aid

theorem snoc_ind {α : Type} {P : List α → Prop} (h0 : P []) (hs : ∀ l c, P l → P (l ++ [c])) (l : List α) : P l := by
  have key : ∀ m : List α, P m.reverse := by
    intro m
    induction m with
    | nil => exact h0
    | cons a m ih => rw [List.reverse_cons]; exact hs _ _ ih
  have := key l.reverse
  rwa [List.reverse_reverse] at this
def Byts (l : List Int) : Prop := ∀ x ∈ l, 0 ≤ x ∧ x ≤ 255
theorem byts_set {l : List Int} (h : Byts l) (i : Nat) (x : Int) (hx : 0 ≤ x ∧ x ≤ 255) : Byts (l.set i x) := by
  intro y hy
  rcases List.mem_or_eq_of_mem_set hy with hy | rfl
  · exact h y hy
  · exact hx
def S1 : List Int → Int
  | [] => 0
  | a :: l => a + S1 l
def S2 : List Int → Int
  | [] => 0
  | a :: l => ((l.length : Int) + 1) * a + S2 l
theorem S1_snoc (l : List Int) (c : Int) : S1 (l ++ [c]) = S1 l + c := by
  induction l with
  | nil => simp [S1]
  | cons a l ih => simp only [List.cons_append, S1, ih]; omega
theorem S2_snoc (l : List Int) (c : Int) : S2 (l ++ [c]) = S2 l + S1 l + c := by
  induction l with
  | nil => simp [S1, S2]
  | cons a l ih =>
    simp only [List.cons_append, S1, S2, ih, List.length_append, List.length_cons, List.length_nil]
    grind
theorem S1_set : ∀ (l : List Int) (i : Nat) (x : Int), i < l.length → S1 (l.set i x) = S1 l - rd l i + x
  | [], i, x, h => by simp at h
  | a :: l, 0, x, _ => by simp [S1, rd]; omega
  | a :: l, i + 1, x, h => by
    have ih := S1_set l i x (by simpa using h)
    have e : rd (a :: l) ((i + 1 : Nat) : Int) = rd l (i : Int) := by simp [rd]
    rw [e]
    simp only [List.set_cons_succ, S1, ih]
    omega
theorem S2_set : ∀ (l : List Int) (i : Nat) (x : Int), i < l.length → S2 (l.set i x) = S2 l + ((l.length : Int) - i) * (x - rd l i)
  | [], i, x, h => by simp at h
  | a :: l, 0, x, _ => by
    have e : rd (a :: l) ((0 : Nat) : Int) = a := by simp [rd]
    rw [e]
    simp only [List.set_cons_zero, S2, List.length_cons]
    grind
  | a :: l, i + 1, x, h => by
    have ih := S2_set l i x (by simpa using h)
    have e : rd (a :: l) ((i + 1 : Nat) : Int) = rd l (i : Int) := by simp [rd]
    rw [e]
    simp only [List.set_cons_succ, S2, ih, List.length_cons, List.length_set]
    grind
theorem rd_set_self (l : List Int) (i : Nat) (x : Int) (h : i < l.length) : rd (l.set i x) i = x := by simp [rd, List.getD_eq_getElem?_getD, h]
theorem rd_set_ne (l : List Int) (i j : Nat) (x : Int) (h : i ≠ j) : rd (l.set i x) j = rd l j := by simp [rd, List.getD_eq_getElem?_getD, List.getElem?_set_ne h]
/-- Two places of a row set anew. -/
def set2 (l : List Int) (i : Nat) (x y : Int) : List Int := (l.set i x).set (i + 1) y
theorem set2_length (l : List Int) (i : Nat) (x y : Int) : (set2 l i x y).length = l.length := by simp [set2]
theorem S1_set2 (l : List Int) (i : Nat) (x y : Int) (h : i + 1 < l.length) (h0 : rd l i = 0) (h1 : rd l ((i + 1 : Nat) : Int) = 0) : S1 (set2 l i x y) = S1 l + x + y := by
  unfold set2
  rw [S1_set _ _ _ (by simp; omega), S1_set _ _ _ (by omega), rd_set_ne _ _ _ _ (by omega), h0, h1]
  omega
theorem S2_set2 (l : List Int) (i : Nat) (x y : Int) (h : i + 1 < l.length) (h0 : rd l i = 0) (h1 : rd l ((i + 1 : Nat) : Int) = 0) : S2 (set2 l i x y) = S2 l + ((l.length : Int) - i) * x + ((l.length : Int) - i - 1) * y := by
  unfold set2
  rw [S2_set _ _ _ (by simp; omega), S2_set _ _ _ (by omega), rd_set_ne _ _ _ _ (by omega), h0, h1]
  simp only [List.length_set]
  have : ((i + 1 : Nat) : Int) = (i : Int) + 1 := by omega
  rw [this]
  grind
/-- A number of 1 to 255 of the same rest. -/
def res (n : Int) : Int := if n % 255 = 0 then 255 else n % 255
theorem res_range (n : Int) : 1 ≤ res n ∧ res n ≤ 255 := by unfold res; split <;> omega
theorem res_mod (n : Int) : res n % 255 = n % 255 := by unfold res; split <;> omega
theorem res_unique (n x : Int) (h1 : 1 ≤ x) (h2 : x ≤ 255) (h : x % 255 = n % 255) : x = res n := by unfold res; split <;> omega
theorem mod_ex (a b : Int) (h : a % 255 = b % 255) : ∃ t, a = b + 255 * t := ⟨(a - b) / 255, by omega⟩
theorem ex_mod (a b t : Int) (h : a = b + 255 * t) : a % 255 = b % 255 := by omega
/-- What is placed fits. -/
theorem place_fits (l : List Int) (i : Nat) (c d : Int) (h : i + 1 < l.length) (h0 : rd l i = 0) (h1 : rd l ((i + 1 : Nat) : Int) = 0) (hc : S1 l % 255 = c % 255) (hd : S2 l % 255 = d % 255) :
    S1 (set2 l i (res (((l.length : Int) - i - 1) * c - d)) (res (d - (((l.length : Int) - i - 1) + 1) * c))) % 255 = 0 ∧ S2 (set2 l i (res (((l.length : Int) - i - 1) * c - d)) (res (d - (((l.length : Int) - i - 1) + 1) * c))) % 255 = 0 := by
  obtain ⟨A, hA⟩ : ∃ A : Int, A = (l.length : Int) - i - 1 := ⟨_, rfl⟩
  rw [← hA]
  obtain ⟨t1, ht1⟩ := mod_ex _ _ (res_mod (A * c - d))
  obtain ⟨t2, ht2⟩ := mod_ex _ _ (res_mod (d - (A + 1) * c))
  obtain ⟨s1, hs1⟩ := mod_ex _ _ hc
  obtain ⟨s2, hs2⟩ := mod_ex _ _ hd
  rw [S1_set2 l i _ _ h h0 h1, S2_set2 l i _ _ h h0 h1, ht1, ht2, hs1, hs2]
  have e : (l.length : Int) - i = A + 1 := by omega
  rw [e]
  constructor
  · have : c + 255 * s1 + (A * c - d + 255 * t1) + (d - (A + 1) * c + 255 * t2) = 255 * (s1 + t1 + t2) := by grind
    omega
  · have : d + 255 * s2 + (A + 1) * (A * c - d + 255 * t1) + (A + 1 - 1) * (d - (A + 1) * c + 255 * t2) = 255 * (s2 + (A + 1) * t1 + A * t2) := by grind
    omega
/-- Of all pairs just that one fits. -/
theorem place_only (A c d x y : Int) (hx : 1 ≤ x ∧ x ≤ 255) (hy : y % 255 = (510 - c - x) % 255) (hy1 : 1 ≤ y ∧ y ≤ 255) (h : (d + x * (A + 1) + y * A) % 255 = 0) : x = res (A * c - d) ∧ y = res (d - (A + 1) * c) := by
  obtain ⟨t, ht⟩ := mod_ex _ _ hy
  obtain ⟨s, hs⟩ : ∃ s, d + x * (A + 1) + y * A = 255 * s := ⟨(d + x * (A + 1) + y * A) / 255, by omega⟩
  have hx2 : x = (A * c - d) + 255 * (s - A * 2 - A * t) := by rw [ht] at hs; grind
  have hy2 : y = (d - (A + 1) * c) + 255 * (2 + t - (s - A * 2 - A * t)) := by rw [ht]; grind
  exact ⟨res_unique _ _ hx.1 hx.2 (ex_mod _ _ _ hx2), res_unique _ _ hy1.1 hy1.2 (ex_mod _ _ _ hy2)⟩
theorem place_is (A c d x y : Int) (hx : x = res (A * c - d)) (hy : y % 255 = (510 - c - x) % 255) : (d + x * (A + 1) + y * A) % 255 = 0 := by
  obtain ⟨t, ht⟩ := mod_ex _ _ hy
  obtain ⟨s, hs⟩ := mod_ex _ _ (res_mod (A * c - d))
  rw [← hx] at hs
  have : d + x * (A + 1) + y * A = 255 * (s + A * 2 + A * t) := by rw [ht]; grind
  omega

/-- The internet sum before it is folded: two Byts a number, the highest first. -/
def wsum : Bool → List Int → Int
  | _, [] => 0
  | true, a :: l => 256 * a + wsum false l
  | false, a :: l => a + wsum true l
theorem wsum_two (a b : Int) (l : List Int) : wsum true (a :: b :: l) = 256 * a + b + wsum true l := by simp [wsum]; omega
theorem wsum_range (l : List Int) (h : Byts l) : ∀ p, 0 ≤ wsum p l ∧ wsum p l ≤ 65280 * (l.length : Int) := by
  induction l with
  | nil => intro p; simp [wsum]
  | cons a l ih =>
    intro p
    have ha := h a (by simp)
    have ih := ih (fun x hx => h x (by simp [hx]))
    have i1 := ih true
    have i2 := ih false
    cases p <;> simp only [wsum, List.length_cons] <;> omega
theorem wsum_append (l m : List Int) : ∀ p, wsum p (l ++ m) = wsum p l + wsum (if l.length % 2 = 0 then p else !p) m := by
  induction l with
  | nil => intro p; simp [wsum]
  | cons a l ih =>
    intro p
    have e : (if (l.length + 1) % 2 = 0 then p else !p) = (if l.length % 2 = 0 then !p else !(!p)) := by
      by_cases h : l.length % 2 = 0
      · rw [if_neg (by omega), if_pos h]
      · rw [if_pos (by omega), if_neg h]; simp
    cases p
    · simp only [List.cons_append, wsum, List.length_cons]
      rw [e, ih true]
      simp only [Bool.not_false]
      omega
    · simp only [List.cons_append, wsum, List.length_cons]
      rw [e, ih false]
      simp only [Bool.not_true]
      omega
theorem wsum_snoc (l : List Int) (c : Int) : wsum true (l ++ [c]) = wsum true l + (if l.length % 2 = 0 then 256 * c else c) := by
  rw [wsum_append]
  split <;> simp [wsum]
theorem wsum_set : ∀ (l : List Int) (i : Nat) (x : Int) (p : Bool), i < l.length → ∃ q : Int, (q = 1 ∨ q = 256) ∧ wsum p (l.set i x) = wsum p l + q * (x - rd l i)
  | [], i, x, p, h => by simp at h
  | a :: l, 0, x, p, _ => by
    have e : rd (a :: l) ((0 : Nat) : Int) = a := by simp [rd]
    rw [e]
    cases p
    · exact ⟨1, .inl rfl, by simp only [List.set_cons_zero, wsum]; omega⟩
    · exact ⟨256, .inr rfl, by simp only [List.set_cons_zero, wsum]; omega⟩
  | a :: l, i + 1, x, p, h => by
    have e : rd (a :: l) ((i + 1 : Nat) : Int) = rd l (i : Int) := by simp [rd]
    obtain ⟨q, hq, ih⟩ := wsum_set l i x (!p) (by simpa using h)
    refine ⟨q, hq, ?_⟩
    rw [e]
    cases p <;> simp only [List.set_cons_succ, wsum] <;> simp only [Bool.not_false, Bool.not_true] at ih <;> rw [ih] <;> omega
/-- Folded: the same rest by 65535, from 1 to 65535, but 0 of 0. -/
def oc (n : Int) : Int := if n = 0 then 0 else (n - 1) % 65535 + 1
theorem oc_small (n : Int) (h0 : 0 ≤ n) (h : n ≤ 65535) : oc n = n := by unfold oc; split <;> omega
theorem oc_fold (n : Int) (h : n > 65535) : oc (n / 65536 + n % 65536) = oc n := by unfold oc; split <;> split <;> omega
theorem oc_range (n : Int) : 0 ≤ oc n ∧ oc n ≤ 65535 := by unfold oc; split <;> omega
def inet (l : List Int) : Int := 65535 - oc (wsum true l)
theorem inet_range (l : List Int) : 0 ≤ inet l ∧ inet l ≤ 65535 := by have := oc_range (wsum true l); unfold inet; omega
theorem inet_zero (l : List Int) (h : 0 ≤ wsum true l) : inet l = 0 ↔ (0 < wsum true l ∧ wsum true l % 65535 = 0) := by
  unfold inet oc
  split <;> omega
end Go.Proofs.Ytdclgppcemjcdaa.SumM
