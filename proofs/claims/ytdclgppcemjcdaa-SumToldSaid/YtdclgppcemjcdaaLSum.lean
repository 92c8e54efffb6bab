/- What the functions of sum and of its reference come to. -/
import Derived.Test.YtdclgppcemjcdaaLSumM
import Derived.Test.YtdclgppcemjcdaaPSumx
namespace Go.Proofs.Ytdclgppcemjcdaa.PSum
open Go.RowKit Go.Proofs.YtdclgppcemjcdaaW.PrintWords Go.Proofs.YtdclgppcemjcdaaW.PrintLast Go.Proofs.YtdclgppcemjcdaaW.PrintMore Go.Proofs.Ytdclgppcemjcdaa.Aid Go.Proofs.Ytdclgppcemjcdaa.SumM

theorem byts_ok {l : List Int} (h : Byts l) : sum_bytes l = true := by
  unfold sum_bytes
  rw [List.all_eq_true]
  intro x hx
  simpa using h x hx
theorem pr_eq (l : List Int) : Byts l → ((sum_pr l).1 : Int) = S1 l % 255 ∧ ((sum_pr l).2 : Int) = S2 l % 255 := by
  induction l using snoc_ind with
  | h0 => intro _; simp [sum_pr, S1, S2]
  | hs l c ih =>
    intro h
    have hc := h c (by simp)
    obtain ⟨i1, i2⟩ := ih (fun x hx => h x (by simp [hx]))
    rw [sum_pr_snoc, S1_snoc, S2_snoc]
    simp only
    omega
theorem Pair_eq {l : List Int} (h : Byts l) : sum_Pair.f l = some (S1 l % 255, S2 l % 255) := by
  unfold sum_Pair.f
  rw [if_pos (byts_ok h), (pr_eq l h).1, (pr_eq l h).2]
theorem residue_eq (n : Int) : sum_residue.f n = some (res n) := by
  have e : Int.tmod (wrap64 (Int.tmod n 255 + 255)) 255 = n % 255 := by
    have h1 : -255 < Int.tmod n 255 ∧ Int.tmod n 255 < 255 := ⟨Int.lt_tmod_of_pos n (by decide), Int.tmod_lt_of_pos n (by decide)⟩
    have h2 := Int.tmod_add_mul_tdiv n 255
    rw [w64 (by omega), Int.tmod_eq_emod_of_nonneg (by omega)]
    omega
  unfold sum_residue.f res
  rw [e]
  split
  · rfl
  · congr 1
    omega
theorem Internet_l1 : ∀ (d : Nat) (n : Int), 0 ≤ n → n ≤ 65535 * 2 ^ d → n < 4611686018427387904 → Ev (fun k => sum_Internet.l1 k n) (65535 - oc n) := by
  intro d
  induction d with
  | zero =>
    intro n h0 h1 _
    simp at h1
    refine Ev.done fun k => ?_
    simp only [sum_Internet.l1]
    rw [if_neg (by omega), w64 (x := n) (by omega), w64 (by omega), oc_small n h0 h1]
  | succ d ih =>
    intro n h0 h1 h2
    by_cases h : n > 65535
    · have e : IntKind.u64.wrap (n / 65536 + Go.bits .and .u64 n 65535) = n / 65536 + n % 65536 := by
        have h3 : Go.bits .and .u64 n 65535 = n % 65536 := by
          have := bits_mask .u64 62 (by decide) (fun m a b => by simp [IntKind.wrap, IntKind.bits, IntKind.signed]; omega) 16 (by decide) n h0 (by simp; omega)
          simpa using this
        rw [h3]
        simp [IntKind.wrap, IntKind.bits, IntKind.signed]
        omega
      have hp : (2 : Int) ^ (d + 1) = 2 * 2 ^ d := by rw [Int.pow_succ, Int.mul_comm]
      have h4 : (1 : Int) ≤ 2 ^ d := Int.pow_pos (by decide)
      rw [hp] at h1
      refine Ev.step (f := fun k => sum_Internet.l1 k (n / 65536 + n % 65536)) (fun k => ?_) ?_
      · simp only [sum_Internet.l1]
        rw [if_pos h, e]
      · rw [← oc_fold n h]
        exact ih _ (by omega) (by omega) (by omega)
    · refine Ev.done fun k => ?_
      simp only [sum_Internet.l1]
      rw [if_neg h, w64 (x := n) (by omega), w64 (by omega), oc_small n h0 (by omega)]
theorem fold_bound (n : Int) (h : n < 4611686018427387904) : n ≤ 65535 * 2 ^ 62 := by
  have h2 : (4611686018427387904 : Int) ≤ 65535 * 2 ^ 62 := by decide
  omega
theorem two_bytes {a b : Int} (ha : 0 ≤ a ∧ a ≤ 255) (hb : 0 ≤ b ∧ b ≤ 255) : Go.bits .or .u64 (IntKind.u64.wrap (IntKind.u64.wrap a * 256)) (IntKind.u64.wrap b) = 256 * a + b := by
  have e1 : IntKind.u64.wrap a = a := by simp [IntKind.wrap, IntKind.bits, IntKind.signed]; omega
  have e2 : IntKind.u64.wrap (a * 256) = a * 256 := by simp [IntKind.wrap, IntKind.bits, IntKind.signed]; omega
  have e3 : IntKind.u64.wrap b = b := by simp [IntKind.wrap, IntKind.bits, IntKind.signed]; omega
  rw [e1, e2, e3]
  have := bits_join .u64 62 (by decide) (fun m a b => by simp [IntKind.wrap, IntKind.bits, IntKind.signed]; omega) 8 (a * 256) b (by omega) (by simp) (by simp; omega) hb.1 (by simp; omega) (by simp; omega)
  rw [this]
  omega
theorem wrapu (n : Int) (h : 0 ≤ n ∧ n < 4611686018427387904) : IntKind.u64.wrap n = n := by simp [IntKind.wrap, IntKind.bits, IntKind.signed]; omega
theorem Internet_l0 : ∀ (q : Nat) (l : List Int) (n : Int), l.length ≤ q → Byts l → 0 ≤ n → n + 65280 * (l.length : Int) < 4611686018427387904 → Ev (fun k => sum_Internet.l0 k l n) (65535 - oc (n + wsum true l)) := by
  intro q
  induction q with
  | zero =>
    intro l n hq hb h0 hn
    obtain rfl : l = [] := List.length_eq_zero_iff.1 (by omega)
    refine Ev.step (f := fun k => sum_Internet.j1 k n) (fun k => by simp [sum_Internet.l0]) ?_
    refine Ev.step (f := fun k => sum_Internet.l1 k n) (fun k => by simp [sum_Internet.j1]) ?_
    simp only [wsum, Int.add_zero]
    exact Internet_l1 62 n h0 (fold_bound n (by simp at hn; omega)) (by simp at hn; omega)
  | succ q ih =>
    intro l n hq hb h0 hn
    match l, hb, hn with
    | [], hb, hn => exact ih [] n (by simp) hb h0 hn
    | [a], hb, hn =>
      have ha := hb a (by simp)
      simp at hn
      refine Ev.step (f := fun k => sum_Internet.j1 k (n + 256 * a)) (fun k => ?_) ?_
      · simp only [sum_Internet.l0]
        rw [if_neg (by simp), if_pos (by simp), if_pos (by simp)]
        have e : rd [a] 0 = a := rfl
        rw [e, wrapu a (by omega), wrapu (a * 256) (by omega), wrapu _ (by omega)]
        congr 1
        omega
      · refine Ev.step (f := fun k => sum_Internet.l1 k (n + 256 * a)) (fun k => by simp [sum_Internet.j1]) ?_
        simp only [wsum, Int.add_zero]
        exact Internet_l1 62 _ (by omega) (fold_bound _ (by omega)) (by omega)
    | a :: b :: l, hb, hn =>
      have ha := hb a (by simp)
      have hbb := hb b (by simp)
      simp only [List.length_cons] at hn hq
      refine Ev.step (f := fun k => sum_Internet.l0 k l (n + (256 * a + b))) (fun k => ?_) ?_
      · simp only [sum_Internet.l0]
        rw [if_pos (by simp; omega), if_pos (by simp; omega), if_pos (by simp; omega), if_pos (by simp; omega)]
        have e1 : rd (a :: b :: l) 0 = a := rfl
        have e2 : rd (a :: b :: l) 1 = b := rfl
        rw [e1, e2, two_bytes ha hbb, wrapu _ (by omega)]
        rfl
      · have := ih l (n + (256 * a + b)) (by omega) (fun x hx => hb x (by simp [hx])) (by omega) (by omega)
        rw [wsum_two, show n + (256 * a + b + wsum true l) = n + (256 * a + b) + wsum true l by omega]
        exact this
theorem Internet_ev {l : List Int} (h : Byts l) (hl : l.length < 1000000000) : Ev (fun k => sum_Internet.f k l) (inet l) := by
  unfold sum_Internet.f inet
  have := Internet_l0 l.length l 0 (Nat.le_refl _) h (by omega) (by omega)
  simpa using this
theorem Holds_ev {l : List Int} (h : Byts l) (hl : l.length < 1000000000) : Ev (fun k => sum_Holds.f k l) (inet l == 0) := by
  unfold sum_Holds.f
  exact Ev.bind0 (Internet_ev h hl) rfl
theorem rInternet_l1 : ∀ (d : Nat) (n : Int), 0 ≤ n → n ≤ 65535 * 2 ^ d → n < 4611686018427387904 → Ev (fun k => crossroadsref02_Internet.l1 k n) (65535 - oc n) := by
  intro d
  induction d with
  | zero =>
    intro n h0 h1 _
    simp at h1
    refine Ev.done fun k => ?_
    simp only [crossroadsref02_Internet.l1]
    rw [if_neg (by omega), w64 (by omega), oc_small n h0 h1]
  | succ d ih =>
    intro n h0 h1 h2
    by_cases h : n > 65535
    · have e : wrap64 (Int.tmod n 65536 + wrap64 (Int.tdiv n 65536)) = n / 65536 + n % 65536 := by
        rw [Int.tmod_eq_emod_of_nonneg h0, Int.tdiv_eq_ediv_of_nonneg h0, w64 (x := n / 65536) (by omega), w64 (by omega)]
        omega
      have hp : (2 : Int) ^ (d + 1) = 2 * 2 ^ d := by rw [Int.pow_succ, Int.mul_comm]
      have h4 : (1 : Int) ≤ 2 ^ d := Int.pow_pos (by decide)
      rw [hp] at h1
      refine Ev.step (f := fun k => crossroadsref02_Internet.l1 k (n / 65536 + n % 65536)) (fun k => ?_) ?_
      · simp only [crossroadsref02_Internet.l1]
        rw [if_pos h, e]
      · rw [← oc_fold n h]
        exact ih _ (by omega) (by omega) (by omega)
    · refine Ev.done fun k => ?_
      simp only [crossroadsref02_Internet.l1]
      rw [if_neg h, w64 (by omega), oc_small n h0 (by omega)]
theorem rInternet_l0 {l : List Int} (hb : Byts l) (hl : l.length < 1000000000) : ∀ (j i : Nat), i + j = l.length → Ev (fun k => crossroadsref02_Internet.l0 k l (wsum true (l.take i)) (i : Int)) (inet l) := by
  intro j
  induction j with
  | zero =>
    intro i hi
    obtain rfl : i = l.length := by omega
    have hr := wsum_range l hb true
    refine Ev.step (f := fun k => crossroadsref02_Internet.l1 k (wsum true l)) (fun k => ?_) ?_
    · simp only [crossroadsref02_Internet.l0]
      rw [if_neg (by omega), List.take_length]
    · exact rInternet_l1 62 _ hr.1 (fold_bound _ (by omega)) (by omega)
  | succ j ih =>
    intro i hi
    have hi' : i < l.length := by omega
    have hm := hb _ (rd_mem l i (by omega) (by omega))
    have hr := wsum_range (l.take i) (fun x hx => hb x (List.mem_of_mem_take hx)) true
    have hlt : (l.take i).length = i := by simp; omega
    rw [hlt] at hr
    have ht : Int.tmod (i : Int) 2 = ((i % 2 : Nat) : Int) := by rw [Int.tmod_eq_emod_of_nonneg (by omega)]; omega
    refine Ev.step (f := fun k => crossroadsref02_Internet.l0 k l (wsum true (l.take (i + 1))) ((i + 1 : Nat) : Int)) (fun k => ?_) (ih (i + 1) (by omega))
    rw [take_succ_rd l i hi', wsum_snoc, hlt]
    simp only [crossroadsref02_Internet.l0]
    rw [if_pos (by omega), ht]
    by_cases he : i % 2 = 0
    · rw [if_pos (by omega), if_pos (by omega), if_pos he, w64 (x := rd l i) (by omega), w64 (x := 256 * rd l i) (by omega), w64 (by omega), w64 (by omega)]
      rfl
    · rw [if_neg (by omega), if_pos (by omega), if_neg he, w64 (x := rd l i) (by omega), w64 (by omega), w64 (by omega)]
      rfl
theorem rInternet_ev {l : List Int} (h : Byts l) (hl : l.length < 1000000000) : Ev (fun k => crossroadsref02_Internet.f k l) (inet l) := by
  unfold crossroadsref02_Internet.f
  have := rInternet_l0 h hl l.length 0 (by omega)
  simpa [wsum] using this
theorem rPair_l0 {l : List Int} (hb : Byts l) (hl : l.length < 1000000000) : ∀ (j i : Nat), i + j = l.length → Ev (fun k => crossroadsref02_Pair.l0 k l (S1 (l.take i) % 255) (S2 (l.take i) % 255) (i : Int)) (S1 l % 255, S2 l % 255) := by
  intro j
  induction j with
  | zero =>
    intro i hi
    obtain rfl : i = l.length := by omega
    refine Ev.done fun k => ?_
    simp only [crossroadsref02_Pair.l0]
    rw [if_neg (by omega), List.take_length]
  | succ j ih =>
    intro i hi
    have hi' : i < l.length := by omega
    have hm := hb _ (rd_mem l i (by omega) (by omega))
    refine Ev.step (f := fun k => crossroadsref02_Pair.l0 k l (S1 (l.take (i + 1)) % 255) (S2 (l.take (i + 1)) % 255) ((i + 1 : Nat) : Int)) (fun k => ?_) (ih (i + 1) (by omega))
    rw [take_succ_rd l i hi', S1_snoc, S2_snoc]
    simp only [crossroadsref02_Pair.l0]
    have e1 : Int.tmod (wrap64 (S1 (l.take i) % 255 + wrap64 (rd l (i : Int)))) 255 = (S1 (l.take i) + rd l (i : Int)) % 255 := by
      rw [w64 (x := rd l i) (by omega), w64 (by omega), Int.tmod_eq_emod_of_nonneg (by omega)]
      omega
    have e2 : Int.tmod (wrap64 (S2 (l.take i) % 255 + (S1 (l.take i) + rd l (i : Int)) % 255)) 255 = (S2 (l.take i) + S1 (l.take i) + rd l (i : Int)) % 255 := by
      rw [w64 (by omega), Int.tmod_eq_emod_of_nonneg (by omega)]
      omega
    rw [if_pos (by omega), if_pos (by omega), e1, e2, w64 (by omega)]
    rfl
theorem rPair_ev {l : List Int} (h : Byts l) (hl : l.length < 1000000000) : Ev (fun k => crossroadsref02_Pair.f k l) (S1 l % 255, S2 l % 255) := by
  unfold crossroadsref02_Pair.f
  have := rPair_l0 h hl l.length 0 (by omega)
  simpa [S1, S2] using this
/-- Whether a row fits. -/
def fits (l : List Int) : Bool := decide (S1 l % 255 = 0) && decide (S2 l % 255 = 0)
theorem Fits_eq {l : List Int} (h : Byts l) : sum_Fits.f l = some (fits l) := by
  unfold sum_Fits.f fits
  rw [if_pos (byts_ok h)]
  obtain ⟨h1, h2⟩ := pr_eq l h
  have e1 : decide ((sum_pr l).1 = 0) = decide (S1 l % 255 = 0) := by rw [← h1]; simp
  have e2 : decide ((sum_pr l).2 = 0) = decide (S2 l % 255 = 0) := by rw [← h2]; simp
  rw [e1, e2]
theorem rFits_ev {l : List Int} (h : Byts l) (hl : l.length < 1000000000) : Ev (fun k => crossroadsref02_Fits.f k l) (fits l) := by
  unfold crossroadsref02_Fits.f
  refine Ev.bind0 (rPair_ev h hl) ?_
  unfold fits
  by_cases h1 : S1 l % 255 = 0
  · simp only [h1, if_true, decide_true, Bool.true_and]
    rfl
  · simp [h1]
/-- A row with its pair placed. -/
def place (l : List Int) (at_ : Int) : List Int × Int :=
  if at_ < 0 ∨ at_ > (l.length : Int) - 2 ∨ l.length > 4000 then ([], 1)
  else (set2 l at_.toNat (res (((l.length : Int) - at_ - 1) * (S1 (set2 l at_.toNat 0 0) % 255) - S2 (set2 l at_.toNat 0 0) % 255)) (res (S2 (set2 l at_.toNat 0 0) % 255 - (((l.length : Int) - at_ - 1) + 1) * (S1 (set2 l at_.toNat 0 0) % 255))), 0)
theorem set2_twice (l : List Int) (i : Nat) (a b x y : Int) : set2 (set2 l i a b) i x y = set2 l i x y := by
  unfold set2
  rw [List.set_comm b x (by omega), List.set_set, List.set_set]
theorem set2_zero (l : List Int) (i : Nat) (h : i + 1 < l.length) : rd (set2 l i 0 0) i = 0 ∧ rd (set2 l i 0 0) ((i + 1 : Nat) : Int) = 0 := by
  unfold set2
  rw [rd_set_ne _ _ _ _ (by omega), rd_set_self _ _ _ (by omega), rd_set_self _ _ _ (by simp; omega)]
  exact ⟨rfl, rfl⟩
theorem byts_set2 {l : List Int} (h : Byts l) (i : Nat) {x y : Int} (hx : 0 ≤ x ∧ x ≤ 255) (hy : 0 ≤ y ∧ y ≤ 255) : Byts (set2 l i x y) := byts_set (byts_set h _ _ hx) _ _ hy
theorem Place_ev {l : List Int} (hb : Byts l) (hl : l.length < 1000000000) (a : Int) (ha : -9223372036854775808 ≤ a ∧ a ≤ 9223372036854775807) : Ev (fun k => sum_Place.f k l a) (place l a) := by
  unfold sum_Place.f place
  have hw : wrap64 ((l.length : Int) - 2) = (l.length : Int) - 2 := w64 (by omega)
  rw [hw]
  have hno : Ev (fun k => sum_Place.j0 k l a true) ([], 1) := Ev.done fun k => by simp [sum_Place.j0]
  by_cases h1 : a < 0
  · rw [if_pos (.inl h1)]; simp only [h1, if_true]; exact hno
  · by_cases h2 : a > (l.length : Int) - 2
    · rw [if_pos (.inr (.inl h2))]; simp only [h1, h2, if_true, if_false]; exact hno
    · by_cases h3 : l.length > 4000
      · rw [if_pos (.inr (.inr h3))]
        simp only [h1, h2, if_false, show decide ((l.length : Int) > 4000) = true from decide_eq_true (by omega)]
        exact hno
      · rw [if_neg (by omega)]
        simp only [h1, h2, if_false, show decide ((l.length : Int) > 4000) = false from decide_eq_false (by omega)]
        obtain ⟨i, rfl⟩ := Int.eq_ofNat_of_zero_le (show 0 ≤ a by omega)
        have hi : i + 1 < l.length := by omega
        have hw1 : wrap64 ((i : Int) + 1) = ((i + 1 : Nat) : Int) := by rw [w64 (by omega)]; omega
        have hy : (l.set i 0).set (i + 1) 0 = set2 l i 0 0 := rfl
        have hz := set2_length l i 0 0
        have hbz : Byts (set2 l i 0 0) := byts_set2 hb i (by omega) (by omega)
        refine Ev.done fun k => ?_
        simp only [sum_Place.j0]
        rw [if_neg (by simp)]
        unfold bytes_Clone.f
        rw [if_pos (by omega)]
        simp only [Option.bind_some, Int.toNat_natCast]
        rw [if_pos (by omega), if_pos (by omega), hw1, if_pos (by omega), if_pos (by omega)]
        simp only [Int.toNat_natCast, hy]
        rw [Pair_eq hbz]
        simp only [Option.bind_some]
        obtain ⟨c, hc⟩ : ∃ c, c = S1 (set2 l i 0 0) % 255 := ⟨_, rfl⟩
        obtain ⟨d, hd⟩ : ∃ d, d = S2 (set2 l i 0 0) % 255 := ⟨_, rfl⟩
        rw [← hc, ← hd]
        have hcr : 0 ≤ c ∧ c < 255 := by omega
        have hdr : 0 ≤ d ∧ d < 255 := by omega
        obtain ⟨A, hA⟩ : ∃ A : Int, A = (l.length : Int) - (i : Int) - 1 := ⟨_, rfl⟩
        have hAr : 0 ≤ A ∧ A ≤ 4000 := by omega
        have m1 : 0 ≤ A * c ∧ A * c ≤ 4000 * 255 := ⟨Int.mul_nonneg hAr.1 hcr.1, Int.mul_le_mul hAr.2 (by omega) hcr.1 (by omega)⟩
        have m2 : 0 ≤ (A + 1) * c ∧ (A + 1) * c ≤ 4001 * 255 := ⟨Int.mul_nonneg (by omega) hcr.1, Int.mul_le_mul (by omega) (by omega) hcr.1 (by omega)⟩
        rw [w64 (x := (l.length : Int) - (i : Int)) (by omega), w64 (x := (l.length : Int) - (i : Int) - 1) (by omega), ← hA, w64 (x := A * c) (by omega), w64 (x := A * c - d) (by omega), w64 (x := A + 1) (by omega), w64 (x := (A + 1) * c) (by omega), w64 (x := d - (A + 1) * c) (by omega)]
        rw [residue_eq, residue_eq]
        simp only [Option.bind_some]
        have := set2_twice l i 0 0 (res (A * c - d)) (res (d - (A + 1) * c))
        rw [← this]
        rfl
end Go.Proofs.Ytdclgppcemjcdaa.PSum
