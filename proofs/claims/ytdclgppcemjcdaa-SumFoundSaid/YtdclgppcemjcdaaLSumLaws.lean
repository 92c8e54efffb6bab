/- Every law of sum's chapter, as plain statements. -/
import Derived.Test.YtdclgppcemjcdaaLSum
namespace Go.Proofs.Ytdclgppcemjcdaa.PSum
open Go.RowKit Go.Proofs.YtdclgppcemjcdaaW.PrintWords Go.Proofs.YtdclgppcemjcdaaW.PrintLast Go.Proofs.YtdclgppcemjcdaaW.PrintMore Go.Proofs.Ytdclgppcemjcdaa.Aid Go.Proofs.Ytdclgppcemjcdaa.SumM

theorem alive_ev : Ev (fun k => crossroadslaw02_alive.f k) true := Ev.of crossroadslaw02_alive.mono (k := 12) (by decide +kernel)

theorem rPlace_l0 (l z : List Int) (i : Nat) (c d : Int) (hl : l.length ≤ 4000) (hi : i + 1 < l.length) (hz : z.length = l.length) (hc : 0 ≤ c ∧ c < 255) (hd : 0 ≤ d ∧ d < 255) : ∀ (j : Nat) (x : Int), x + j = res (((l.length : Int) - i - 1) * c - d) → 1 ≤ x →
    Ev (fun k => crossroadsref02_Place.l0 k l (i : Int) z c d x) (set2 z i (res (((l.length : Int) - i - 1) * c - d)) (res (d - (((l.length : Int) - i - 1) + 1) * c)), 0) := by
  intro j
  induction j with
  | zero =>
    intro x hx h1
    obtain ⟨A, hA⟩ : ∃ A : Int, A = (l.length : Int) - (i : Int) - 1 := ⟨_, rfl⟩
    have hAr : 0 ≤ A ∧ A ≤ 4000 := by omega
    rw [← hA] at hx ⊢
    have hX := res_range (A * c - d)
    have hx2 : x = res (A * c - d) := by omega
    have hxr : 1 ≤ x ∧ x ≤ 255 := by omega
    obtain ⟨y, hy⟩ : ∃ y : Int, y = if 510 - c - x > 255 then 510 - c - x - 255 else 510 - c - x := ⟨_, rfl⟩
    have hyr : 1 ≤ y ∧ y ≤ 255 := by rw [hy]; split <;> omega
    have hym : y % 255 = (510 - c - x) % 255 := by rw [hy]; split <;> omega
    have ht := place_is A c d x y hx2 hym
    have hboth := place_only A c d x y hxr hym hyr ht
    have m1 : 0 ≤ x * (A + 1) ∧ x * (A + 1) ≤ 255 * 4001 := ⟨Int.mul_nonneg (by omega) (by omega), Int.mul_le_mul hxr.2 (by omega) (by omega) (by omega)⟩
    have m2 : 0 ≤ y * A ∧ y * A ≤ 255 * 4000 := ⟨Int.mul_nonneg (by omega) (by omega), Int.mul_le_mul hyr.2 (by omega) (by omega) (by omega)⟩
    have hA1 : (l.length : Int) - (i : Int) = A + 1 := by omega
    have hend : Ev (fun k => crossroadsref02_Place.l2 k l (i : Int) z c d x y) (set2 z i (res (A * c - d)) (res (d - (A + 1) * c)), 0) := by
      refine Ev.done fun k => ?_
      simp only [crossroadsref02_Place.l2]
      rw [if_neg (by omega)]
      rw [hA1, w64 (x := A + 1) (by omega), w64 (x := A + 1 - 1) (by omega), show A + 1 - 1 = A by omega, w64 (x := x * (A + 1)) (by omega), w64 (x := d + x * (A + 1)) (by omega), w64 (x := y * A) (by omega), w64 (x := d + x * (A + 1) + y * A) (by omega), Int.tmod_eq_emod_of_nonneg (by omega)]
      rw [if_pos ht, if_pos (by omega), if_pos (by omega), w64 (x := (i : Int) + 1) (by omega), if_pos (by omega), if_pos (by omega)]
      have e1 : x % 256 = res (A * c - d) := by omega
      have e2 : y % 256 = res (d - (A + 1) * c) := by omega
      rw [e1, e2]
      rfl
    refine Ev.step (f := fun k => crossroadsref02_Place.l1 k l (i : Int) z c d x (510 - c - x)) (fun k => ?_) ?_
    · simp only [crossroadsref02_Place.l0]
      rw [if_pos (by omega), w64 (x := 510 - c) (by omega), w64 (by omega)]
    · by_cases hbig : 510 - c - x > 255
      · rw [if_pos hbig] at hy
        refine Ev.step (f := fun k => crossroadsref02_Place.l1 k l (i : Int) z c d x y) (fun k => ?_) (Ev.step (f := fun k => crossroadsref02_Place.l2 k l (i : Int) z c d x y) (fun k => ?_) hend)
        · simp only [crossroadsref02_Place.l1]
          rw [if_pos hbig, w64 (by omega), ← hy]
        · simp only [crossroadsref02_Place.l1]
          rw [if_neg (by omega)]
      · rw [if_neg hbig] at hy
        rw [← hy]
        refine Ev.step (f := fun k => crossroadsref02_Place.l2 k l (i : Int) z c d x y) (fun k => ?_) hend
        simp only [crossroadsref02_Place.l1]
        rw [if_neg (by omega)]
  | succ j ih =>
    intro x hx h1
    have ih := ih (x + 1) (by omega) (by omega)
    obtain ⟨A, hA⟩ : ∃ A : Int, A = (l.length : Int) - (i : Int) - 1 := ⟨_, rfl⟩
    have hAr : 0 ≤ A ∧ A ≤ 4000 := by omega
    rw [← hA] at hx ih ⊢
    have hX := res_range (A * c - d)
    have hxr : 1 ≤ x ∧ x ≤ 255 := by omega
    obtain ⟨y, hy⟩ : ∃ y : Int, y = if 510 - c - x > 255 then 510 - c - x - 255 else 510 - c - x := ⟨_, rfl⟩
    have hyr : 1 ≤ y ∧ y ≤ 255 := by rw [hy]; split <;> omega
    have hym : y % 255 = (510 - c - x) % 255 := by rw [hy]; split <;> omega
    have ht : ¬ (d + x * (A + 1) + y * A) % 255 = 0 := fun h => by
      have := place_only A c d x y hxr hym hyr h
      omega
    have m1 : 0 ≤ x * (A + 1) ∧ x * (A + 1) ≤ 255 * 4001 := ⟨Int.mul_nonneg (by omega) (by omega), Int.mul_le_mul hxr.2 (by omega) (by omega) (by omega)⟩
    have m2 : 0 ≤ y * A ∧ y * A ≤ 255 * 4000 := ⟨Int.mul_nonneg (by omega) (by omega), Int.mul_le_mul hyr.2 (by omega) (by omega) (by omega)⟩
    have hA1 : (l.length : Int) - (i : Int) = A + 1 := by omega
    have hend : Ev (fun k => crossroadsref02_Place.l2 k l (i : Int) z c d x y) (set2 z i (res (A * c - d)) (res (d - (A + 1) * c)), 0) := by
      refine Ev.step (f := fun k => crossroadsref02_Place.l0 k l (i : Int) z c d (x + 1)) (fun k => ?_) ih
      simp only [crossroadsref02_Place.l2]
      rw [if_neg (by omega)]
      rw [hA1, w64 (x := A + 1) (by omega), w64 (x := A + 1 - 1) (by omega), show A + 1 - 1 = A by omega, w64 (x := x * (A + 1)) (by omega), w64 (x := d + x * (A + 1)) (by omega), w64 (x := y * A) (by omega), w64 (x := d + x * (A + 1) + y * A) (by omega), Int.tmod_eq_emod_of_nonneg (by omega)]
      rw [if_neg ht, w64 (by omega)]
    refine Ev.step (f := fun k => crossroadsref02_Place.l1 k l (i : Int) z c d x (510 - c - x)) (fun k => ?_) ?_
    · simp only [crossroadsref02_Place.l0]
      rw [if_pos (by omega), w64 (x := 510 - c) (by omega), w64 (by omega)]
    · by_cases hbig : 510 - c - x > 255
      · rw [if_pos hbig] at hy
        refine Ev.step (f := fun k => crossroadsref02_Place.l1 k l (i : Int) z c d x y) (fun k => ?_) (Ev.step (f := fun k => crossroadsref02_Place.l2 k l (i : Int) z c d x y) (fun k => ?_) hend)
        · simp only [crossroadsref02_Place.l1]
          rw [if_pos hbig, w64 (by omega), ← hy]
        · simp only [crossroadsref02_Place.l1]
          rw [if_neg (by omega)]
      · rw [if_neg hbig] at hy
        rw [← hy]
        refine Ev.step (f := fun k => crossroadsref02_Place.l2 k l (i : Int) z c d x y) (fun k => ?_) hend
        simp only [crossroadsref02_Place.l1]
        rw [if_neg (by omega)]
theorem rPlace_ev {l : List Int} (hb : Byts l) (hl : l.length < 1000000000) (a : Int) (ha : -9223372036854775808 ≤ a ∧ a ≤ 9223372036854775807) : Ev (fun k => crossroadsref02_Place.f k l a) (place l a) := by
  unfold crossroadsref02_Place.f place
  have hw : wrap64 ((l.length : Int) - 2) = (l.length : Int) - 2 := w64 (by omega)
  rw [hw]
  have hno : Ev (fun k => crossroadsref02_Place.j0 k l a true) ([], 1) := Ev.done fun k => by simp [crossroadsref02_Place.j0]
  by_cases h1 : a < 0
  · rw [if_pos (.inl h1)]; simp only [h1, if_true]; exact hno
  · by_cases h2 : a > (l.length : Int) - 2
    · rw [if_pos (.inr (.inl h2))]; simp only [h1, h2, if_true, if_false]; exact hno
    · by_cases h3 : l.length > 4000
      · rw [if_pos (.inr (.inr h3))]
        simp only [h1, h2, if_false, show decide ((l.length : Int) > 4000) = true from decide_eq_true (by omega)]
        exact hno
      · rw [if_neg (by omega)]
        simp only [h1, h2, if_false, show decide ((l.length : Int) > 4000) = false from decide_eq_false (by omega)]
        obtain ⟨i, rfl⟩ := Int.eq_ofNat_of_zero_le (show 0 ≤ a by omega)
        have hi : i + 1 < l.length := by omega
        have hw1 : wrap64 ((i : Int) + 1) = ((i + 1 : Nat) : Int) := by rw [w64 (by omega)]; omega
        have hz := set2_length l i 0 0
        have hbz : Byts (set2 l i 0 0) := byts_set2 hb i (by omega) (by omega)
        refine Ev.step (f := fun k => (crossroadsref02_Pair.f k (set2 l i 0 0)).bind fun bt145 => (crossroadsref02_Place.l0 k l (i : Int) (set2 l i 0 0) bt145.1 bt145.2 1)) (fun k => ?_) ?_
        · simp only [crossroadsref02_Place.j0]
          rw [if_neg (by simp)]
          simp only [Option.bind_some, List.nil_append, List.length_nil]
          rw [if_pos (by omega), if_pos (by omega), if_pos (by omega), hw1, if_pos (by omega), if_pos (by omega)]
          rfl
        · refine Ev.bind (f := fun k (bt145 : Int × Int) => crossroadsref02_Place.l0 k l (i : Int) (set2 l i 0 0) bt145.1 bt145.2 1) (rPair_ev hbz (by omega)) ?_
          have hr := res_range (((l.length : Int) - i - 1) * (S1 (set2 l i 0 0) % 255) - S2 (set2 l i 0 0) % 255)
          have := rPlace_l0 l (set2 l i 0 0) i (S1 (set2 l i 0 0) % 255) (S2 (set2 l i 0 0) % 255) (by omega) hi hz (by omega) (by omega) (res (((l.length : Int) - i - 1) * (S1 (set2 l i 0 0) % 255) - S2 (set2 l i 0 0) % 255) - 1).toNat 1 (by omega) (by omega)
          rw [set2_twice] at this
          exact this
theorem place_no {l : List Int} {a : Int} (h : a < 0 ∨ a > (l.length : Int) - 2 ∨ l.length > 4000) : place l a = ([], 1) := by unfold place; rw [if_pos h]
theorem place_yes {l : List Int} {a : Int} (h : ¬ (a < 0 ∨ a > (l.length : Int) - 2 ∨ l.length > 4000)) : ∃ (i : Nat) (x y : Int), a = i ∧ i + 1 < l.length ∧ (1 ≤ x ∧ x ≤ 255) ∧ (1 ≤ y ∧ y ≤ 255) ∧ place l a = (set2 l i x y, 0) ∧ fits (set2 l i x y) = true := by
  obtain ⟨i, rfl⟩ := Int.eq_ofNat_of_zero_le (show 0 ≤ a by omega)
  have hi : i + 1 < l.length := by omega
  obtain ⟨z0, z1⟩ := set2_zero l i hi
  have hf := place_fits (set2 l i 0 0) i (S1 (set2 l i 0 0) % 255) (S2 (set2 l i 0 0) % 255) (by rw [set2_length]; exact hi) z0 z1 (by omega) (by omega)
  rw [set2_length, set2_twice] at hf
  refine ⟨i, res (((l.length : Int) - i - 1) * (S1 (set2 l i 0 0) % 255) - S2 (set2 l i 0 0) % 255), res (S2 (set2 l i 0 0) % 255 - (((l.length : Int) - i - 1) + 1) * (S1 (set2 l i 0 0) % 255)), rfl, hi, res_range _, res_range _, ?_, ?_⟩
  · unfold place
    rw [if_neg h]
    rfl
  · unfold fits
    simp only [hf.1, hf.2, decide_true, Bool.and_self]
theorem SumTold_pure : crossroadslaw02_SumTold.Pure := by
  intro l _ _ hb
  refine Ev.rounds ?_
  have hb : Byts l := fun x hx => wf_u8 (hb x hx)
  unfold crossroadslaw02_SumTold.f
  by_cases h : (l.length : Int) > 2000
  · simp only [if_pos h]
    exact Ev.bind0 alive_ev rfl
  · simp only [if_neg h, Option.bind_some, List.length_nil, List.nil_append, show 0 + l.length < 140737488355328 by omega, if_true]
    rw [Pair_eq hb, Fits_eq hb]
    simp only [Option.bind_some]
    refine Ev.bind (rPair_ev hb (by omega)) ?_
    refine Ev.bind (rInternet_ev hb (by omega)) ?_
    refine Ev.bind alive_ev ?_
    simp only [if_true]
    refine Ev.bind (Internet_ev hb (by omega)) ?_
    simp only [if_true]
    refine Ev.bind (Holds_ev hb (by omega)) ?_
    simp only [beq_self_eq_true, if_true]
    exact Ev.bind0 (rFits_ev hb (by omega)) (by simp)
theorem SumPlace_pure : crossroadslaw02_SumPlace.Pure := by
  intro l a _ _ hb ha
  refine Ev.rounds ?_
  have hb : Byts l := fun x hx => wf_u8 (hb x hx)
  have ha := wf_i64 ha
  unfold crossroadslaw02_SumPlace.f
  by_cases h : (l.length : Int) > 2000
  · simp only [if_pos h]
    exact Ev.bind0 alive_ev rfl
  · simp only [if_neg h, Option.bind_some, List.length_nil, List.nil_append, show 0 + l.length < 140737488355328 by omega, if_true]
    refine Ev.bind (Place_ev hb (by omega) a ha) ?_
    refine Ev.bind (rPlace_ev hb (by omega) a ha) ?_
    exact Ev.bind0 alive_ev (by simp)
theorem SumFits_pure : crossroadslaw02_SumFits.Pure := by
  intro l a _ _ hb ha
  refine Ev.rounds ?_
  have hb : Byts l := fun x hx => wf_u8 (hb x hx)
  have ha := wf_i64 ha
  unfold crossroadslaw02_SumFits.f
  by_cases h : (l.length : Int) > 2000
  · simp only [if_pos h]
    exact Ev.bind0 alive_ev rfl
  · simp only [if_neg h]
    refine Ev.bind (Place_ev hb (by omega) a ha) ?_
    have hw : wrap64 ((l.length : Int) - 2) = (l.length : Int) - 2 := w64 (by omega)
    rw [hw]
    by_cases hp : a < 0 ∨ a > (l.length : Int) - 2 ∨ l.length > 4000
    · rw [place_no hp]
      refine Ev.bind0 alive_ev ?_
      by_cases h0 : a < 0
      · simp [h0]
      · simp [h0]; omega
    · obtain ⟨i, x, y, rfl, hi, hx, hy, e, hf⟩ := place_yes hp
      rw [e]
      have hlen := set2_length l i x y
      have hbz : Byts (set2 l i x y) := byts_set2 hb i (by omega) (by omega)
      have e1 : decide ((i : Int) > (l.length : Int) - 2) = false := decide_eq_false (by omega)
      simp only [if_true, hlen, show ¬ ((i : Int) < 0) by omega, if_false, e1]
      have hw1 : wrap64 ((i : Int) + 1) = ((i + 1 : Nat) : Int) := by rw [w64 (by omega)]; omega
      have hw2 : wrap64 ((i : Int) + 2) = ((i + 2 : Nat) : Int) := by rw [w64 (by omega)]; omega
      have t1 : (set2 l i x y).take i = l.take i := by
        unfold set2
        rw [List.take_set_of_le (by omega), List.take_set_of_le (by omega)]
      have t2 : (set2 l i x y).drop (i + 2) = l.drop (i + 2) := by
        unfold set2
        rw [List.drop_set_of_lt (by omega), List.drop_set_of_lt (by omega)]
      have r1 : rd (set2 l i x y) i = x := by unfold set2; rw [rd_set_ne _ _ _ _ (by omega), rd_set_self _ _ _ (by omega)]
      have r2 : rd (set2 l i x y) ((i + 1 : Nat) : Int) = y := by unfold set2; rw [rd_set_self _ _ _ (by simp; omega)]
      refine Ev.step (f := fun k => (crossroadslaw02_alive.f k).bind fun t181 => if t181 = true then some true else some false) (fun k => ?_) (Ev.bind0 alive_ev (by simp))
      simp only [crossroadslaw02_SumFits.j0]
      rw [if_neg (by simp), if_pos (by omega), if_pos (by omega), if_pos (by omega)]
      simp only [Int.toNat_natCast, t1, if_true, hw2]
      rw [if_pos (by omega), if_pos (by omega), if_pos (by omega)]
      congr 1
      funext t
      by_cases ht : t = true
      · rw [if_pos ht, if_pos ht, Fits_eq hbz, hf]
        simp only [Option.bind_some, if_true, t2]
        rw [if_pos (by omega), r1, if_neg (by omega), hw1, if_pos (by omega), if_pos (by omega), r2]
        simp
        omega
      · rw [if_neg ht, if_neg ht]
theorem even_append {a b : List Int} (ha : a.length % 2 = 0) : wsum true (a ++ b) = wsum true a + wsum true b := by rw [wsum_append, if_pos ha]
theorem SumParts_pure : crossroadslaw02_SumParts.Pure := by
  intro a b _ _ hba _ _ hbb
  refine Ev.rounds ?_
  have hba : Byts a := fun x hx => wf_u8 (hba x hx)
  have hbb : Byts b := fun x hx => wf_u8 (hbb x hx)
  have hdead : Ev (fun k => crossroadslaw02_SumParts.j0 k a b true) true := by
    refine Ev.step (f := fun k => (crossroadslaw02_alive.f k).bind fun t => (some t)) (fun k => ?_) (Ev.bind0 alive_ev rfl)
    simp only [crossroadslaw02_SumParts.j0]
    rw [if_pos trivial]
  unfold crossroadslaw02_SumParts.f
  by_cases h1 : (a.length : Int) > 1000
  · simp only [if_pos h1]; exact hdead
  by_cases h2 : (b.length : Int) > 1000
  · simp only [if_neg h1, if_pos h2]; exact hdead
  by_cases h3 : (a.length : Int) % 2 = 1
  · simp only [if_neg h1, if_neg h2, if_pos h3]; exact hdead
  by_cases h4 : (b.length : Int) % 2 = 1
  · simp only [if_neg h1, if_neg h2, if_neg h3, show ((b.length : Int) % 2 == 1) = true by rw [beq_iff_eq]; exact h4]; exact hdead
  simp only [if_neg h1, if_neg h2, if_neg h3, show ((b.length : Int) % 2 == 1) = false by rw [beq_eq_false_iff_ne]; exact h4]
  have hab : Byts (a ++ b) := by
    intro x hx
    rcases List.mem_append.1 hx with hx | hx
    · exact hba x hx
    · exact hbb x hx
  have hba' : Byts (b ++ a) := by
    intro x hx
    rcases List.mem_append.1 hx with hx | hx
    · exact hbb x hx
    · exact hba x hx
  have he : inet (b ++ a) = inet (a ++ b) := by
    unfold inet
    rw [even_append (by omega), even_append (by omega), Int.add_comm]
  have hr := inet_range (a ++ b)
  have hab2 : Byts ((a ++ b) ++ [inet (a ++ b) / 256 % 256, inet (a ++ b) % 256]) := by
    intro x hx
    rcases List.mem_append.1 hx with hx | hx
    · exact hab x hx
    · simp at hx; omega
  have hlen : ((a ++ b) ++ [inet (a ++ b) / 256 % 256, inet (a ++ b) % 256]).length < 1000000000 := by simp; omega
  have hz : inet ((a ++ b) ++ [inet (a ++ b) / 256 % 256, inet (a ++ b) % 256]) = 0 := by
    have hw0 := (wsum_range (a ++ b) hab true).1
    have hw : wsum true ((a ++ b) ++ [inet (a ++ b) / 256 % 256, inet (a ++ b) % 256]) = wsum true (a ++ b) + inet (a ++ b) := by
      rw [even_append (by simp; omega), wsum_two]
      simp only [wsum]
      omega
    rw [inet_zero _ (by rw [hw]; omega), hw]
    unfold inet oc
    split <;> omega
  refine Ev.step (f := fun k => (sum_Internet.f k (a ++ b)).bind fun t207 => ((some (([(t207 / 256) % 256, (t207) % 256] : List Int) : List Int)).bind fun y208 => (if (a ++ b).length + y208.length < 140737488355328 then ((crossroadslaw02_alive.f k).bind fun t214 => (if t214 = true then ((sum_Internet.f k (b ++ a)).bind fun t215 => (if t207 = t215 then (if t207 ≥ 0 then (if t207 ≤ 65535 then ((sum_Holds.f k ((a ++ b) ++ y208)).bind fun t216 => (some t216)) else (some false)) else (some false)) else (some false))) else (some false))) else (none)))) (fun k => ?_) ?_
  · simp only [crossroadslaw02_SumParts.j0]
    rw [if_neg (by simp)]
    simp only [Option.bind_some, List.nil_append, List.length_nil]
    rw [if_pos (by omega), if_pos (by omega), if_pos (by omega), if_pos (by omega)]
  · refine Ev.bind (Internet_ev hab (by simp; omega)) ?_
    simp only [Option.bind_some]
    simp only [show (a ++ b).length + [inet (a ++ b) / 256 % 256, inet (a ++ b) % 256].length < 140737488355328 by simp; omega, if_true]
    refine Ev.bind alive_ev ?_
    simp only [if_true]
    refine Ev.bind (Internet_ev hba' (by simp; omega)) ?_
    rw [he]
    simp only [if_true, show inet (a ++ b) ≥ 0 from hr.1, hr.2]
    refine Ev.bind0 (Holds_ev hab2 hlen) ?_
    rw [hz]
    rfl
theorem spoilt_eq (l : List Int) (i : Nat) (c : Int) (hl : l.length < 1000000000) (hi : i < l.length) : crossroadslaw02_spoilt.f l (i : Int) c = some (l.set i c) := by
  unfold crossroadslaw02_spoilt.f
  simp only [Option.bind_some, List.nil_append, List.length_nil, Int.toNat_natCast]
  rw [if_pos (by omega), if_pos (by omega), if_pos (by omega)]
theorem xor_255 (a b : Int) (ha : 0 ≤ a ∧ a ≤ 255) (h : (a = 0 ∧ b = 255) ∨ (a = 255 ∧ b = 0)) : Go.bits .xor .u8 a b = 255 := by
  rcases h with ⟨rfl, rfl⟩ | ⟨rfl, rfl⟩ <;> decide
theorem spoilt_fits (l : List Int) (i : Nat) (c : Int) (hi : i < l.length) (hb : Byts l) (hc : 0 ≤ c ∧ c ≤ 255) (h1 : fits l = true) (h2 : fits (l.set i c) = true) : rd l i = c ∨ (Go.bits .xor .u8 (rd l i) c = 255 ∧ (c = 0 ∨ c = 255)) := by
  have hm := hb _ (rd_mem l i (by omega) (by omega))
  unfold fits at h1 h2
  simp only [Bool.and_eq_true, decide_eq_true_eq] at h1 h2
  rw [S1_set l i c hi] at h2
  have h3 := h1.1
  have h4 := h2.1
  by_cases e : rd l i = c
  · exact .inl e
  · refine .inr ⟨xor_255 _ _ hm ?_, ?_⟩ <;> omega
theorem spoilt_holds (l : List Int) (i : Nat) (c : Int) (hi : i < l.length) (hb : Byts l) (hc : 0 ≤ c ∧ c ≤ 255) (h1 : inet l = 0) (h2 : inet (l.set i c) = 0) : rd l i = c := by
  have hm := hb _ (rd_mem l i (by omega) (by omega))
  have hbc := byts_set hb i c hc
  rw [inet_zero _ (wsum_range _ hb true).1] at h1
  rw [inet_zero _ (wsum_range _ hbc true).1] at h2
  obtain ⟨q, hq, e⟩ := wsum_set l i c true hi
  rw [e] at h2
  have h3 := h1.2
  have h4 := h2.2
  rcases hq with rfl | rfl <;> omega
theorem SumFound_pure : crossroadslaw02_SumFound.Pure := by
  intro l a c _ _ hb ha hc
  refine Ev.rounds ?_
  have hb : Byts l := fun x hx => wf_u8 (hb x hx)
  have ha := wf_i64 ha
  have hc := wf_u8 hc
  have hdead : Ev (fun k => crossroadslaw02_SumFound.j0 k l a c true) true := by
    refine Ev.step (f := fun k => (crossroadslaw02_alive.f k).bind fun t => (some t)) (fun k => ?_) (Ev.bind0 alive_ev rfl)
    simp only [crossroadslaw02_SumFound.j0]
    rw [if_pos trivial]
  unfold crossroadslaw02_SumFound.f
  by_cases h1 : (l.length : Int) > 2000
  · simp only [if_pos h1]; exact hdead
  by_cases h2 : (l.length : Int) < 2
  · simp only [if_neg h1, if_pos h2]; exact hdead
  by_cases h3 : a < 0
  · simp only [if_neg h1, if_neg h2, if_pos h3]; exact hdead
  by_cases h4 : a ≥ (l.length : Int)
  · simp only [if_neg h1, if_neg h2, if_neg h3, decide_eq_true h4]; exact hdead
  simp only [if_neg h1, if_neg h2, if_neg h3, decide_eq_false h4]
  obtain ⟨i, rfl⟩ := Int.eq_ofNat_of_zero_le (show 0 ≤ a by omega)
  have hi : i < l.length := by omega
  obtain ⟨i0, x, y, h0i, hi0, hx, hy, e, hf⟩ := place_yes (l := l) (a := 0) (by omega)
  obtain rfl : i0 = 0 := by omega
  have hbx : Byts (set2 l 0 x y) := byts_set2 hb 0 (by omega) (by omega)
  have hlx := set2_length l 0 x y
  have hb0 : Byts (set2 l 0 0 0) := byts_set2 hb 0 (by omega) (by omega)
  have hl0 := set2_length l 0 0 0
  have hn := inet_range (set2 l 0 0 0)
  obtain ⟨n, hnn⟩ : ∃ n, n = inet (set2 l 0 0 0) := ⟨_, rfl⟩
  rw [← hnn] at hn
  obtain ⟨z, hz⟩ : ∃ z, z = set2 l 0 (n / 256 % 256) (n % 256) := ⟨_, rfl⟩
  have hbz : Byts z := by rw [hz]; exact byts_set2 hb 0 (by omega) (by omega)
  have hlz : z.length = l.length := by rw [hz, set2_length]
  have hzz : inet z = 0 := by
    have hw0 := (wsum_range _ hb0 true).1
    match l, hi0 with
    | p :: q :: m, _ =>
      have e1 : set2 (p :: q :: m) 0 0 0 = 0 :: 0 :: m := rfl
      have e2 : z = n / 256 % 256 :: n % 256 :: m := by rw [hz]; rfl
      rw [e1] at hw0 hnn
      have hw : wsum true z = wsum true (0 :: 0 :: m) + n := by rw [e2, wsum_two, wsum_two]; omega
      rw [inet_zero _ (by rw [hw]; omega), hw]
      unfold inet oc at hnn
      split at hnn <;> omega
  -- the last two ways
  have hj4 : Ev (fun k => crossroadslaw02_SumFound.j4 k (i : Int) c z true) true := by
    refine Ev.step (f := fun k => (sum_Holds.f k (z.set i c)).bind fun t271 => (if t271 = true then (if 0 ≤ (i : Int) then (if (i : Int) < (z.length : Int) then (if (rd z (i : Int)) = c then ((crossroadslaw02_alive.f k).bind fun t273 => (if t273 = true then (if true = true then (some true) else (some false)) else (some false))) else ((sum_Holds.f k z).bind fun t274 => ((crossroadslaw02_alive.f k).bind fun t275 => (if t275 = true then (if true = true then (some (!t274)) else (some false)) else (some false))))) else (none)) else (none)) else ((crossroadslaw02_alive.f k).bind fun t276 => (if t276 = true then (if true = true then (some true) else (some false)) else (some false))))) (fun k => ?_) ?_
    · simp only [crossroadslaw02_SumFound.j4]
      rw [spoilt_eq z i c (by omega) (by omega)]
      rfl
    · refine Ev.bind (Holds_ev (byts_set hbz i c hc) (by simp; omega)) ?_
      by_cases hh : inet (z.set i c) = 0
      · have := spoilt_holds z i c (by omega) hbz hc hzz hh
        simp only [hh, beq_self_eq_true, if_true, show 0 ≤ (i : Int) by omega, show (i : Int) < (z.length : Int) by omega, this]
        exact Ev.bind0 alive_ev rfl
      · simp only [show (inet (z.set i c) == 0) = false by rw [beq_eq_false_iff_ne]; exact hh]
        exact Ev.bind0 alive_ev rfl
  have hj3 : Ev (fun k => crossroadslaw02_SumFound.j3 k (i : Int) c (set2 l 0 x y) z false) true := by
    refine Ev.step (f := fun k => crossroadslaw02_SumFound.j4 k (i : Int) c z true) (fun k => ?_) hj4
    simp only [crossroadslaw02_SumFound.j3]
    rw [if_neg (by simp), spoilt_eq _ i c (by omega) (by omega)]
    simp only [Option.bind_some]
    rw [Fits_eq (byts_set hbx i c hc)]
    simp only [Option.bind_some]
    by_cases hh : fits ((set2 l 0 x y).set i c) = true
    · rw [if_pos hh, if_pos (by omega), if_pos (by omega)]
      rcases spoilt_fits _ i c (by omega) hbx hc hf hh with e | ⟨e, e0⟩
      · rw [if_pos e]
      · by_cases e2 : rd (set2 l 0 x y) (i : Int) = c
        · rw [if_pos e2]
        · rw [if_neg e2, if_pos e]
          rcases e0 with e0 | e0
          · rw [if_pos e0]
          · rw [if_neg (by omega), e0]
            rfl
    · rw [if_neg hh]
  have hj2 : Ev (fun k => crossroadslaw02_SumFound.j2 k (i : Int) c (set2 l 0 x y) (set2 l 0 0 0) n false) true := by
    refine Ev.step (f := fun k => (sum_Holds.f k z).bind fun t261 => (if t261 = true then (crossroadslaw02_SumFound.j3 k (i : Int) c (set2 l 0 x y) z false) else (crossroadslaw02_SumFound.j3 k (i : Int) c (set2 l 0 x y) z ((((set2 l 0 0 0).length : Int) % 2) == 0)))) (fun k => ?_) ?_
    · simp only [crossroadslaw02_SumFound.j2]
      rw [if_neg (by simp), if_pos (by omega), if_pos (by omega)]
      simp only [Option.bind_some]
      rw [Int.tdiv_eq_ediv_of_nonneg hn.1, Int.tmod_eq_emod_of_nonneg hn.1, w64 (by omega)]
      have e1 : ((set2 l 0 0 0).set (0 : Int).toNat (n / 256 % 256)).set (1 : Int).toNat (n % 256 % 256) = z := by
        rw [show n % 256 % 256 = n % 256 by omega, hz]
        exact set2_twice l 0 0 0 (n / 256 % 256) (n % 256)
      rw [e1]
    · refine Ev.bind (Holds_ev hbz (by omega)) ?_
      simp only [hzz, beq_self_eq_true, if_true]
      exact hj3
  have hj1 : Ev (fun k => crossroadslaw02_SumFound.j1 k l (i : Int) c (set2 l 0 x y) false) true := by
    refine Ev.step (f := fun k => (sum_Internet.f k (set2 l 0 0 0)).bind fun t258 => (if t258 < 0 then (crossroadslaw02_SumFound.j2 k (i : Int) c (set2 l 0 x y) (set2 l 0 0 0) t258 true) else (crossroadslaw02_SumFound.j2 k (i : Int) c (set2 l 0 x y) (set2 l 0 0 0) t258 (decide (t258 > 65535))))) (fun k => ?_) ?_
    · simp only [crossroadslaw02_SumFound.j1]
      rw [if_neg (by simp)]
      simp only [Option.bind_some, List.nil_append, List.length_nil]
      rw [if_pos (by omega), if_pos (by omega), if_pos (by omega)]
      rfl
    · refine Ev.bind (Internet_ev hb0 (by omega)) ?_
      rw [← hnn]
      simp only [show ¬ n < 0 by omega, if_false, show decide (n > 65535) = false from decide_eq_false (by omega)]
      exact hj2
  refine Ev.step (f := fun k => (sum_Place.f k l 0).bind fun bt246 => (if bt246.2 = 0 then (crossroadslaw02_SumFound.j1 k l (i : Int) c bt246.1 ((bt246.1.length : Int) != (l.length : Int))) else (crossroadslaw02_SumFound.j1 k l (i : Int) c bt246.1 true))) (fun k => ?_) ?_
  · simp only [crossroadslaw02_SumFound.j0]
    rw [if_neg (by simp)]
  · refine Ev.bind (Place_ev hb (by omega) 0 (by omega)) ?_
    rw [e]
    simp only [if_true, hlx, bne_self_eq_false]
    exact hj1
end Go.Proofs.Ytdclgppcemjcdaa.PSum
