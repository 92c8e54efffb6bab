/- Graphs: the law of what is told. -/
import Derived.Test.YtaemcnabccgnbaaLSl
set_option maxRecDepth 100000
set_option linter.unusedVariables false
set_option linter.unusedSimpArgs false
open Go Go.Proofs.Fr
namespace Go.Proofs.Ytaemcnabccgnbaa.F
theorem ints_self (l : List Int) (hl : l.length ≤ 100000) : ref05_Ints.p (l, l, ()) = some (true, ()) := by
  unfold ref05_Ints.p
  simp only [jn_eq, decide_true, Bool.not_true, Bool.false_eq_true, if_false]
  refine iterK_fix (F := fun _ => some (true, ())) (m := fun x => l.length - x.1.toNat) (I := fun x => ∃ i : Nat, x = ((i : Int), ()) ∧ i ≤ l.length) ?_ _ _ ⟨0, rfl, by omega⟩ (by simp only [Int.toNat_zero]; omega)
  rintro x r ⟨i, rfl, hi⟩ ih
  simp only [Int.toNat_natCast]
  by_cases hil : i < l.length
  · have hil2 : (i : Int) < (l.length : Int) := Int.ofNat_lt.2 hil
    simp only [hil2, decide_true, if_true, Bool.not_true, Bool.false_eq_true, if_false]
    rw [if_pos ⟨Int.natCast_nonneg _, trivial⟩, if_pos ⟨Int.natCast_nonneg _, trivial⟩, w64 (x := (i : Int) + 1) (by omega)]
    exact ih _ ⟨i + 1, rfl, hil⟩ (by simp only; omega)
  · have hil2 : ¬ (i : Int) < (l.length : Int) := fun h => hil (Int.ofNat_lt.1 h)
    simp only [hil2, decide_false, Bool.false_eq_true, if_false]
theorem rows_self (h : List (List Int)) (hl : h.length ≤ 100000) (hr : ∀ v, v < h.length → (rw_ h v).length ≤ 100000) : law05_rows.p (h, h, ()) = some (true, ()) := by
  unfold law05_rows.p
  simp only [jn_eq, decide_true, Bool.not_true, Bool.false_eq_true, if_false]
  refine iterK_fix (F := fun _ => some (true, ())) (m := fun x => h.length - x.1.toNat) (I := fun x => ∃ i : Nat, x = ((i : Int), ()) ∧ i ≤ h.length) ?_ _ _ ⟨0, rfl, by omega⟩ (by simp only [Int.toNat_zero]; omega)
  rintro x r ⟨i, rfl, hi⟩ ih
  simp only [Int.toNat_natCast]
  by_cases hil : i < h.length
  · have hil2 : (i : Int) < (h.length : Int) := Int.ofNat_lt.2 hil
    simp only [hil2, decide_true, if_true, fold_rw, ints_self (rw_ h i) (hr i hil), bind_eq, Bool.not_true, Bool.false_eq_true, if_false]
    rw [if_pos ⟨Int.natCast_nonneg _, trivial⟩, if_pos ⟨Int.natCast_nonneg _, trivial⟩, w64 (x := (i : Int) + 1) (by omega)]
    exact ih _ ⟨i + 1, rfl, hil⟩ (by simp only; omega)
  · have hil2 : ¬ (i : Int) < (h.length : Int) := fun h' => hil (Int.ofNat_lt.1 h')
    simp only [hil2, decide_false, Bool.false_eq_true, if_false]
theorem toldG (g : Gr) (r : Int) : law05_SpfTold.p (g, r, ()) = some (true, ()) := by
  unfold law05_SpfTold.p
  simp only [jn_eq, aliveG, bind_eq, law05_plain.p, List.nil_append]
  by_cases h : (g.2.1.length : Int) > 410
  · simp only [h, decide_true, if_true]
  · have hl : g.2.1.length ≤ 100000 := by omega
    have eg : ((g.1, g.2.1, ()) : Gr) = g := rfl
    have hsame := sameG g hl
    have hmay := may_eq g hl
    have hrmay := rmay_eq g hl
    simp only [h, decide_false, Bool.false_eq_true, if_false, eg]
    rw [if_pos (by simp only [List.length_nil, maxBytes]; omega)]
    have key : ∃ (d : List Int) (e : Int) (hh : List (List Int)), spf_Dist.p (g, r, ()) = some (d, e, ()) ∧ ref05_Dist.p (g, r, ()) = some (d, e, ()) ∧ spf_Hops.p (g, r, ()) = some (hh, e, ()) ∧ ref05_Hops.p (g, r, ()) = some (hh, e, ()) ∧ d.length ≤ 100000 ∧ hh.length ≤ 100000 ∧ ∀ v, v < hh.length → (rw_ hh v).length ≤ 100000 := by
      by_cases hc : mayB g = true ∧ 0 ≤ r ∧ r < g.1
      · obtain ⟨hm, hr0, hr1⟩ := hc
        obtain ⟨ho, hN⟩ := okg_of_may hm
        obtain ⟨N0, es, _⟩ := g
        simp only at hN ho hm hl hr1 ⊢
        obtain ⟨N, hNe⟩ : ∃ N, N = N0.toNat := ⟨_, rfl⟩
        rw [← hNe] at hN ho
        subst hN
        obtain ⟨n, rfl⟩ : ∃ n : Nat, r = (n : Int) := Int.eq_ofNat_of_zero_le hr0
        have hn : n < N := by omega
        obtain ⟨d, d1, d2⟩ := dist_ex ho hm hn
        obtain ⟨d', d1', d2'⟩ := rdist_ex ho hm hn
        have e := sd_uniq ho hn d2 d2'
        subst e
        obtain ⟨hh, q1, q2⟩ := hops_ex ho hn d1 d2
        obtain ⟨hh', q1', q2'⟩ := rhops_ex ho hn d1' d2
        have e := ra_uniq ho q2 q2'
        subst e
        have hN := ho.most
        have hlen := ho.len
        have l1 := d2.len
        have l2 := q2.1.len
        exact ⟨d, 0, hh, d1, d1', q1, q1', by omega, by omega, fun v hv => by
          have := q2.1.short ho (v := v) (by omega)
          omega⟩
      · exact ⟨[], 1, [], dist_no g r hl hc, rdist_no g r hl hc, hops_no g r hl hc, rhops_no g r hl hc, by simp, by simp, fun v hv => absurd hv (Nat.not_lt_zero _)⟩
    obtain ⟨d, e, hh, k1, k2, k3, k4, k5, k6, k7⟩ := key
    rw [k1]
    simp only [bind_eq]
    rw [k2]
    simp only [bind_eq]
    rw [k3]
    simp only [bind_eq]
    rw [k4]
    simp only [bind_eq, if_true, ints_self d k5, decide_true, rows_self hh k6 k7, hmay, hrmay, hsame, beq_self_eq_true]
theorem toldGW {P : Program} {x : dens (List.map K.v [(.cons (.int .i64) (.cons (.sl 44 (.cons (.int .i64) (.cons (.int .i64) (.cons (.int .i64) .nil)))) .nil)), (.int .i64)])} (h : WfA P [(.cons (.int .i64) (.cons (.sl 44 (.cons (.int .i64) (.cons (.int .i64) (.cons (.int .i64) .nil)))) .nil)), (.int .i64)] x) : ∃ y, law05_SpfTold.p x = some y ∧ y.1 = true :=
  ⟨_, toldG x.1 x.2.1, rfl⟩
end Go.Proofs.Ytaemcnabccgnbaa.F
