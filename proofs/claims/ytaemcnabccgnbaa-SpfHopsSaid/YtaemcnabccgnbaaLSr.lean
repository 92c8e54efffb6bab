/- Graphs: the laws of the distances: the other way round, and shortest. -/
import Derived.Test.YtaemcnabccgnbaaLSt5
set_option maxRecDepth 100000
set_option linter.unusedVariables false
set_option linter.unusedSimpArgs false
open Go Go.Proofs.Fr
namespace Go.Proofs.Ytaemcnabccgnbaa.F
theorem may_of_okg {N : Nat} {es : List Eg} (h : OKg N es) : mayB ((N : Int), es, ()) = true := by
  unfold mayB
  have h1 := h.pos
  have h2 := h.most
  have h3 := h.len
  rw [decide_eq_true (show 1 ≤ (N : Int) ∧ (N : Int) ≤ 64 ∧ es.length ≤ 400 by omega), Bool.true_and, List.all_eq_true]
  intro x hx
  exact eOk_true (h.edge x hx)
theorem reverseG (g : Gr) (a b : Int) : law05_SpfReverse.p (g, a, b, ()) = some (true, ()) := by
  unfold law05_SpfReverse.p
  simp only [jn_eq, aliveG, bind_eq]
  by_cases h : (g.2.1.length : Int) > 410
  · simp only [h, decide_true, if_true]
  · have hl : g.2.1.length ≤ 100000 := by omega
    simp only [h, decide_false, Bool.false_eq_true, if_false, may_eq g hl, bind_eq]
    cases hm : mayB g with
    | false => simp only [Bool.not_false, if_true]
    | true =>
      simp only [Bool.not_true, Bool.false_eq_true, if_false]
      by_cases a1 : a < 0
      · simp only [a1, decide_true, if_true]
      · by_cases a2 : a ≥ g.1
        · simp only [a1, a2, decide_true, decide_false, Bool.false_eq_true, if_true, if_false]
        · by_cases b1 : b < 0
          · simp only [a1, a2, b1, decide_true, decide_false, Bool.false_eq_true, if_true, if_false]
          · by_cases b2 : b ≥ g.1
            · simp only [a1, a2, b1, b2, decide_true, decide_false, Bool.false_eq_true, if_true, if_false]
            · simp only [a1, a2, b1, b2, decide_false, Bool.false_eq_true, if_false]
              obtain ⟨ho, hN⟩ := okg_of_may hm
              obtain ⟨N0, es, _⟩ := g
              simp only at hN ho hm hl a2 b2 ⊢
              obtain ⟨N, hNe⟩ : ∃ N, N = N0.toNat := ⟨_, rfl⟩
              rw [← hNe] at hN ho
              subst hN
              obtain ⟨n, rfl⟩ : ∃ n : Nat, a = (n : Int) := Int.eq_ofNat_of_zero_le (by omega)
              obtain ⟨m, rfl⟩ : ∃ m : Nat, b = (m : Int) := Int.eq_ofNat_of_zero_le (by omega)
              have hn : n < N := by omega
              have hmN : m < N := by omega
              obtain ⟨d, d1, d2⟩ := dist_ex ho hm hn
              obtain ⟨c, c1, c2⟩ := dist_ex (okg_rev ho) (may_of_okg (okg_rev ho)) hmN
              have hr := reverse_eq ((N : Int), es, ()) hl
              simp only at hr
              have hd := d2.len
              have hc := c2.len
              rw [d1]
              simp only [bind_eq]
              rw [hr]
              simp only [bind_eq]
              rw [c1]
              have e1 : (m : Int) < (d.length : Int) := by omega
              have e2 : (n : Int) < (c.length : Int) := by omega
              have e3 := sd_rev ho hn hmN d2 c2
              simp only [bind_eq, if_true, decide_true, e1, e2, Int.toNat_natCast, e3]
              rw [if_pos ⟨Int.natCast_nonneg _, trivial⟩, if_pos ⟨Int.natCast_nonneg _, trivial⟩]
theorem reverseGW {P : Program} {x : dens (List.map K.v [(.cons (.int .i64) (.cons (.sl 44 (.cons (.int .i64) (.cons (.int .i64) (.cons (.int .i64) .nil)))) .nil)), (.int .i64), (.int .i64)])} (h : WfA P [(.cons (.int .i64) (.cons (.sl 44 (.cons (.int .i64) (.cons (.int .i64) (.cons (.int .i64) .nil)))) .nil)), (.int .i64), (.int .i64)] x) : ∃ y, law05_SpfReverse.p x = some y ∧ y.1 = true :=
  ⟨_, reverseG x.1 x.2.1 x.2.2.1, rfl⟩
theorem shortestG (g : Gr) (r : Int) : law05_SpfShortest.p (g, r, ()) = some (true, ()) := by
  unfold law05_SpfShortest.p
  simp only [jn_eq, aliveG, bind_eq]
  by_cases h : (g.2.1.length : Int) > 410
  · simp only [h, decide_true, if_true]
  · have hl : g.2.1.length ≤ 100000 := by omega
    simp only [h, decide_false, Bool.false_eq_true, if_false]
    by_cases hc : mayB g = true ∧ 0 ≤ r ∧ r < g.1
    · obtain ⟨hm, hr0, hr1⟩ := hc
      obtain ⟨ho, hN⟩ := okg_of_may hm
      obtain ⟨N0, es, _⟩ := g
      simp only at hN ho hm hl hr1 ⊢
      obtain ⟨N, hNe⟩ : ∃ N, N = N0.toNat := ⟨_, rfl⟩
      rw [← hNe] at hN ho
      subst hN
      obtain ⟨n, rfl⟩ : ∃ n : Nat, r = (n : Int) := Int.eq_ofNat_of_zero_le hr0
      have hn : n < N := by omega
      obtain ⟨d, d1, d2⟩ := dist_ex ho hm hn
      have hd := d2.len
      have hlen := ho.len
      have hmost := ho.most
      have e1 : (d.length : Int) = (N : Int) := by omega
      have e2 : ¬ ((n : Int) < 0) := by omega
      have e3 : ¬ ((n : Int) ≥ (N : Int)) := by omega
      have e4 : 0 ≤ (n : Int) ∧ (n : Int) < (N : Int) := by omega
      rw [d1]
      simp only [bind_eq, decide_true, Bool.not_true, Bool.false_eq_true, if_false, e1, e2, e3, decide_false]
      rw [if_pos ⟨Int.natCast_nonneg _, Int.ofNat_lt.2 hn⟩]
      simp only [Int.toNat_natCast, d2.root, decide_true, Bool.not_true, Bool.false_eq_true, if_false]
      rw [may_eq ((N : Int), es, ()) hl, hm]
      simp only [bind_eq, Bool.not_true, Bool.false_eq_true, if_false]
      refine iterK_fix (F := fun _ => some (true, ())) (m := fun x => es.length - x.1.toNat) (I := fun x => ∃ i : Nat, x = ((i : Int), ()) ∧ i ≤ es.length) ?_ _ _ ⟨0, rfl, by omega⟩ (by simp only [Int.toNat_zero]; omega)
      rintro x k1 ⟨i, rfl, hi⟩ ih
      simp only [Int.toNat_natCast]
      by_cases hil : i < es.length
      · have hil2 : (i : Int) < (es.length : Int) := Int.ofNat_lt.2 hil
        have hmem : rdZ zE es i ∈ es := rdZ_mem zE es i hil
        have he := ho.edge _ hmem
        simp only [hil2, decide_true, if_true]
        rw [if_pos ⟨Int.natCast_nonneg _, trivial⟩, if_pos ⟨he.1, he.2.1⟩, w64 (x := (i : Int) + 1) (by omega)]
        have hnext := ih ((i : Int) + 1, ()) ⟨i + 1, rfl, hil⟩ (by simp only; omega)
        by_cases c1 : rd d (rdZ zE es i).1.toNat < 1099511627776
        · have hb := sd_bound ho hn d2 (ho.fr hmem) c1
          have hp := sd_pos ho hn d2 (ho.fr hmem)
          have hcl := d2.cl _ hmem c1
          have hw : IntKind.i64.wrap (rd d (rdZ zE es i).1.toNat + (rdZ zE es i).2.2.1) = rd d (rdZ zE es i).1.toNat + (rdZ zE es i).2.2.1 := w64 (by omega)
          have c2 : ¬ rd d (rdZ zE es i).2.1.toNat > rd d (rdZ zE es i).1.toNat + (rdZ zE es i).2.2.1 := by omega
          simp only [c1, decide_true, if_true]
          rw [if_pos ⟨he.2.2.1, he.2.2.2.1⟩, if_pos ⟨he.1, he.2.1⟩]
          simp only [hw, c2, decide_false, Bool.false_eq_true, if_false]
          exact hnext
        · simp only [c1, decide_false, Bool.false_eq_true, if_false]
          exact hnext
      · have hil2 : ¬ (i : Int) < (es.length : Int) := fun h => hil (Int.ofNat_lt.1 h)
        simp only [hil2, decide_false, Bool.false_eq_true, if_false]
        refine iterK_fix (F := fun _ => some (true, ())) (m := fun x => N - x.1.toNat) (I := fun x => ∃ v : Nat, x = ((v : Int), ()) ∧ v ≤ N) ?_ _ _ ⟨0, rfl, by omega⟩ (by simp only [Int.toNat_zero]; omega)
        rintro x k2 ⟨v, rfl, hv⟩ ih2
        simp only [Int.toNat_natCast]
        by_cases hvn : v < N
        · have hvn2 : (v : Int) < (N : Int) := Int.ofNat_lt.2 hvn
          have hle := d2.le v hvn
          have hpo := sd_pos ho hn d2 hvn
          have hnext := ih2 ((v : Int) + 1, ()) ⟨v + 1, rfl, hvn⟩ (by simp only; omega)
          simp only [hvn2, decide_true, if_true]
          rw [w64 (x := (v : Int) + 1) (by omega)]
          have key : ∀ had : Bool, (had = true ∨ ∃ x ∈ es, x.2.1.toNat = v ∧ rd d x.1.toNat < 1099511627776 ∧ rd d x.1.toNat + x.2.2.1 = rd d v) → ∀ (b : (Bool × Int × Unit) → ((Bool × Int × Unit) → Option (Bool × Unit)) → Option (Bool × Unit)),
              (∀ (had : Bool) (j : Nat) r, j ≤ es.length → b (had, (j : Int), ()) r = if j < es.length then r (had || (decide ((rdZ zE es j).2.1 = (v : Int)) && (decide (rd d (rdZ zE es j).1.toNat < 1099511627776) && decide (rd d (rdZ zE es j).1.toNat + (rdZ zE es j).2.2.1 = rd d v))), ((j + 1 : Nat) : Int), ()) else if had = true then some (true, ()) else some (false, ())) → iterK 4611686018427387904 b (had, 0, ()) = some (true, ()) := by
            intro had hh b hb
            refine iterK_fix (F := fun _ => some (true, ())) (m := fun x => es.length - x.2.1.toNat) (I := fun x => ∃ j : Nat, x.2.1 = (j : Int) ∧ j ≤ es.length ∧ (x.1 = true ∨ ∃ i, j ≤ i ∧ i < es.length ∧ (rdZ zE es i).2.1.toNat = v ∧ rd d (rdZ zE es i).1.toNat < 1099511627776 ∧ rd d (rdZ zE es i).1.toNat + (rdZ zE es i).2.2.1 = rd d v)) ?_ _ _ ⟨0, rfl, by omega, ?_⟩ (by simp only [Int.toNat_zero]; omega)
            · rintro ⟨had, j0, _⟩ r ⟨j, hj, hjl, hI⟩ ih3
              simp only at hj hI
              subst hj
              rw [hb had j r hjl]
              by_cases hjn : j < es.length
              · rw [if_pos hjn]
                refine ih3 _ ⟨j + 1, rfl, hjn, ?_⟩ (by simp only; omega)
                simp only
                rcases hI with hI | ⟨i, h1, h2, h3, h4, h5⟩
                · left; rw [hI]; rfl
                · by_cases e : i = j
                  · subst e
                    left
                    have he := ho.edge _ (rdZ_mem zE es i h2)
                    rw [decide_eq_true (show (rdZ zE es i).2.1 = (v : Int) by omega), decide_eq_true h4, decide_eq_true h5]
                    simp
                  · right
                    exact ⟨i, by omega, h2, h3, h4, h5⟩
              · rw [if_neg hjn]
                rcases hI with hI | ⟨i, h1, h2, _⟩
                · rw [if_pos hI]
                · omega
            · rcases hh with hh | ⟨x, hx, h1, h2, h3⟩
              · exact .inl hh
              · obtain ⟨i, hi, rfl⟩ := List.getElem_of_mem hx
                refine .inr ⟨i, by omega, hi, ?_⟩
                rw [rdZ_get zE es i hi]
                exact ⟨h1, h2, h3⟩
          by_cases hvr : (v : Int) = (n : Int)
          · rw [if_pos (decide_eq_true hvr)]
            refine key true (.inl rfl) _ ?_
            intro had j r hj
            simp only [Int.toNat_natCast]
            by_cases hjn : j < es.length
            · have hjn2 : (j : Int) < (es.length : Int) := Int.ofNat_lt.2 hjn
              have hmem : rdZ zE es j ∈ es := rdZ_mem zE es j hjn
              have he := ho.edge _ hmem
              have hcast : ((j + 1 : Nat) : Int) = (j : Int) + 1 := by omega
              simp only [hjn2, decide_true, if_true]
              rw [if_pos hjn, if_pos ⟨Int.natCast_nonneg _, trivial⟩, w64 (x := (j : Int) + 1) (by omega), hcast]
              cases had with
              | true => simp only [if_true, Bool.true_or]
              | false =>
                simp only [Bool.false_eq_true, if_false, Bool.false_or]
                by_cases q1 : (rdZ zE es j).2.1 = (v : Int)
                · simp only [q1, decide_true, if_true, Bool.true_and]
                  rw [if_pos ⟨he.1, he.2.1⟩]
                  by_cases q2 : rd d (rdZ zE es j).1.toNat < 1099511627776
                  · have hb := sd_bound ho hn d2 (ho.fr hmem) q2
                    have hp := sd_pos ho hn d2 (ho.fr hmem)
                    have hw : IntKind.i64.wrap (rd d (rdZ zE es j).1.toNat + (rdZ zE es j).2.2.1) = rd d (rdZ zE es j).1.toNat + (rdZ zE es j).2.2.1 := w64 (by omega)
                    simp only [q2, decide_true, if_true, Bool.true_and]
                    rw [if_pos ⟨he.1, he.2.1⟩, if_pos ⟨Int.natCast_nonneg _, trivial⟩]
                    simp only [hw]
                  · simp only [q2, decide_false, Bool.false_eq_true, if_false, Bool.false_and]
                · simp only [q1, decide_false, Bool.false_eq_true, if_false, Bool.false_and]
            · have hjn2 : ¬ (j : Int) < (es.length : Int) := fun h => hjn (Int.ofNat_lt.1 h)
              simp only [hjn2, decide_false, Bool.false_eq_true, if_false]
              rw [if_neg hjn]
              cases had with
              | false => simp only [Bool.not_false, if_true, Bool.false_eq_true, if_false]
              | true =>
                have g1 : ¬ rd d v < 0 := by omega
                have g2 : ¬ rd d v > 1099511627776 := by omega
                simp only [Bool.not_true, Bool.false_eq_true, if_false, if_true]
                rw [if_pos ⟨Int.natCast_nonneg _, trivial⟩]
                simp only [g1, decide_false, Bool.false_eq_true, if_false]
                rw [if_pos ⟨Int.natCast_nonneg _, trivial⟩]
                simp only [g2, decide_false, Bool.false_eq_true, if_false]
                exact hnext
          · rw [if_neg (by simp only [decide_eq_true_eq]; exact hvr), if_pos ⟨Int.natCast_nonneg _, trivial⟩]
            refine key _ ?_ _ ?_
            · by_cases hi : rd d v = 1099511627776
              · exact .inl (decide_eq_true hi)
              · rcases sd_last ho hn d2 hvn (by omega) with e | e
                · exact absurd (by omega) hvr
                · exact .inr e
            intro had j r hj
            simp only [Int.toNat_natCast]
            by_cases hjn : j < es.length
            · have hjn2 : (j : Int) < (es.length : Int) := Int.ofNat_lt.2 hjn
              have hmem : rdZ zE es j ∈ es := rdZ_mem zE es j hjn
              have he := ho.edge _ hmem
              have hcast : ((j + 1 : Nat) : Int) = (j : Int) + 1 := by omega
              simp only [hjn2, decide_true, if_true]
              rw [if_pos hjn, if_pos ⟨Int.natCast_nonneg _, trivial⟩, w64 (x := (j : Int) + 1) (by omega), hcast]
              cases had with
              | true => simp only [if_true, Bool.true_or]
              | false =>
                simp only [Bool.false_eq_true, if_false, Bool.false_or]
                by_cases q1 : (rdZ zE es j).2.1 = (v : Int)
                · simp only [q1, decide_true, if_true, Bool.true_and]
                  rw [if_pos ⟨he.1, he.2.1⟩]
                  by_cases q2 : rd d (rdZ zE es j).1.toNat < 1099511627776
                  · have hb := sd_bound ho hn d2 (ho.fr hmem) q2
                    have hp := sd_pos ho hn d2 (ho.fr hmem)
                    have hw : IntKind.i64.wrap (rd d (rdZ zE es j).1.toNat + (rdZ zE es j).2.2.1) = rd d (rdZ zE es j).1.toNat + (rdZ zE es j).2.2.1 := w64 (by omega)
                    simp only [q2, decide_true, if_true, Bool.true_and]
                    rw [if_pos ⟨he.1, he.2.1⟩, if_pos ⟨Int.natCast_nonneg _, trivial⟩]
                    simp only [hw]
                  · simp only [q2, decide_false, Bool.false_eq_true, if_false, Bool.false_and]
                · simp only [q1, decide_false, Bool.false_eq_true, if_false, Bool.false_and]
            · have hjn2 : ¬ (j : Int) < (es.length : Int) := fun h => hjn (Int.ofNat_lt.1 h)
              simp only [hjn2, decide_false, Bool.false_eq_true, if_false]
              rw [if_neg hjn]
              cases had with
              | false => simp only [Bool.not_false, if_true, Bool.false_eq_true, if_false]
              | true =>
                have g1 : ¬ rd d v < 0 := by omega
                have g2 : ¬ rd d v > 1099511627776 := by omega
                simp only [Bool.not_true, Bool.false_eq_true, if_false, if_true]
                rw [if_pos ⟨Int.natCast_nonneg _, trivial⟩]
                simp only [g1, decide_false, Bool.false_eq_true, if_false]
                rw [if_pos ⟨Int.natCast_nonneg _, trivial⟩]
                simp only [g2, decide_false, Bool.false_eq_true, if_false]
                exact hnext
        · have hvn2 : ¬ (v : Int) < (N : Int) := fun h => hvn (Int.ofNat_lt.1 h)
          simp only [hvn2, decide_false, Bool.false_eq_true, if_false]
    · rw [dist_no g r hl hc]
      simp only [bind_eq, show ¬ ((1 : Int) = 0) by decide, decide_false, Bool.not_false, if_true, List.length_nil, decide_true, may_eq g hl, show ((0 : Nat) : Int) = 0 from rfl]
      by_cases h1 : mayB g = true
      · by_cases h2 : r < 0
        · simp only [h1, h2, Bool.not_true, Bool.false_eq_true, if_false, decide_true, if_true]
        · have h3 : r ≥ g.1 := by
            by_cases h3 : r < g.1
            · exact absurd ⟨h1, by omega, h3⟩ hc
            · omega
          simp only [h1, h2, h3, Bool.not_true, Bool.false_eq_true, if_false, decide_true, decide_false, if_true]
      · simp only [h1, Bool.not_false, if_true]
theorem shortestGW {P : Program} {x : dens (List.map K.v [(.cons (.int .i64) (.cons (.sl 44 (.cons (.int .i64) (.cons (.int .i64) (.cons (.int .i64) .nil)))) .nil)), (.int .i64)])} (h : WfA P [(.cons (.int .i64) (.cons (.sl 44 (.cons (.int .i64) (.cons (.int .i64) (.cons (.int .i64) .nil)))) .nil)), (.int .i64)] x) : ∃ y, law05_SpfShortest.p x = some y ∧ y.1 = true :=
  ⟨_, shortestG x.1 x.2.1, rfl⟩
end Go.Proofs.Ytaemcnabccgnbaa.F
