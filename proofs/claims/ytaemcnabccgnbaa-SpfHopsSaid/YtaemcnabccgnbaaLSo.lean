/- Graphs: the law of the hops. -/
import Derived.Test.YtaemcnabccgnbaaLSn
set_option maxRecDepth 100000
set_option linter.unusedVariables false
set_option linter.unusedSimpArgs false
open Go Go.Proofs.Fr
namespace Go.Proofs.Ytaemcnabccgnbaa.F
theorem hopsG (g : Gr) (r : Int) : law05_SpfHops.p (g, r, ()) = some (true, ()) := by
  unfold law05_SpfHops.p
  simp only [jn_eq, aliveG, bind_eq]
  by_cases h : (g.2.1.length : Int) > 410
  · simp only [h, decide_true, if_true]
  · have hl : g.2.1.length ≤ 100000 := by omega
    simp only [h, decide_false, Bool.false_eq_true, if_false]
    by_cases hc : mayB g = true ∧ 0 ≤ r ∧ r < g.1
    · obtain ⟨hm, hr0, hr1⟩ := hc
      obtain ⟨ho, hN⟩ := okg_of_may hm
      obtain ⟨N0, es, _⟩ := g
      simp only at hN ho hm hl hr1 ⊢
      obtain ⟨N, hNe⟩ : ∃ N, N = N0.toNat := ⟨_, rfl⟩
      rw [← hNe] at hN ho
      subst hN
      obtain ⟨n, rfl⟩ : ∃ n : Nat, r = (n : Int) := Int.eq_ofNat_of_zero_le hr0
      have hn : n < N := by omega
      obtain ⟨d, d1, d2⟩ := dist_ex ho hm hn
      obtain ⟨hh, q1, q2⟩ := hops_ex ho hn d1 d2
      have hlen := ho.len
      have hmost := ho.most
      have l1 := d2.len
      have l2 := q2.1.len
      have e1 : (d.length : Int) = (N : Int) := by omega
      have e2 : (hh.length : Int) = (N : Int) := by omega
      rw [d1]
      simp only [bind_eq]
      rw [q1]
      simp only [bind_eq, decide_true, Bool.not_true, Bool.false_eq_true, if_false, e1, e2]
      refine iterK_fix (F := fun _ => some (true, ())) (m := fun x => N - x.1.toNat) (I := fun x => ∃ v : Nat, x = ((v : Int), ()) ∧ v ≤ N) ?_ _ _ ⟨0, rfl, by omega⟩ (by simp only [Int.toNat_zero]; omega)
      rintro x k1 ⟨v, rfl, hv⟩ ih
      simp only [Int.toNat_natCast]
      by_cases hvn : v < N
      · have hvn2 : (v : Int) < (N : Int) := Int.ofNat_lt.2 hvn
        have hnext := ih ((v : Int) + 1, ()) ⟨v + 1, rfl, hvn⟩ (by simp only; omega)
        have hrow : (0 < (rw_ hh v).length) ↔ (v ≠ n ∧ rd d v < 1099511627776) := by
          constructor
          · intro h0
            obtain ⟨i, _, hp⟩ := q2.1.so v hvn _ (List.getElem_mem h0)
            exact ⟨(hp_facts ho hp).1, hp_dist ho hn d2 hp⟩
          · rintro ⟨h1, h2⟩
            rcases hp_any ho hn d2 (d2.wk v hvn h2) rfl h2 with e | ⟨i, hp⟩
            · exact absurd e h1
            · exact List.length_pos_of_mem (q2.2 v i hp)
        simp only [hvn2, decide_true, if_true, fold_rw]
        rw [if_pos ⟨Int.natCast_nonneg _, trivial⟩, w64 (x := (v : Int) + 1) (by omega)]
        have inner : ∀ (b : (Int × Unit) → ((Int × Unit) → Option (Bool × Unit)) → Option (Bool × Unit)), (∀ (i : Nat) k, i ≤ (rw_ hh v).length → (∀ v', k ((i + 1 : Nat), v') = some (true, ()) ∨ ¬ i < (rw_ hh v).length) → b ((i : Int), ()) k = some (true, ())) → iterK 4611686018427387904 b (0, ()) = some (true, ()) := by
          intro b hb
          have hsh := q2.1.short ho hvn
          refine iterK_fix (F := fun _ => some (true, ())) (m := fun x => (rw_ hh v).length - x.1.toNat) (I := fun x => ∃ i : Nat, x = ((i : Int), ()) ∧ i ≤ (rw_ hh v).length) ?_ _ _ ⟨0, rfl, by omega⟩ (by simp only [Int.toNat_zero]; omega)
          rintro x k ⟨i, rfl, hi⟩ ih2
          refine hb i k hi fun _ => ?_
          by_cases hil : i < (rw_ hh v).length
          · exact .inl (ih2 _ ⟨i + 1, rfl, hil⟩ (by simp only; omega))
          · exact .inr hil
        have body : ∀ (i : Nat), i < (rw_ hh v).length → ∃ at_ : Nat, ∃ x far, rd (rw_ hh v) i = (at_ : Int) ∧ at_ < es.length ∧ rdZ zE es at_ = x ∧ x.1 = (n : Int) ∧ spf_Dist.p (((N : Int), es, ()), x.2.1, ()) = some (far, 0, ()) ∧ far.length = N ∧ IntKind.i64.wrap (x.2.2.1 + rd far v) = rd d v ∧ (0 < i → ¬ rd (rw_ hh v) i ≤ rd (rw_ hh v) (i - 1)) := by
          intro i hi
          have hy := rd_mem (rw_ hh v) i hi
          obtain ⟨at_, ea, hp⟩ := q2.1.so v hvn _ hy
          obtain ⟨_, _, hat⟩ := hp_facts ho hp
          have hmem : rdZ zE es at_ ∈ es := rdZ_mem zE es at_ hat
          have he := ho.edge _ hmem
          obtain ⟨t, ht⟩ : ∃ t : Nat, (rdZ zE es at_).2.1 = (t : Int) := Int.eq_ofNat_of_zero_le he.2.2.1
          obtain ⟨far, f1, f2⟩ := dist_ex ho hm (r := t) (by omega)
          obtain ⟨x, g1, g2, g3⟩ := hp_far (far := far) ho hn d2 hp
          have ex : rdZ zE es at_ = x := by
            rw [rdZ_get zE es at_ hat]
            rw [List.getElem?_eq_getElem hat] at g1
            exact Option.some.inj g1
          rw [ex] at ht he hmem
          have hx := g3 (by rw [ht, Int.toNat_natCast]; exact f2)
          have hdv := hp_dist ho hn d2 hp
          have hdp := sd_pos ho hn d2 hvn
          refine ⟨at_, x, far, ea, hat, ex, by omega, by rw [ht]; exact f1, f2.len, by rw [hx]; exact w64 (by omega), fun h0 => ?_⟩
          have hri := q2.1.ri v hvn
          have := List.pairwise_iff_getElem.1 hri (i - 1) i (by omega) hi (by omega)
          rw [rd_get _ i hi, rd_get _ (i - 1) (by omega)]
          omega
        have step : ∀ (b : (Int × Unit) → ((Int × Unit) → Option (Bool × Unit)) → Option (Bool × Unit)), (∀ (i : Nat) k, i ≤ (rw_ hh v).length → (k ((i : Int) + 1, ()) = some (true, ()) ∨ ¬ i < (rw_ hh v).length) → b ((i : Int), ()) k = some (true, ())) → iterK 4611686018427387904 b (0, ()) = some (true, ()) := fun b hb => inner b fun i k hi hk => hb i k hi (by
          have := hk ()
          have e : (((i + 1 : Nat) : Int), ()) = ((i : Int) + 1, ()) := by rw [show ((i + 1 : Nat) : Int) = (i : Int) + 1 by omega]
          rw [e] at this
          exact this)
        by_cases hvr : (v : Int) = (n : Int)
        · have h0 : ¬ ((rw_ hh v).length : Int) > 0 := by
            intro h0
            have := hrow.1 (by omega)
            exact this.1 (by omega)
          have hv1 : decide ((v : Int) = (n : Int)) = true := decide_eq_true hvr
          simp only [hv1, h0, decide_false, Bool.not_true, Bool.false_eq_true, if_false, beq_self_eq_true]
          refine step _ fun i k hi hk => ?_
          · skip
            simp only [hvn2, Int.toNat_natCast]
            rw [if_pos ⟨Int.natCast_nonneg _, trivial⟩]
            by_cases hil : i < (rw_ hh v).length
            · have hk' : k ((i : Int) + 1, ()) = some (true, ()) := hk.resolve_right fun h => h hil
              have hil2 : (i : Int) < ((rw_ hh v).length : Int) := Int.ofNat_lt.2 hil
              obtain ⟨at_, x, far, b1, b2, b3, b4, b5, b6, b7, b8⟩ := body i hil
              have hsh := q2.1.short ho hvn
              have a1 : ¬ (at_ : Int) < 0 := by omega
              have a2 : (at_ : Int) < (es.length : Int) := Int.ofNat_lt.2 b2
              have a3 : ¬ (at_ : Int) ≥ (es.length : Int) := by omega
              have a4 : 0 ≤ (at_ : Int) ∧ (at_ : Int) < (es.length : Int) := ⟨Int.natCast_nonneg _, a2⟩
              have a5 : (far.length : Int) = (N : Int) := by omega
              have a6 : ¬ (v : Int) ≥ (N : Int) := by omega
              have hw : IntKind.i64.wrap ((i : Int) + 1) = (i : Int) + 1 := w64 (by omega)
              have b5' : spf_Dist.p (((N : Int), es, ()), x.2.1, ()) = some (far, 0, ()) := b5
              simp only [hil2, decide_true, if_true, b1, Int.toNat_natCast, hw]
              rw [if_pos ⟨Int.natCast_nonneg _, trivial⟩, if_pos ⟨Int.natCast_nonneg _, trivial⟩]
              simp only [a1, a3, decide_false, Bool.false_eq_true, if_false, b3]
              rw [if_pos a4]
              simp only [b4, decide_true, Bool.not_true, Bool.false_eq_true, if_false]
              by_cases hi0 : (i : Int) > 0
              · have hv1 : IntKind.i64.wrap ((i : Int) - 1) = ((i - 1 : Nat) : Int) := (w64 (by omega)).trans (by omega)
                have c8 := b8 (by omega)
                rw [b1] at c8
                rw [if_pos (decide_eq_true hi0), if_pos ⟨Int.natCast_nonneg _, trivial⟩]
                simp only [hv1, Int.toNat_natCast]
                rw [if_pos (by omega)]
                simp only [c8, decide_false, Bool.false_eq_true, if_false]
                rw [if_pos a4, b5']
                simp only [bind_eq, a5, a6, decide_false, Bool.false_eq_true, if_false]
                rw [if_pos a4, if_pos ⟨Int.natCast_nonneg _, hvn2⟩, if_pos ⟨Int.natCast_nonneg _, trivial⟩]
                simp only [b7, decide_true, Bool.not_true, Bool.false_eq_true, if_false]
                exact hk'
              · rw [if_neg (by simp only [decide_eq_true_eq]; exact hi0), if_pos a4, b5']
                simp only [bind_eq, a5, a6, decide_false, Bool.false_eq_true, if_false]
                rw [if_pos a4, if_pos ⟨Int.natCast_nonneg _, hvn2⟩, if_pos ⟨Int.natCast_nonneg _, trivial⟩]
                simp only [b7, decide_true, Bool.not_true, Bool.false_eq_true, if_false]
                exact hk'
            · have hil2 : ¬ (i : Int) < ((rw_ hh v).length : Int) := fun h => hil (Int.ofNat_lt.1 h)
              simp only [hil2, decide_false, Bool.false_eq_true, if_false]
              exact hnext
        · have hv1 : decide ((v : Int) = (n : Int)) = false := decide_eq_false hvr
          have h0 : (rd d v < 1099511627776 ∧ ((rw_ hh v).length : Int) > 0) ∨ (¬ rd d v < 1099511627776 ∧ ¬ ((rw_ hh v).length : Int) > 0) := by
            by_cases hB : rd d v < 1099511627776
            · have := hrow.2 ⟨fun e => hvr (by omega), hB⟩
              exact .inl ⟨hB, by omega⟩
            · refine .inr ⟨hB, fun h0 => hB (hrow.1 (by omega)).2⟩
          simp only [hv1, Bool.not_false, if_true]
          rw [if_pos ⟨Int.natCast_nonneg _, trivial⟩]
          have two : ∀ (A : Option (Bool × Unit)) (a b : Bool), a = b → (if (!(a == b)) = true then some (false, ()) else A) = A := by
            intro A a b e
            subst e
            cases a <;> rfl
          rw [two _ _ _ (by
            rcases h0 with ⟨c1, c2⟩ | ⟨c1, c2⟩
            · rw [decide_eq_true c1]; exact decide_eq_true c2
            · rw [decide_eq_false c1]; exact decide_eq_false c2)]
          refine step _ fun i k hi hk => ?_
          · skip
            simp only [hvn2, Int.toNat_natCast]
            rw [if_pos ⟨Int.natCast_nonneg _, trivial⟩]
            by_cases hil : i < (rw_ hh v).length
            · have hk' : k ((i : Int) + 1, ()) = some (true, ()) := hk.resolve_right fun h => h hil
              have hil2 : (i : Int) < ((rw_ hh v).length : Int) := Int.ofNat_lt.2 hil
              obtain ⟨at_, x, far, b1, b2, b3, b4, b5, b6, b7, b8⟩ := body i hil
              have hsh := q2.1.short ho hvn
              have a1 : ¬ (at_ : Int) < 0 := by omega
              have a2 : (at_ : Int) < (es.length : Int) := Int.ofNat_lt.2 b2
              have a3 : ¬ (at_ : Int) ≥ (es.length : Int) := by omega
              have a4 : 0 ≤ (at_ : Int) ∧ (at_ : Int) < (es.length : Int) := ⟨Int.natCast_nonneg _, a2⟩
              have a5 : (far.length : Int) = (N : Int) := by omega
              have a6 : ¬ (v : Int) ≥ (N : Int) := by omega
              have hw : IntKind.i64.wrap ((i : Int) + 1) = (i : Int) + 1 := w64 (by omega)
              have b5' : spf_Dist.p (((N : Int), es, ()), x.2.1, ()) = some (far, 0, ()) := b5
              simp only [hil2, decide_true, if_true, b1, Int.toNat_natCast, hw]
              rw [if_pos ⟨Int.natCast_nonneg _, trivial⟩, if_pos ⟨Int.natCast_nonneg _, trivial⟩]
              simp only [a1, a3, decide_false, Bool.false_eq_true, if_false, b3]
              rw [if_pos a4]
              simp only [b4, decide_true, Bool.not_true, Bool.false_eq_true, if_false]
              by_cases hi0 : (i : Int) > 0
              · have hv1 : IntKind.i64.wrap ((i : Int) - 1) = ((i - 1 : Nat) : Int) := (w64 (by omega)).trans (by omega)
                have c8 := b8 (by omega)
                rw [b1] at c8
                rw [if_pos (decide_eq_true hi0), if_pos ⟨Int.natCast_nonneg _, trivial⟩]
                simp only [hv1, Int.toNat_natCast]
                rw [if_pos (by omega)]
                simp only [c8, decide_false, Bool.false_eq_true, if_false]
                rw [if_pos a4, b5']
                simp only [bind_eq, a5, a6, decide_false, Bool.false_eq_true, if_false]
                rw [if_pos a4, if_pos ⟨Int.natCast_nonneg _, hvn2⟩, if_pos ⟨Int.natCast_nonneg _, trivial⟩]
                simp only [b7, decide_true, Bool.not_true, Bool.false_eq_true, if_false]
                exact hk'
              · rw [if_neg (by simp only [decide_eq_true_eq]; exact hi0), if_pos a4, b5']
                simp only [bind_eq, a5, a6, decide_false, Bool.false_eq_true, if_false]
                rw [if_pos a4, if_pos ⟨Int.natCast_nonneg _, hvn2⟩, if_pos ⟨Int.natCast_nonneg _, trivial⟩]
                simp only [b7, decide_true, Bool.not_true, Bool.false_eq_true, if_false]
                exact hk'
            · have hil2 : ¬ (i : Int) < ((rw_ hh v).length : Int) := fun h => hil (Int.ofNat_lt.1 h)
              simp only [hil2, decide_false, Bool.false_eq_true, if_false]
              exact hnext
      · have hvn2 : ¬ (v : Int) < (N : Int) := fun h => hvn (Int.ofNat_lt.1 h)
        simp only [hvn2, decide_false, Bool.false_eq_true, if_false]
    · rw [dist_no g r hl hc, hops_no g r hl hc]
      simp only [bind_eq, show ¬ ((1 : Int) = 0) by decide, decide_false, Bool.not_false, if_true, List.length_nil, decide_true, show ((0 : Nat) : Int) = 0 from rfl]
theorem hopsGW {P : Program} {x : dens (List.map K.v [(.cons (.int .i64) (.cons (.sl 44 (.cons (.int .i64) (.cons (.int .i64) (.cons (.int .i64) .nil)))) .nil)), (.int .i64)])} (h : WfA P [(.cons (.int .i64) (.cons (.sl 44 (.cons (.int .i64) (.cons (.int .i64) (.cons (.int .i64) .nil)))) .nil)), (.int .i64)] x) : ∃ y, law05_SpfHops.p x = some y ∧ y.1 = true :=
  ⟨_, hopsG x.1 x.2.1, rfl⟩
end Go.Proofs.Ytaemcnabccgnbaa.F
