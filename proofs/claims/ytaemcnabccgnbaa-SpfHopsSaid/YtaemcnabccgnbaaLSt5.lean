/- Graphs: the distances, as they are told. -/
import Derived.Test.YtaemcnabccgnbaaLSs
set_option maxRecDepth 100000
set_option linter.unusedVariables false
set_option linter.unusedSimpArgs false
open Go Go.Proofs.Fr
namespace Go.Proofs.Ytaemcnabccgnbaa.F
theorem rep_get (N u : Nat) : (List.replicate N false).getD u false = false := by
  rw [List.getD_eq_getElem?_getD, List.getElem?_replicate]
  split <;> rfl
theorem Dj.start {N r : Nat} {es : List Eg} (ho : OKg N es) (hr : r < N) : Dj N es r ((List.replicate N (1099511627776 : Int)).set r 0) (List.replicate N false) [(0, (r : Int), ())] := by
  have hl : (List.replicate N (1099511627776 : Int)).length = N := List.length_replicate
  have ha : ∀ j, j < N → rd (List.replicate N (1099511627776 : Int)) j = 1099511627776 := fun j hj => by
    unfold rd
    rw [List.getD_eq_getElem?_getD, List.getElem?_replicate, if_pos hj]
    rfl
  have hs := fun j => rd_set (List.replicate N (1099511627776 : Int)) r j 0 (by omega)
  refine ⟨(BF.start ho hr hl ha).1, List.length_replicate, fun y hy => ?_, fun u hu hd => ?_, fun u hu hd hlt => ?_, fun x hx hd => ?_⟩
  · have : y = (0, (r : Int), ()) := by simpa using hy
    subst this
    simp only [Int.toNat_natCast]
    rw [hs, if_pos rfl]
    omega
  · rw [rep_get] at hd; cases hd
  · rw [hs] at hlt ⊢
    by_cases e : r = u
    · exact ⟨_, .head _, by simp only [Int.toNat_natCast]; exact e, by rw [if_pos e]⟩
    · rw [if_neg e, ha u hu] at hlt
      omega
  · rw [rep_get] at hd; cases hd
theorem settle_ex {N r : Nat} {es : List Eg} (ho : OKg N es) (hr : r < N) : ∃ d, spf_Graph_settle.p (((N : Int), es, ()), (r : Int), ()) = some (d, ()) ∧ SD N es r d := by
  have hN := ho.most
  have hlen := ho.len
  have hrep := rep_all ⟨N, by omega⟩ ho.pos
  simp only at hrep
  unfold spf_Graph_settle.p
  simp only [hrep, bind_eq, leaving_eq ho, jn_eq, Int.toNat_natCast, List.length_replicate]
  rw [if_pos (by omega), if_pos (by unfold maxBytes; omega)]
  obtain ⟨h0, a1, a2, a3⟩ := new_ex [(0, (r : Int), ())] (by simp)
  have al := a2.length_eq
  simp only [List.length_cons, List.length_nil] at al
  rw [a1]
  simp only [bind_eq]
  obtain ⟨top, ok, h, b1, b2, b3, b4, b5⟩ := pop_any h0 (by omega) a3
  rw [b1]
  simp only [bind_eq]
  have hD := (Dj.start ho hr).perm (a2.symm.trans b5)
  have hun : un es (List.replicate N false) ≤ es.length := List.length_filter_le _ _
  have conv : ∀ o : Option (List Int × Unit), (∃ v : List Int × Unit, o = some v ∧ SD N es r v.1) → ∃ d, o = some (d, ()) ∧ SD N es r d := by
    rintro o ⟨⟨d, _⟩, h1, h2⟩
    exact ⟨d, h1, h2⟩
  have hb5 := b5.length_eq
  refine conv _ (iterK_ex (fun v : List Int × Unit => SD N es r v.1) (fun s : It × Bool × List Int × List Bool × List It × Unit => (if s.2.1 = true then 1 else 0) + s.2.2.2.2.1.length + un es s.2.2.2.1)
    (fun s => H s.2.2.2.2.1 0 ∧ (s.2.1 = false → s.2.2.2.2.1 = []) ∧ (s.2.1 = true → ∀ y ∈ s.2.2.2.2.1, s.1.1 ≤ y.1) ∧ Dj N es r s.2.2.1 s.2.2.2.1 (if s.2.1 = true then s.1 :: s.2.2.2.2.1 else []) ∧ (if s.2.1 = true then 1 else 0) + s.2.2.2.2.1.length + un es s.2.2.2.1 ≤ 401) ?_ _ _ ⟨b2, b3, b4, hD, ?_⟩ ?_)
  rotate_left
  · simp only
    cases ok with
    | true => simp only [if_true, List.length_cons] at hb5 ⊢; omega
    | false => rw [b3 rfl]; simp only [Bool.false_eq_true, if_false, List.length_nil]; omega
  · simp only
    cases ok with
    | true => simp only [if_true, List.length_cons] at hb5 ⊢; omega
    | false => rw [b3 rfl]; simp only [Bool.false_eq_true, if_false, List.length_nil]; omega
  rintro ⟨top, ok, dist, done, h, _⟩ k1 ⟨i1, i2, i3, i4, i5⟩ ih1
  simp only at i1 i2 i3 i4 i5
  cases ok with
  | false =>
    simp only [Bool.false_eq_true, if_false] at i4 ⊢
    exact ⟨_, rfl, i4.fin ho⟩
  | true =>
    simp only [if_true] at i4 i5 ⊢
    have i3 := i3 rfl
    obtain ⟨t1, t2, t3, t4⟩ := i4.q1 top (.head _)
    obtain ⟨v, hv⟩ : ∃ v : Nat, top.2.1 = (v : Int) := Int.eq_ofNat_of_zero_le t1
    have hvN : v < N := by omega
    have hvt : top.2.1.toNat = v := by omega
    have hdl := i4.dl
    have next : ∀ (dist' : List Int) (done' : List Bool) (h' : List It), H h' 0 → h'.length + un es done' ≤ h.length + un es done → Dj N es r dist' done' h' → ∃ v, ((heap_Heap_Pop.p (h', ())).bind fun y9 => k1 (y9.1, y9.2.1, dist', done', y9.2.2.1, ())) = some v ∧ SD N es r v.1 := by
      intro dist' done' h' c1 c2 c3
      obtain ⟨top2, ok2, h2, d1, d2, d3, d4, d5⟩ := pop_any h' (by omega) c1
      rw [d1]
      simp only [bind_eq]
      have e5 := d5.length_eq
      refine ih1 _ ⟨d2, d3, d4, c3.perm d5, ?_⟩ ?_
      · simp only
        cases ok2 with
        | true => simp only [if_true, List.length_cons] at e5 ⊢; omega
        | false => rw [d3 rfl]; simp only [Bool.false_eq_true, if_false, List.length_nil]; omega
      · simp only [if_true]
        cases ok2 with
        | true => simp only [if_true, List.length_cons] at e5 ⊢; omega
        | false => rw [d3 rfl]; simp only [Bool.false_eq_true, if_false, List.length_nil]; omega
    rw [hv, Int.toNat_natCast, if_pos (by omega)]
    rw [hvt] at t3
    by_cases hd : done.getD v false = true
    · have hd' : rdE .bool done v = true := hd
      rw [if_pos hd']
      exact next dist done h i1 (Nat.le_refl _) (i4.skip (by rw [hvt]; exact hd))
    · have hdf : done.getD v false = false := by cases h : done.getD v false with
        | true => exact absurd h hd
        | false => rfl
      have hd' : ¬ rdE .bool done v = true := hd
      rw [if_neg hd', if_pos (by omega)]
      have hll : ((List.range N).map (lv es)).length = N := by simp
      rw [hll, if_pos (by omega)]
      have hrow : ∀ z, rdZ z ((List.range N).map (lv es)) v = lv es v := fun z => by
        rw [rdZ_get z _ v (by rw [hll]; exact hvN)]
        simp
      simp only [hrow]
      have hk := i4.key (by rw [hvt]; exact hdf) i3
      rw [hvt] at hk
      have hgs := fun j => get_set done v j true (by omega)
      have hdv : (done.set v true).getD v false = true := by rw [hgs, if_pos rfl]
      have hdK : ∀ u, u < N → (done.set v true).getD u false = true → rd dist u ≤ top.1 := by
        intro u hu hu2
        rw [hgs] at hu2
        by_cases e : v = u
        · rw [← e]; omega
        · rw [if_neg e] at hu2
          exact (i4.q2 u hu hu2).2 _ (.head _)
      have hun2 := un_set (es := es) (done := done) (v := v) (by omega) hdf (fun x hx => (ho.edge x hx).1)
      have hst := Di.start i4 (by rw [hvt]; exact hdf) i3
      rw [hvt] at hst
      refine iterK_ex (fun v : List Int × Unit => SD N es r v.1) (fun s : Int × List Int × List It × Int × Unit => (lv es v).length - s.1.toNat) (fun s => ∃ q : Nat, s.1 = q ∧ q ≤ (lv es v).length ∧ s.2.2.2.1 = (v : Int) ∧ H s.2.2.1 0 ∧ s.2.2.1.length ≤ h.length + q ∧ Di N es r v top.1 dist (done.set v true) q s.2.1 s.2.2.1) ?_ _ _ ⟨0, rfl, by omega, rfl, i1, by simp only; omega, hst⟩ (by simp only; omega)
      rintro ⟨q0, dist', h', v0, _⟩ k2 ⟨q, hq, hql, hv0, j1, j2, j3⟩ ih2
      simp only at hq hv0 j1 j2 j3
      subst hq hv0
      simp only [Int.toNat_natCast]
      by_cases hqn : q < (lv es v).length
      · have hqn2 : (q : Int) < ((lv es v).length : Int) := Int.ofNat_lt.2 hqn
        obtain ⟨i, hi, e1, e2⟩ := lv_at hqn
        simp only [hqn2, decide_true, if_true, e1, Int.toNat_natCast]
        rw [if_pos ⟨Int.natCast_nonneg _, trivial⟩, if_pos ⟨Int.natCast_nonneg _, Int.ofNat_lt.2 hi⟩]
        obtain ⟨d2, h2, p1, p2, p3, p4⟩ := relax_ex ho hr (by omega) j1 j3 hvN hdv hk t4 hdK hi e1 e2
        rw [p1]
        simp only [bind_eq]
        rw [w64 (x := (q : Int) + 1) (by omega)]
        exact ih2 _ ⟨q + 1, rfl, hqn, rfl, p2, by simp only; omega, p4⟩ (by simp only; omega)
      · have hqn2 : ¬ (q : Int) < ((lv es v).length : Int) := fun h => hqn (Int.ofNat_lt.1 h)
        simp only [hqn2, decide_false, Bool.false_eq_true, if_false]
        have e : q = (lv es v).length := by omega
        subst e
        refine next dist' (done.set v true) h' j1 (by omega) ?_
        have := Di.done ho i4 (by rw [hvt]; exact hdf) i3 (by rw [hvt]; exact j3)
        rw [hvt] at this
        exact this
theorem dist_no (g : Gr) (r : Int) (hl : g.2.1.length ≤ 100000) (h : ¬ (mayB g = true ∧ 0 ≤ r ∧ r < g.1)) : spf_Dist.p (g, r, ()) = some ([], 1, ()) := by
  unfold spf_Dist.p
  simp only [jn_eq, may_eq g hl, isNode_eq, Option.bind_some]
  by_cases h1 : mayB g = true
  · have h2 : ¬ (0 ≤ r ∧ r < g.1) := fun h2 => h ⟨h1, h2⟩
    simp only [h1, Bool.not_true, Bool.false_eq_true, if_false, decide_eq_false h2, Bool.not_false, if_true]
  · simp only [h1, Bool.not_false, if_true]
theorem dist_ex {N r : Nat} {es : List Eg} (ho : OKg N es) (hm : mayB ((N : Int), es, ()) = true) (hr : r < N) : ∃ d, spf_Dist.p (((N : Int), es, ()), (r : Int), ()) = some (d, 0, ()) ∧ SD N es r d := by
  have hlen := ho.len
  obtain ⟨d, h1, h2⟩ := settle_ex ho hr
  refine ⟨d, ?_, h2⟩
  have hin : 0 ≤ (r : Int) ∧ (r : Int) < (N : Int) := by omega
  unfold spf_Dist.p
  simp only [jn_eq, may_eq ((N : Int), es, ()) (show es.length ≤ 100000 by omega), isNode_eq, Option.bind_some, hm, Bool.not_true, Bool.false_eq_true, if_false, decide_eq_true hin, h1]
end Go.Proofs.Ytaemcnabccgnbaa.F
