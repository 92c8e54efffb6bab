/- Graphs: hops handed on till no work is left: they are all hops. -/
import Derived.Test.YtaemcnabccgnbaaLSj
import Derived.Test.YtaemcnabccgnbaaLSk
set_option maxRecDepth 100000
set_option linter.unusedVariables false
set_option linter.unusedSimpArgs false
open Go Go.Proofs.Fr
namespace Go.Proofs.Ytaemcnabccgnbaa.F
/-- How many numbers stand in all rows. -/
def tot : List (List Int) → Nat
  | [] => 0
  | x :: l => x.length + tot l
theorem tot_set : ∀ (l : List (List Int)) (i : Nat) (a : List Int), i < l.length → tot (l.set i a) + (rw_ l i).length = tot l + a.length
  | [], _, _, h => absurd h (Nat.not_lt_zero _)
  | x :: l, 0, a, _ => by
    show a.length + tot l + x.length = x.length + tot l + a.length
    omega
  | x :: l, i + 1, a, h => by
    have ih := tot_set l i a (by simpa using h)
    have e : rw_ (x :: l) (i + 1) = rw_ l i := rfl
    rw [e]
    show x.length + tot (l.set i a) + _ = x.length + tot l + a.length
    omega
theorem tot_le (B : Nat) : ∀ (l : List (List Int)), (∀ v, v < l.length → (rw_ l v).length ≤ B) → tot l ≤ l.length * B
  | [], _ => Nat.zero_le _
  | x :: l, h => by
    have h0 := h 0 (by simp)
    have ih := tot_le B l fun v hv => h (v + 1) (by simpa using hv)
    have e : rw_ (x :: l) 0 = x := rfl
    rw [e] at h0
    show x.length + tot l ≤ (l.length + 1) * B
    rw [Nat.add_mul, Nat.one_mul]
    omega
theorem rs_tot {N r : Nat} {es : List Eg} {d : List Int} {out : List (List Int)} (ho : OKg N es) (h : RS N es d r out) : tot out ≤ 25600 := by
  have h1 := tot_le 400 out fun v hv => Nat.le_trans (h.short ho (by rw [← h.len]; exact hv)) ho.len
  have h2 := h.len
  have h3 := ho.most
  have h4 : out.length * 400 ≤ 64 * 400 := Nat.mul_le_mul_right _ (by omega)
  omega
/-- What an edge hands on is there. -/
def Cl (r : Nat) (out : List (List Int)) (q : Nat) (x : Eg) : Prop := (x.1.toNat = r → (q : Int) ∈ rw_ out x.2.1.toNat) ∧ (x.1.toNat ≠ r → ∀ y ∈ rw_ out x.1.toNat, y ∈ rw_ out x.2.1.toNat)
structure WI (N : Nat) (es : List Eg) (d : List Int) (r : Nat) (out : List (List Int)) (work : List Int) : Prop where
  rs : RS N es d r out
  wk : ∀ z ∈ work, ∃ u : Nat, z = (u : Int) ∧ u < N
  cl : ∀ (q : Nat) x, es[q]? = some x → tightB d x = true → x.2.1.toNat ≠ r → ((x.1.toNat : Nat) : Int) ∈ work ∨ Cl r out q x
  bd : work.length + 2 * (25600 - tot out) ≤ 51201
theorem rep_rw (N v : Nat) : rw_ (List.replicate N []) v = [] := by
  unfold rw_ rdZ
  rw [List.getD_eq_getElem?_getD, List.getElem?_replicate]
  split <;> rfl
theorem WI.start {N r : Nat} {es : List Eg} {d : List Int} (hr : r < N) : WI N es d r (List.replicate N []) [(r : Int)] := by
  refine ⟨rs_start, fun z hz => ⟨r, by simpa using hz, hr⟩, fun q x hx ht hn => ?_, by simp only [List.length_cons, List.length_nil]; omega⟩
  by_cases e : x.1.toNat = r
  · exact .inl (by rw [e]; exact .head _)
  · refine .inr ⟨fun h => absurd h e, fun _ y hy => ?_⟩
    rw [rep_rw] at hy
    cases hy
theorem WI.done {N r : Nat} {es : List Eg} {d : List Int} {out : List (List Int)} (ho : OKg N es) (h : WI N es d r out []) : RA N es d r out := by
  refine ⟨h.rs, fun v i hp => ?_⟩
  induction hp with
  | @one i x h1 h2 h3 h4 =>
    rcases h.cl i x h1 h2 h4 with e | e
    · cases e
    · exact e.1 h3
  | @step i x hp hx ht hn ih =>
    obtain ⟨q, hq, hqx⟩ := List.getElem_of_mem hx
    rcases h.cl q x (by rw [List.getElem?_eq_getElem hq, hqx]) ht hn with e | e
    · cases e
    · exact e.2 (hp_facts ho hp).1 _ ih
/-- While the edges of a node are looked at. -/
structure WJ (N : Nat) (es : List Eg) (d : List Int) (r v p M : Nat) (out : List (List Int)) (work : List Int) : Prop where
  rs : RS N es d r out
  wk : ∀ z ∈ work, ∃ u : Nat, z = (u : Int) ∧ u < N
  cl : ∀ (q : Nat) x, es[q]? = some x → tightB d x = true → x.2.1.toNat ≠ r → ((x.1.toNat : Nat) : Int) ∈ work ∨ Cl r out q x ∨ (x.1.toNat = v ∧ ∃ p', p ≤ p' ∧ p' < (lv es v).length ∧ rd (lv es v) p' = (q : Int))
  bd : work.length + 2 * (25600 - tot out) ≤ M
theorem lv_has {N : Nat} {es : List Eg} (ho : OKg N es) {q v : Nat} {x : Eg} (hx : es[q]? = some x) (hv : x.1.toNat = v) : ∃ p, p < (lv es v).length ∧ rd (lv es v) p = (q : Int) := by
  obtain ⟨hq, hqx⟩ := List.getElem?_eq_some_iff.1 hx
  have he := ho.edge x (List.mem_of_getElem? hx)
  have hm : ((q : Nat) : Int) ∈ lv es v := by
    refine List.mem_map.2 ⟨q, List.mem_filter.2 ⟨List.mem_range.2 hq, decide_eq_true ?_⟩, rfl⟩
    rw [List.getD_eq_getElem?_getD, hx]
    show x.1 = (v : Int)
    omega
  obtain ⟨p, hp, e⟩ := List.getElem_of_mem hm
  exact ⟨p, hp, by rw [rd_get _ _ hp, e]⟩
theorem WJ.start {N r v : Nat} {es : List Eg} {d : List Int} {out : List (List Int)} {ws : List Int} (ho : OKg N es) (h : WI N es d r out ((v : Int) :: ws)) : WJ N es d r v 0 (ws.length + 2 * (25600 - tot out)) out ws := by
  refine ⟨h.rs, fun z hz => h.wk z (.tail _ hz), fun q x hx ht hn => ?_, Nat.le_refl _⟩
  rcases h.cl q x hx ht hn with e | e
  · rcases List.mem_cons.1 e with e | e
    · have hv : x.1.toNat = v := by omega
      obtain ⟨p, hp, hpq⟩ := lv_has ho hx hv
      exact .inr (.inr ⟨hv, p, Nat.zero_le _, hp, hpq⟩)
    · exact .inl e
  · exact .inr (.inl e)
theorem WJ.fin {N r v M : Nat} {es : List Eg} {d : List Int} {out : List (List Int)} {work : List Int} (hM : M ≤ 51201) (h : WJ N es d r v (lv es v).length M out work) : WI N es d r out work := by
  refine ⟨h.rs, h.wk, fun q x hx ht hn => ?_, Nat.le_trans h.bd hM⟩
  rcases h.cl q x hx ht hn with e | e | ⟨_, p', h1, h2, _⟩
  · exact .inl e
  · exact .inr e
  · omega
/-- An edge that hands nothing on. -/
theorem WJ.pass {N r v p M i : Nat} {es : List Eg} {d : List Int} {out : List (List Int)} {work : List Int} (h : WJ N es d r v p M out work) (hi : rd (lv es v) p = (i : Int)) (hc : ∀ x, es[i]? = some x → tightB d x = true → x.2.1.toNat ≠ r → Cl r out i x) : WJ N es d r v (p + 1) M out work := by
  refine ⟨h.rs, h.wk, fun q x hx ht hn => ?_, h.bd⟩
  rcases h.cl q x hx ht hn with e | e | ⟨hv, p', h1, h2, h3⟩
  · exact .inl e
  · exact .inr (.inl e)
  · by_cases e : p' = p
    · subst e
      have : q = i := by omega
      subst this
      exact .inr (.inl (hc x hx ht hn))
    · exact .inr (.inr ⟨hv, p', by omega, h2, h3⟩)
/-- An edge that hands something on. -/
theorem WJ.grow {N r v p M i : Nat} {es : List Eg} {d : List Int} {out : List (List Int)} {work : List Int} {x : Eg} {own all : List Int} (ho : OKg N es) (h : WJ N es d r v p M out work) (hi : rd (lv es v) p = (i : Int)) (hx : es[i]? = some x) (hxv : x.1.toNat = v) (ht : tightB d x = true) (hn : x.2.1.toNat ≠ r)
    (hown : own = if v = r then [(i : Int)] else rw_ out v) (ha : Ri all) (hm : ∀ y, y ∈ all ↔ y ∈ rw_ out x.2.1.toNat ∨ y ∈ own) (hl : (rw_ out x.2.1.toNat).length < all.length) : WJ N es d r v (p + 1) M (out.set x.2.1.toNat all) (work ++ [x.2.1]) := by
  have hmem := List.mem_of_getElem? hx
  have hto := ho.to hmem
  have hfr := ho.fr hmem
  have he := ho.edge x hmem
  have hol := h.rs.len
  have hg := fun j => rw_set out x.2.1.toNat j all (by rw [hol]; exact hto)
  have hrs : RS N es d r (out.set x.2.1.toNat all) := rs_set h.rs hto ha fun y hy => by
    rcases (hm y).1 hy with hy | hy
    · exact h.rs.so _ hto y hy
    · rw [hown] at hy
      by_cases e : v = r
      · rw [if_pos e] at hy
        have : y = (i : Int) := by simpa using hy
        exact ⟨i, this, Hp.one hx ht (by rw [hxv, e]) hn⟩
      · rw [if_neg e] at hy
        obtain ⟨j, ej, hj⟩ := h.rs.so v (by omega) y hy
        exact ⟨j, ej, Hp.step (by rw [hxv]; exact hj) hmem ht hn⟩
  have hsub : ∀ j, ∀ y ∈ rw_ out j, y ∈ rw_ (out.set x.2.1.toNat all) j := fun j y hy => by
    rw [hg]
    by_cases e : x.2.1.toNat = j
    · rw [if_pos e]; exact (hm y).2 (.inl (e ▸ hy))
    · rw [if_neg e]; exact hy
  have htt := tot_set out x.2.1.toNat all (by rw [hol]; exact hto)
  have ht1 := rs_tot ho hrs
  have ht2 := rs_tot ho h.rs
  have hbd := h.bd
  refine ⟨hrs, fun z hz => ?_, fun q z hz hzt hzn => ?_, by simp only [List.length_append, List.length_cons, List.length_nil]; omega⟩
  · rcases List.mem_append.1 hz with hz | hz
    · exact h.wk z hz
    · have : z = x.2.1 := by simpa using hz
      exact ⟨x.2.1.toNat, by omega, hto⟩
  · have grown : Cl r out q z → ((z.1.toNat : Nat) : Int) ∈ work ++ [x.2.1] ∨ Cl r (out.set x.2.1.toNat all) q z := by
      intro hc
      by_cases e : z.1.toNat = x.2.1.toNat
      · exact .inl (List.mem_append_right _ (by rw [show ((z.1.toNat : Nat) : Int) = x.2.1 by omega]; exact .head _))
      · refine .inr ⟨fun h => hsub _ _ (hc.1 h), fun h y hy => ?_⟩
        rw [hg, if_neg (fun h => e h.symm)] at hy
        exact hsub _ _ (hc.2 h y hy)
    rcases h.cl q z hz hzt hzn with e | e | ⟨hv, p', h1, h2, h3⟩
    · exact .inl (List.mem_append_left _ e)
    · rcases grown e with e | e
      · exact .inl e
      · exact .inr (.inl e)
    · by_cases e : p' = p
      · subst e
        have : q = i := by omega
        subst this
        rw [hx] at hz
        cases hz
        by_cases e : x.1.toNat = x.2.1.toNat
        · exact .inl (List.mem_append_right _ (by rw [show ((x.1.toNat : Nat) : Int) = x.2.1 by omega]; exact .head _))
        · refine .inr (.inl ⟨fun hr => ?_, fun hr y hy => ?_⟩)
          · rw [hg, if_pos rfl]
            refine (hm _).2 (.inr ?_)
            rw [hown, if_pos (by omega)]
            exact .head _
          · rw [hg, if_neg (fun h => e h.symm)] at hy
            rw [hg, if_pos rfl]
            refine (hm _).2 (.inr ?_)
            rw [hown, if_neg (by omega), ← hxv]
            exact hy
      · exact .inr (.inr ⟨hv, p', by omega, h2, h3⟩)
theorem hops_no (g : Gr) (r : Int) (hl : g.2.1.length ≤ 100000) (h : ¬ (mayB g = true ∧ 0 ≤ r ∧ r < g.1)) : spf_Hops.p (g, r, ()) = some ([], 1, ()) := by
  unfold spf_Hops.p
  rw [dist_no g r hl h]
  simp only [bind_eq, show ¬ ((1 : Int) = 0) by decide, decide_false, Bool.not_false, if_true]
theorem hops_ex {N r : Nat} {es : List Eg} {d : List Int} (ho : OKg N es) (hr : r < N) (hdist : spf_Dist.p (((N : Int), es, ()), (r : Int), ()) = some (d, 0, ())) (hd : SD N es r d) : ∃ h, spf_Hops.p (((N : Int), es, ()), (r : Int), ()) = some (h, 0, ()) ∧ RA N es d r h := by
  have hN := ho.most
  have hlen := ho.len
  unfold spf_Hops.p
  rw [hdist]
  simp only [bind_eq, jn_eq, decide_true, Bool.not_true, Bool.false_eq_true, if_false, leaving_eq ho, Int.toNat_natCast, isTight_eq]
  rw [if_pos (by unfold maxBytes; omega)]
  have conv : ∀ o : Option (List (List Int) × Int × Unit), (∃ v : List (List Int) × Int × Unit, o = some v ∧ (v.2.1 = 0 ∧ RA N es d r v.1)) → ∃ h, o = some (h, 0, ()) ∧ RA N es d r h := by
    rintro o ⟨⟨h, e, _⟩, h1, h2, h3⟩
    simp only at h2 h3
    subst h2
    exact ⟨h, h1, h3⟩
  have z0 : Int.toNat 0 = 0 := rfl
  have z1 : Int.toNat 1 = 1 := rfl
  have hll : ((List.range N).map (lv es)).length = N := by simp
  refine conv _ (iterK_ex (fun v : List (List Int) × Int × Unit => v.2.1 = 0 ∧ RA N es d r v.1) (fun s : List Int × List (List Int) × Unit => s.1.length + 2 * (25600 - tot s.2.1)) (fun s => WI N es d r s.2.1 s.1) ?_ _ _ (WI.start hr) (by simp only [List.length_cons, List.length_nil]; omega))
  rintro ⟨work, out, _⟩ k1 hI ih1
  simp only at hI
  cases work with
  | nil =>
    have hgt : ¬ (([] : List Int).length : Int) > 0 := by simp
    simp only [hgt, decide_false, Bool.false_eq_true, if_false]
    exact ⟨_, rfl, rfl, hI.done ho⟩
  | cons z ws =>
    obtain ⟨v, rfl, hv⟩ := hI.wk z (.head _)
    have hgt : (((v : Int) :: ws).length : Int) > 0 := by simp only [List.length_cons]; omega
    have hrd : rd ((v : Int) :: ws) 0 = (v : Int) := rfl
    have htk : List.drop 1 (List.take ((v : Int) :: ws).length ((v : Int) :: ws)) = ws := by rw [List.take_length]; rfl
    have hrow : ∀ z, rdZ z ((List.range N).map (lv es)) v = lv es v := fun z => by
      rw [rdZ_get z _ v (by rw [hll]; exact hv)]
      simp
    simp only [hgt, decide_true, if_true, z0, z1, hrd, htk, hll, hrow, Int.toNat_natCast]
    rw [if_pos ⟨Int.le_refl _, trivial⟩, if_pos (by simp only [List.length_cons]; omega), if_pos (by omega)]
    have hbd := hI.bd
    simp only [List.length_cons] at hbd
    refine iterK_ex (fun v : List (List Int) × Int × Unit => v.2.1 = 0 ∧ RA N es d r v.1) (fun s : List Int × Int × List (List Int) × Unit => (lv es v).length - s.2.1.toNat) (fun s => ∃ p : Nat, s.2.1 = (p : Int) ∧ p ≤ (lv es v).length ∧ WJ N es d r v p (ws.length + 2 * (25600 - tot out)) s.2.2.1 s.1) ?_ _ _ ⟨0, rfl, by omega, WJ.start ho hI⟩ ?_
    rotate_left
    · show (lv es v).length - Int.toNat 0 < 4611686018427387904
      have : (lv es v).length ≤ es.length := by
        rw [lv_len]
        exact List.length_filter_le _ _
      omega
    rintro ⟨work, p0, out1, _⟩ k2 ⟨p, hp0, hpl, hJ⟩ ih2
    simp only at hp0 hJ
    subst hp0
    simp only [Int.toNat_natCast]
    by_cases hpn : p < (lv es v).length
    · have hpn2 : (p : Int) < ((lv es v).length : Int) := Int.ofNat_lt.2 hpn
      obtain ⟨i, hi, e1, e2⟩ := lv_at hpn
      have hget : es[i]? = some (rdZ zE es i) := by rw [rdZ_get zE es i hi]; exact List.getElem?_eq_getElem hi
      have hlv : (lv es v).length ≤ es.length := by
        rw [lv_len]
        exact List.length_filter_le _ _
      have hw : IntKind.i64.wrap ((p : Int) + 1) = (p : Int) + 1 := w64 (by omega)
      simp only [hpn2, decide_true, if_true, e1, Int.toNat_natCast, hw]
      rw [if_pos ⟨Int.natCast_nonneg _, trivial⟩, if_pos ⟨Int.natCast_nonneg _, Int.ofNat_lt.2 hi⟩]
      obtain ⟨x, hx⟩ : ∃ x, rdZ zE es i = x := ⟨_, rfl⟩
      simp only [hx] at hget e2 ⊢
      have hmem : x ∈ es := List.mem_of_getElem? hget
      have he := ho.edge x hmem
      have hto := ho.to hmem
      have hxv : x.1.toNat = v := by omega
      have hol := hJ.rs.len
      have next : ∀ (work2 : List Int) (out2 : List (List Int)), WJ N es d r v (p + 1) (ws.length + 2 * (25600 - tot out)) out2 work2 → ∃ w, k2 (work2, (p : Int) + 1, out2, ()) = some w ∧ (w.2.1 = 0 ∧ RA N es d r w.1) := by
        intro work2 out2 h2
        exact ih2 _ ⟨p + 1, rfl, hpn, h2⟩ (by simp only; omega)
      by_cases c1 : x.2.1 = (r : Int)
      · simp only [c1, decide_true, if_true]
        exact next work out1 (hJ.pass e1 fun y hy _ hn => by rw [hget] at hy; cases hy; exact absurd (by omega) hn)
      · have c1' : x.2.1.toNat ≠ r := by omega
        simp only [c1, decide_false, Bool.false_eq_true, if_false]
        cases ht : tightB d x with
        | false =>
          simp only [Bool.not_false, if_true]
          exact next work out1 (hJ.pass e1 fun y hy h2 _ => by rw [hget] at hy; cases hy; rw [ht] at h2; cases h2)
        | true =>
          simp only [Bool.not_true, Bool.false_eq_true, if_false]
          have hs1 := hJ.rs.short ho hto
          have hs2 := hJ.rs.short ho hv
          have fin : ∀ own : List Int, own = (if v = r then [(i : Int)] else rw_ out1 v) → ∃ w, (if 0 ≤ x.2.1 ∧ x.2.1 < (out1.length : Int) then ((spf_join.p (rdZ [] out1 x.2.1.toNat, own, ())).bind fun y19 => (if 0 ≤ x.2.1 ∧ x.2.1 < (out1.length : Int) then (if (decide ((y19.1.length : Int) > ((rdZ [] out1 x.2.1.toNat).length : Int))) = true then (if 0 ≤ x.2.1 ∧ x.2.1 < (out1.length : Int) then (if work.length + ([x.2.1] : List Int).length ≤ maxBytes / 8 then k2 (work ++ [x.2.1], (p : Int) + 1, List.set out1 x.2.1.toNat y19.1, ()) else none) else none) else k2 (work, (p : Int) + 1, out1, ())) else none)) else none) = some w ∧ (w.2.1 = 0 ∧ RA N es d r w.1) := by
            intro own hown
            have hol2 : own.length ≤ 400 := by
              rw [hown]
              by_cases e : v = r
              · rw [if_pos e]; simp
              · rw [if_neg e]; omega
            obtain ⟨all, a1, a2, a3⟩ := join_ex (rw_ out1 x.2.1.toNat) own (by omega) (by omega)
            have hb := hJ.bd
            rw [if_pos (by omega), fold_rw, a1]
            simp only [bind_eq]
            rw [if_pos (by omega)]
            by_cases c : (all.length : Int) > ((rw_ out1 x.2.1.toNat).length : Int)
            · rw [if_pos (decide_eq_true c), if_pos (by omega), if_pos (by simp only [List.length_cons, List.length_nil, maxBytes]; omega)]
              exact next _ _ (hJ.grow ho e1 hget hxv ht c1' hown a2 a3 (by omega))
            · rw [if_neg (by simp only [decide_eq_true_eq]; exact c)]
              have hsub := sub_all (ri_nodup (hJ.rs.ri _ hto)) (fun y hy => (a3 y).2 (.inl hy)) (by omega)
              have hin : ∀ y ∈ own, y ∈ rw_ out1 x.2.1.toNat := fun y hy => hsub y ((a3 y).2 (.inr hy))
              refine next _ _ (hJ.pass e1 fun y hy h2 hn => ?_)
              rw [hget] at hy
              cases hy
              refine ⟨fun hr => hin _ ?_, fun hr y hy => hin _ ?_⟩
              · rw [hown, if_pos (by omega)]; exact .head _
              · rw [hown, if_neg (by omega), ← hxv]; exact hy
          rw [if_pos (by omega)]
          by_cases c2 : (v : Int) = (r : Int)
          · simp only [c2, decide_true, if_true]
            exact fin _ (by rw [if_pos (by omega)])
          · simp only [c2, decide_false, Bool.false_eq_true, if_false]
            exact fin _ (by rw [if_neg (by omega)]; rfl)
    · have hpn2 : ¬ (p : Int) < ((lv es v).length : Int) := fun h => hpn (Int.ofNat_lt.1 h)
      simp only [hpn2, decide_false, Bool.false_eq_true, if_false]
      have e : p = (lv es v).length := by omega
      subst e
      have hb := hJ.bd
      refine ih1 _ (hJ.fin (by omega)) ?_
      simp only [List.length_cons]
      omega
end Go.Proofs.Ytaemcnabccgnbaa.F
