/- Graphs: the document's hops are all hops. -/
import Derived.Test.YtaemcnabccgnbaaLSi
set_option maxRecDepth 100000
set_option linter.unusedVariables false
set_option linter.unusedSimpArgs false
open Go Go.Proofs.Fr
namespace Go.Proofs.Ytaemcnabccgnbaa.F
theorem fold_rw (o : List (List Int)) (v : Nat) : rdZ [] o v = rw_ o v := rfl
theorem tight_at (d : List Int) (es : List Eg) (j : Nat) (hj : j < es.length) : rdE .bool (es.map (tightB d)) j = tightB d (rdZ zE es j) := by
  show (es.map (tightB d)).getD j false = _
  rw [List.getD_eq_getElem?_getD, List.getElem?_map, List.getElem?_eq_getElem hj, rdZ_get zE es j hj]
  rfl
theorem rhops_no (g : Gr) (r : Int) (hl : g.2.1.length ≤ 100000) (h : ¬ (mayB g = true ∧ 0 ≤ r ∧ r < g.1)) : ref05_Hops.p (g, r, ()) = some ([], 1, ()) := by
  unfold ref05_Hops.p
  rw [rdist_no g r hl h]
  simp only [bind_eq, show ¬ ((1 : Int) = 0) by decide, decide_false, Bool.not_false, if_true]
/-- A row takes a number in. -/
theorem rs_into {N r t : Nat} {es : List Eg} {d : List Int} {out : List (List Int)} (ho : OKg N es) (h : RS N es d r out) (ht : t < N) (i : Nat) (hi : Hp es d r t i) : ∃ l, ref05_Into.p (rw_ out t, (i : Int), ()) = some (l, ()) ∧ RS N es d r (out.set t l) ∧ (∀ v, ∀ y ∈ rw_ out v, y ∈ rw_ (out.set t l) v) ∧ (i : Int) ∈ rw_ (out.set t l) t ∧ ((i : Int) ∈ rw_ out t → l = rw_ out t) := by
  have hs := h.short ho ht
  have hlen := ho.len
  obtain ⟨l, h1, h2, h3, h4⟩ := into_ex (rw_ out t) (i : Int) (by omega) (h.ri t ht)
  have hg := fun j => rw_set out t j l (by rw [h.len]; exact ht)
  refine ⟨l, h1, rs_set h ht h2 fun y hy => ?_, fun v y hy => ?_, ?_, h4⟩
  · rcases (h3 y).1 hy with rfl | hy
    · exact ⟨i, rfl, hi⟩
    · exact h.so t ht y hy
  · rw [hg]
    by_cases e : t = v
    · rw [if_pos e]; exact (h3 y).2 (.inr (e ▸ hy))
    · rw [if_neg e]; exact hy
  · rw [hg, if_pos rfl]; exact (h3 _).2 (.inl rfl)
theorem rhops_ex {N r : Nat} {es : List Eg} {d : List Int} (ho : OKg N es) (hr : r < N) (hdist : ref05_Dist.p (((N : Int), es, ()), (r : Int), ()) = some (d, 0, ())) (hd : SD N es r d) : ∃ h, ref05_Hops.p (((N : Int), es, ()), (r : Int), ()) = some (h, 0, ()) ∧ RA N es d r h := by
  have hN := ho.most
  have hlen := ho.len
  unfold ref05_Hops.p
  rw [hdist]
  simp only [bind_eq, jn_eq, decide_true, Bool.not_true, Bool.false_eq_true, if_false]
  rw [rtight_eq ((N : Int), es, ()) d (show es.length ≤ 100000 by omega)]
  simp only [bind_eq, Int.toNat_natCast]
  rw [if_pos (by unfold maxBytes; omega)]
  have conv : ∀ o : Option (List (List Int) × Int × Unit), (∃ v : List (List Int) × Int × Unit, o = some v ∧ (v.2.1 = 0 ∧ RA N es d r v.1)) → ∃ h, o = some (h, 0, ()) ∧ RA N es d r h := by
    rintro o ⟨⟨h, e, _⟩, h1, h2, h3⟩
    simp only at h2 h3
    subst h2
    exact ⟨h, h1, h3⟩
  refine conv _ (iterK_ex (fun v : List (List Int) × Int × Unit => v.2.1 = 0 ∧ RA N es d r v.1) (fun s : Int × List (List Int) × Unit => N + 1 - s.1.toNat) (fun s => ∃ k : Nat, s.1 = k ∧ k ≤ N + 1 ∧ RS N es d r s.2.1 ∧ ∀ vs v i, Hq es d r vs v i → vs.length ≤ k → (i : Int) ∈ rw_ s.2.1 v) ?_ _ _ ⟨0, rfl, by omega, rs_start, fun vs v i hq hv => ?_⟩ (by simp only; omega))
  rotate_left
  · cases hq <;> simp at hv
  rintro ⟨q, h, _⟩ k1 ⟨k, hk, hkN, hS, hA⟩ ih1
  simp only at hk hS hA
  subst hk
  by_cases hkn : k ≤ N
  · have hkn2 : (k : Int) ≤ (N : Int) := by omega
    simp only [hkn2, decide_true, if_true]
    refine iterK_ex (fun v : List (List Int) × Int × Unit => v.2.1 = 0 ∧ RA N es d r v.1) (fun s : Int × List (List Int) × Unit => es.length - s.1.toNat) (fun s => ∃ j : Nat, s.1 = j ∧ j ≤ es.length ∧ RS N es d r s.2.1 ∧ (∀ v, ∀ y ∈ rw_ h v, y ∈ rw_ s.2.1 v) ∧
      ∀ (q : Nat) x, q < j → es[q]? = some x → tightB d x = true → x.2.1.toNat ≠ r → (x.1.toNat = r → (q : Int) ∈ rw_ s.2.1 x.2.1.toNat) ∧ (x.1.toNat ≠ r → ∀ y ∈ rw_ h x.1.toNat, y ∈ rw_ s.2.1 x.2.1.toNat)) ?_ _ _ ⟨0, rfl, by omega, hS, fun _ _ hy => hy, fun q x hq => absurd hq (Nat.not_lt_zero _)⟩ (by simp only; omega)
    rintro ⟨q, h1, _⟩ k2 ⟨j, hj, hjl, hS1, hsub, hpr⟩ ih2
    simp only at hj hS1 hsub hpr
    subst hj
    simp only [Int.toNat_natCast]
    by_cases hjn : j < es.length
    · have hjn2 : (j : Int) < (es.length : Int) := Int.ofNat_lt.2 hjn
      have hjn3 : (j : Int) < ((es.map (tightB d)).length : Int) := by rw [List.length_map]; exact hjn2
      have hget : es[j]? = some (rdZ zE es j) := by rw [rdZ_get zE es j hjn]; exact List.getElem?_eq_getElem hjn
      have hta := tight_at d es j hjn
      have hw : IntKind.i64.wrap ((j : Int) + 1) = (j : Int) + 1 := w64 (by omega)
      simp only [hjn2, decide_true, if_true]
      rw [if_pos ⟨Int.natCast_nonneg _, trivial⟩, if_pos ⟨Int.natCast_nonneg _, hjn3⟩, hta, hw]
      obtain ⟨x, hx⟩ : ∃ x, rdZ zE es j = x := ⟨_, rfl⟩
      simp only [hx] at hget ⊢
      have hmem : x ∈ es := List.mem_of_getElem? hget
      have he := ho.edge x hmem
      have n1 := ho.fr hmem
      have n2 := ho.to hmem
      have hl1 := hS1.len
      have keep : ∀ h2 : List (List Int), RS N es d r h2 → (∀ v, ∀ y ∈ rw_ h1 v, y ∈ rw_ h2 v) → (tightB d x = true → x.2.1.toNat ≠ r → (x.1.toNat = r → (j : Int) ∈ rw_ h2 x.2.1.toNat) ∧ (x.1.toNat ≠ r → ∀ y ∈ rw_ h1 x.1.toNat, y ∈ rw_ h2 x.2.1.toNat)) → ∃ v, k2 ((j : Int) + 1, h2, ()) = some v ∧ (v.2.1 = 0 ∧ RA N es d r v.1) := by
        intro h2 g1 g2 g3
        refine ih2 _ ⟨j + 1, rfl, hjn, g1, fun v y hy => g2 v y (hsub v y hy), fun q z hq hz ht hn => ?_⟩ (by simp only; omega)
        simp only
        by_cases e : q = j
        · subst e
          rw [hget] at hz
          cases hz
          exact ⟨(g3 ht hn).1, fun hne y hy => (g3 ht hn).2 hne y (hsub _ y hy)⟩
        · have := hpr q z (by omega) hz ht hn
          exact ⟨fun e => g2 _ _ (this.1 e), fun hne y hy => g2 _ _ (this.2 hne y hy)⟩
      cases ht : tightB d x with
      | false =>
        simp only [Bool.not_false, if_true]
        exact keep h1 hS1 (fun _ _ hy => hy) fun h => by rw [ht] at h; cases h
      | true =>
        simp only [Bool.not_true, Bool.false_eq_true, if_false]
        by_cases c1 : x.2.1 = (r : Int)
        · simp only [c1, decide_true, if_true]
          exact keep h1 hS1 (fun _ _ hy => hy) fun _ hn => absurd (by omega) hn
        · have c1' : x.2.1.toNat ≠ r := by omega
          simp only [c1, decide_false, Bool.false_eq_true, if_false]
          by_cases c2 : x.1 = (r : Int)
          · have c2' : x.1.toNat = r := by omega
            simp only [c2, decide_true, if_true]
            obtain ⟨l, p1, p2, p3, p4, _⟩ := rs_into ho hS1 n2 j (Hp.one hget ht c2' c1')
            rw [if_pos (by omega), fold_rw, p1]
            simp only [bind_eq]
            rw [if_pos (by omega)]
            exact keep _ p2 p3 fun _ _ => ⟨fun _ => p4, fun h => absurd c2' h⟩
          · have c2' : x.1.toNat ≠ r := by omega
            simp only [c2, decide_false, Bool.false_eq_true, if_false]
            have hsh := hS1.short ho n1
            refine iterK_ex (fun v : List (List Int) × Int × Unit => v.2.1 = 0 ∧ RA N es d r v.1) (fun s : Int × List (List Int) × Unit => (rw_ h1 x.1.toNat).length - s.1.toNat) (fun s => ∃ p : Nat, s.1 = p ∧ p ≤ (rw_ h1 x.1.toNat).length ∧ RS N es d r s.2.1 ∧ rw_ s.2.1 x.1.toNat = rw_ h1 x.1.toNat ∧ (∀ v, ∀ y ∈ rw_ h1 v, y ∈ rw_ s.2.1 v) ∧ ∀ q, q < p → rd (rw_ h1 x.1.toNat) q ∈ rw_ s.2.1 x.2.1.toNat) ?_ _ _ ⟨0, rfl, by omega, hS1, rfl, fun _ _ hy => hy, fun q hq => absurd hq (Nat.not_lt_zero _)⟩ (by simp only; omega)
            rintro ⟨q, h2, _⟩ k3 ⟨p, hp, hpl, hS2, hsame, hsub2, hin⟩ ih3
            simp only at hp hS2 hsame hsub2 hin
            subst hp
            have hl2 := hS2.len
            simp only [fold_rw, hsame, Int.toNat_natCast]
            rw [if_pos (by omega)]
            by_cases hpn : p < (rw_ h1 x.1.toNat).length
            · have hpn2 : (p : Int) < ((rw_ h1 x.1.toNat).length : Int) := Int.ofNat_lt.2 hpn
              simp only [hpn2, decide_true, if_true]
              have hy := rd_mem (rw_ h1 x.1.toNat) p hpn
              obtain ⟨i, ei, hpi⟩ := hS1.so _ n1 _ hy
              obtain ⟨l, p1, p2, p3, p4, p5⟩ := rs_into ho hS2 n2 i (Hp.step hpi hmem ht c1')
              rw [if_pos (by omega), if_pos (by omega), if_pos ⟨Int.natCast_nonneg _, trivial⟩, ei, p1]
              simp only [bind_eq]
              rw [if_pos (by omega), w64 (x := (p : Int) + 1) (by omega)]
              refine ih3 _ ⟨p + 1, rfl, hpn, p2, ?_, fun v y hy => p3 v y (hsub2 v y hy), fun q hq => ?_⟩ (by simp only; omega)
              · simp only
                rw [rw_set h2 x.2.1.toNat _ l (by omega)]
                by_cases e : x.2.1.toNat = x.1.toNat
                · rw [if_pos e, p5 (by rw [e, hsame, ← ei]; exact hy), e]; exact hsame
                · rw [if_neg e]; exact hsame
              · simp only
                by_cases e : q = p
                · rw [e, ei]; exact p4
                · exact p3 _ _ (hin q (by omega))
            · have hpn2 : ¬ (p : Int) < ((rw_ h1 x.1.toNat).length : Int) := fun h => hpn (Int.ofNat_lt.1 h)
              simp only [hpn2, decide_false, Bool.false_eq_true, if_false]
              refine keep h2 hS2 hsub2 fun _ _ => ⟨fun e => absurd e c2', fun _ y hy => ?_⟩
              obtain ⟨q, hq, rfl⟩ := List.getElem_of_mem hy
              rw [← rd_get _ q hq]
              exact hin q (by omega)
    · have hjn2 : ¬ (j : Int) < (es.length : Int) := fun h => hjn (Int.ofNat_lt.1 h)
      simp only [hjn2, decide_false, Bool.false_eq_true, if_false]
      rw [w64 (x := (k : Int) + 1) (by omega)]
      refine ih1 _ ⟨k + 1, rfl, by omega, hS1, fun vs v i hq hv => ?_⟩ (by simp only; omega)
      simp only
      cases hq with
      | @one i x g1 g2 g3 g4 =>
        exact (hpr i x (by have := (List.getElem?_eq_some_iff.1 g1).1; omega) g1 g2 g4).1 g3
      | @step vs i x g1 g2 g3 g4 g5 =>
        obtain ⟨q, hq, hqx⟩ := List.getElem_of_mem g2
        have hne := (hp_facts ho (hq_hp g1)).1
        simp only [List.length_cons] at hv
        exact (hpr q x (by omega) (by rw [List.getElem?_eq_getElem hq, hqx]) g3 g4).2 hne _ (hA _ _ _ g1 (by omega))
  · have hkn2 : ¬ (k : Int) ≤ (N : Int) := by omega
    simp only [hkn2, decide_false, Bool.false_eq_true, if_false]
    refine ⟨_, rfl, rfl, hS, fun v i hp => ?_⟩
    obtain ⟨vs, hq⟩ := hq_of hp
    exact hA vs v i hq (by have := hq_len ho hq; omega)
end Go.Proofs.Ytaemcnabccgnbaa.F
