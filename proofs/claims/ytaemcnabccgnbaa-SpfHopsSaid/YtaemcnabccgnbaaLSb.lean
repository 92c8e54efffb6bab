/- Graphs: the document's distances: each edge as many times as there are nodes. -/
import Derived.Test.YtaemcnabccgnbaaLSm
set_option maxRecDepth 100000
set_option linter.unusedVariables false
set_option linter.unusedSimpArgs false
open Go Go.Proofs.Fr
namespace Go.Proofs.Ytaemcnabccgnbaa.F
theorem rd_set (l : List Int) (i j : Nat) (x : Int) (hi : i < l.length) : rd (l.set i x) j = if i = j then x else rd l j := by
  unfold rd
  rw [List.getD_eq_getElem?_getD, List.getD_eq_getElem?_getD, List.getElem?_set]
  by_cases h : i = j
  · subst h; simp [hi]
  · simp [h]
/-- Distances that ways reach. -/
structure BI (N : Nat) (es : List Eg) (r : Nat) (d : List Int) : Prop where
  len : d.length = N
  root : rd d r = 0
  le : ∀ v, v < N → rd d v ≤ 1099511627776
  wk : ∀ v, v < N → rd d v < 1099511627776 → Wk es r v (rd d v)
theorem BI.relax {N : Nat} {es : List Eg} {r : Nat} {d : List Int} {x : Eg} (h : OKg N es) (hr : r < N) (hb : BI N es r d) (hx : x ∈ es) (hu : rd d x.1.toNat < 1099511627776) (hl : rd d x.1.toNat + x.2.2.1 < rd d x.2.1.toNat) : BI N es r (d.set x.2.1.toNat (rd d x.1.toNat + x.2.2.1)) := by
  have h1 := h.fr hx
  have h2 := h.to hx
  have h3 := h.co hx
  have hs : ∀ j, rd (d.set x.2.1.toNat (rd d x.1.toNat + x.2.2.1)) j = if x.2.1.toNat = j then rd d x.1.toNat + x.2.2.1 else rd d j := fun j => rd_set _ _ _ _ (by rw [hb.len]; exact h2)
  have hw := Wk.step (hb.wk _ h1 hu) hx
  have hp := (wk_lt h hr hw).2
  refine ⟨by rw [List.length_set]; exact hb.len, ?_, fun v hv => ?_, fun v hv hlt => ?_⟩
  · rw [hs]
    by_cases e : x.2.1.toNat = r
    · rw [e, hb.root] at hl; omega
    · rw [if_neg e]; exact hb.root
  · rw [hs]
    have := hb.le v hv
    by_cases e : x.2.1.toNat = v
    · rw [e] at hl; rw [if_pos e]; omega
    · rw [if_neg e]; exact this
  · rw [hs] at hlt ⊢
    by_cases e : x.2.1.toNat = v
    · rw [if_pos e, ← e]; exact hw
    · rw [if_neg e] at hlt ⊢; exact hb.wk v hv hlt
/-- Behind so many rounds. -/
def BF (N : Nat) (es : List Eg) (r k : Nat) (d : List Int) : Prop := BI N es r d ∧ ∀ vs v n, Sp1 es r vs v n → vs.length ≤ k + 1 → rd d v ≤ n
theorem sp_small {N : Nat} {es : List Eg} (h : OKg N es) {r v : Nat} {n : Int} {vs : List Nat} (hr : r < N) (hs : Sp1 es r vs v n) : n < 1099511627776 := by
  have h1 := (sp_facts h hr hs).2.2.1
  have h2 := sp_len h hr hs
  have h3 := h.most
  omega
theorem sp_pos {es : List Eg} {r v : Nat} {n : Int} {vs : List Nat} (hs : Sp1 es r vs v n) : 1 ≤ vs.length := by
  induction hs with
  | root => simp
  | step _ _ _ _ => simp
theorem BF.start {N : Nat} {es : List Eg} {r : Nat} {l : List Int} (h : OKg N es) (hr : r < N) (hl : l.length = N) (ha : ∀ j, j < N → rd l j = 1099511627776) : BF N es r 0 (l.set r 0) := by
  have hs : ∀ j, rd (l.set r 0) j = if r = j then 0 else rd l j := fun j => rd_set _ _ _ _ (by omega)
  refine ⟨⟨by rw [List.length_set]; exact hl, by rw [hs, if_pos rfl], fun v hv => ?_, fun v hv hlt => ?_⟩, fun vs v n hsp hv => ?_⟩
  · rw [hs]
    by_cases e : r = v
    · rw [if_pos e]; omega
    · rw [if_neg e, ha v hv]; omega
  · rw [hs] at hlt ⊢
    by_cases e : r = v
    · rw [if_pos e, ← e]; exact Wk.root
    · rw [if_neg e, ha v hv] at hlt; omega
  · cases hsp with
    | root => rw [hs, if_pos rfl]; omega
    | step h1 h2 h3 =>
      simp only [List.length_cons] at hv
      have := sp_pos h1
      omega
theorem BF.next {N : Nat} {es : List Eg} {r k : Nat} {d d' : List Int} (h : OKg N es) (hr : r < N) (hb : BF N es r k d) (hb' : BI N es r d') (hp : ∀ x ∈ es, rd d x.1.toNat < 1099511627776 → rd d' x.2.1.toNat ≤ rd d x.1.toNat + x.2.2.1) : BF N es r (k + 1) d' := by
  refine ⟨hb', fun vs v n hs hv => ?_⟩
  cases hs with
  | root => rw [hb'.root]; omega
  | @step vs n x h1 h2 h3 =>
    simp only [List.length_cons] at hv
    have h4 := hb.2 _ _ _ h1 (by omega)
    have h5 := sp_small h hr h1
    have h6 := hp x h2 (by omega)
    omega
theorem BF.done {N : Nat} {es : List Eg} {r : Nat} {d : List Int} (h : OKg N es) (hr : r < N) (hb : BF N es r N d) : SD N es r d := by
  refine ⟨hb.1.len, hb.1.root, hb.1.le, hb.1.wk, fun x hx hl => ?_⟩
  obtain ⟨vs, n', h1, h2⟩ := sp_of_wk h (Wk.step (hb.1.wk _ (h.fr hx) hl) hx)
  have := hb.2 _ _ _ h2 (by have := sp_len h hr h2; omega)
  omega
theorem rdist_no (g : Gr) (r : Int) (hl : g.2.1.length ≤ 100000) (h : ¬ (mayB g = true ∧ 0 ≤ r ∧ r < g.1)) : ref05_Dist.p (g, r, ()) = some ([], 1, ()) := by
  unfold ref05_Dist.p
  simp only [jn_eq, rmay_eq g hl, Option.bind_some]
  by_cases h1 : mayB g = true
  · by_cases h2 : r < 0
    · simp only [h1, h2, Bool.not_true, Bool.false_eq_true, if_false, decide_true, if_true]
    · have h3 : r ≥ g.1 := by
        by_cases h3 : r < g.1
        · exact absurd ⟨h1, by omega, h3⟩ h
        · omega
      simp only [h1, h2, h3, Bool.not_true, Bool.false_eq_true, if_false, decide_true, decide_false, if_true]
  · simp only [h1, Bool.not_false, if_true]
theorem rdist_ex {N r : Nat} {es : List Eg} (h : OKg N es) (hm : mayB ((N : Int), es, ()) = true) (hr : r < N) : ∃ d, ref05_Dist.p (((N : Int), es, ()), (r : Int), ()) = some (d, 0, ()) ∧ SD N es r d := by
  have hN := h.most
  have hlen := h.len
  unfold ref05_Dist.p
  simp only [jn_eq, rmay_eq ((N : Int), es, ()) (show es.length ≤ 100000 by omega), Option.bind_some, hm, Bool.not_true, Bool.false_eq_true, if_false]
  have e1 : ¬ ((r : Int) < 0) := by omega
  have e2 : ¬ ((r : Int) ≥ (N : Int)) := by omega
  simp only [e1, e2, decide_false, Bool.false_eq_true, if_false]
  rw [if_pos (by unfold maxBytes; omega)]
  have conv : ∀ o : Option (List Int × Int × Unit), (∃ v : List Int × Int × Unit, o = some v ∧ (v.2.1 = 0 ∧ SD N es r v.1)) → ∃ d, o = some (d, 0, ()) ∧ SD N es r d := by
    rintro o ⟨⟨d, e, _⟩, h1, h2, h3⟩
    simp only at h2 h3
    subst h2
    exact ⟨d, h1, h3⟩
  refine conv _ (iterK_ex (fun v : List Int × Int × Unit => v.2.1 = 0 ∧ SD N es r v.1) (fun s : Int × List Int × Unit => N - s.1.toNat) (fun s => ∃ i : Nat, s.1 = i ∧ i ≤ N ∧ s.2.1.length = N ∧ ∀ j, j < i → rd s.2.1 j = 1099511627776) ?_ _ _ ⟨0, rfl, by omega, by simp, fun j hj => absurd hj (Nat.not_lt_zero _)⟩ (by simp only; omega))
  rintro ⟨q, l, _⟩ k1 ⟨i, hi, hiN, hl, ha⟩ ih1
  simp only at hi hl ha
  subst hi
  simp only [Int.toNat_natCast]
  by_cases hin : i < N
  · have hin2 : (i : Int) < (N : Int) := by omega
    simp only [hin2, decide_true, if_true]
    rw [if_pos (by omega), w64 (x := (i : Int) + 1) (by omega)]
    refine ih1 _ ⟨i + 1, rfl, hin, by simp [hl], fun j hj => ?_⟩ (by simp only; omega)
    simp only
    rw [rd_set _ _ _ _ (by omega)]
    by_cases e : i = j
    · rw [if_pos e]
    · rw [if_neg e]; exact ha j (by omega)
  · have hin2 : ¬ (i : Int) < (N : Int) := by omega
    simp only [hin2, decide_false, Bool.false_eq_true, if_false]
    rw [if_pos (by omega)]
    have hstart := BF.start h hr hl fun j hj => ha j (by omega)
    refine iterK_ex (fun v : List Int × Int × Unit => v.2.1 = 0 ∧ SD N es r v.1) (fun s : Int × List Int × Unit => N - s.1.toNat) (fun s => ∃ k : Nat, s.1 = k ∧ k ≤ N ∧ BF N es r k s.2.1) ?_ _ _ ⟨0, rfl, by omega, hstart⟩ (by simp only; omega)
    rintro ⟨q, d, _⟩ k2 ⟨k, hk, hkN, hb⟩ ih2
    simp only at hk hb
    subst hk
    by_cases hkn : k < N
    · have hkn2 : (k : Int) < (N : Int) := by omega
      simp only [hkn2, decide_true, if_true]
      refine iterK_ex (fun v : List Int × Int × Unit => v.2.1 = 0 ∧ SD N es r v.1) (fun s : Int × List Int × Unit => es.length - s.1.toNat) (fun s => ∃ j : Nat, s.1 = j ∧ j ≤ es.length ∧ BI N es r s.2.1 ∧ (∀ v, rd s.2.1 v ≤ rd d v) ∧ ∀ (q : Nat) x, q < j → es[q]? = some x → rd d x.1.toNat < 1099511627776 → rd s.2.1 x.2.1.toNat ≤ rd d x.1.toNat + x.2.2.1) ?_ _ _ ⟨0, rfl, by omega, hb.1, fun _ => Int.le_refl _, fun q x hq => absurd hq (Nat.not_lt_zero _)⟩ (by simp only; omega)
      rintro ⟨q, d', _⟩ k3 ⟨j, hj, hjl, hb', hle, hpr⟩ ih3
      simp only at hj hb' hle hpr
      subst hj
      simp only [Int.toNat_natCast]
      by_cases hjn : j < es.length
      · have hjn2 : (j : Int) < (es.length : Int) := Int.ofNat_lt.2 hjn
        simp only [hjn2, decide_true, if_true]
        rw [if_pos ⟨Int.natCast_nonneg _, trivial⟩, w64 (x := (j : Int) + 1) (by omega)]
        have hget : es[j]? = some (rdZ zE es j) := by rw [rdZ_get zE es j hjn]; exact List.getElem?_eq_getElem hjn
        obtain ⟨x, hx⟩ : ∃ x, rdZ zE es j = x := ⟨_, rfl⟩
        rw [hx] at hget
        have hmem : x ∈ es := List.mem_of_getElem? hget
        have he := h.edge x hmem
        have hdl := hb'.len
        have f1 : 0 ≤ x.1 ∧ x.1 < (d'.length : Int) := by omega
        have f2 : 0 ≤ x.2.1 ∧ x.2.1 < (d'.length : Int) := by omega
        have n1 := h.fr hmem
        have n2 := h.to hmem
        simp only [hx]
        rw [if_pos f1]
        have keep : ∀ d'' : List Int, BI N es r d'' → (∀ v, rd d'' v ≤ rd d' v) → (rd d x.1.toNat < 1099511627776 → rd d'' x.2.1.toNat ≤ rd d x.1.toNat + x.2.2.1) → ∃ v, k3 ((j : Int) + 1, d'', ()) = some v ∧ (v.2.1 = 0 ∧ SD N es r v.1) := by
          intro d'' hb2 hle2 hnew
          refine ih3 _ ⟨j + 1, rfl, hjn, hb2, fun v => Int.le_trans (hle2 v) (hle v), fun q y hq hy hlt => ?_⟩ (by simp only; omega)
          simp only
          by_cases e : q = j
          · subst e
            rw [hget] at hy
            cases hy
            exact hnew hlt
          · exact Int.le_trans (hle2 _) (hpr q y (by omega) hy hlt)
        have hxl := hle x.1.toNat
        by_cases c1 : rd d' x.1.toNat < 1099511627776
        · have hp := (wk_lt h hr (hb'.wk _ n1 c1)).2
          simp only [c1, decide_true, if_true]
          rw [if_pos f1, if_pos f2, w64 (x := rd d' x.1.toNat + x.2.2.1) (by omega)]
          by_cases c2 : rd d' x.1.toNat + x.2.2.1 < rd d' x.2.1.toNat
          · simp only [c2, decide_true, if_true]
            rw [if_pos f1, if_pos f2]
            refine keep _ (hb'.relax h hr hmem c1 c2) (fun v => ?_) (fun _ => ?_)
            · rw [rd_set _ _ _ _ (by omega)]
              by_cases e : x.2.1.toNat = v
              · rw [if_pos e, ← e]; omega
              · rw [if_neg e]; exact Int.le_refl _
            · rw [rd_set _ _ _ _ (by omega), if_pos rfl]; omega
          · simp only [c2, decide_false, Bool.false_eq_true, if_false]
            exact keep d' hb' (fun _ => Int.le_refl _) fun _ => by omega
        · simp only [c1, decide_false, Bool.false_eq_true, if_false]
          exact keep d' hb' (fun _ => Int.le_refl _) fun _ => by omega
      · have hjn2 : ¬ (j : Int) < (es.length : Int) := fun h => hjn (Int.ofNat_lt.1 h)
        simp only [hjn2, decide_false, Bool.false_eq_true, if_false]
        rw [w64 (x := (k : Int) + 1) (by omega)]
        refine ih2 _ ⟨k + 1, rfl, hkn, BF.next h hr hb hb' fun x hx hlt => ?_⟩ (by simp only; omega)
        obtain ⟨q, hq, rfl⟩ := List.getElem_of_mem hx
        exact hpr q _ (by omega) (List.getElem?_eq_getElem hq) hlt
    · have hkn2 : ¬ (k : Int) < (N : Int) := by omega
      simp only [hkn2, decide_false, Bool.false_eq_true, if_false]
      have e : k = N := by omega
      subst e
      exact ⟨_, rfl, rfl, BF.done h hr hb⟩
end Go.Proofs.Ytaemcnabccgnbaa.F
