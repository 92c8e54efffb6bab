/- Graphs: ways, and the one row of distances that is nowhere too far. -/
import Derived.Test.YtaemcnabccgnbaaLSe
set_option maxRecDepth 100000
set_option linter.unusedVariables false
set_option linter.unusedSimpArgs false
open Go Go.Proofs.Fr
namespace Go.Proofs.Ytaemcnabccgnbaa.F
/-- A graph that may be. -/
structure OKg (N : Nat) (es : List Eg) : Prop where
  pos : 1 ≤ N
  most : N ≤ 64
  len : es.length ≤ 400
  edge : ∀ x ∈ es, 0 ≤ x.1 ∧ x.1 < (N : Int) ∧ 0 ≤ x.2.1 ∧ x.2.1 < (N : Int) ∧ 0 ≤ x.2.2.1 ∧ x.2.2.1 ≤ 65535
theorem OKg.fr {N : Nat} {es : List Eg} (h : OKg N es) {x : Eg} (hx : x ∈ es) : x.1.toNat < N := by have := h.edge x hx; omega
theorem OKg.to {N : Nat} {es : List Eg} (h : OKg N es) {x : Eg} (hx : x ∈ es) : x.2.1.toNat < N := by have := h.edge x hx; omega
theorem OKg.co {N : Nat} {es : List Eg} (h : OKg N es) {x : Eg} (hx : x ∈ es) : 0 ≤ x.2.2.1 ∧ x.2.2.1 ≤ 65535 := by have := h.edge x hx; omega
/-- A way from r to v of length n. -/
inductive Wk (es : List Eg) (r : Nat) : Nat → Int → Prop
  | root : Wk es r r 0
  | step {n : Int} {x : Eg} : Wk es r x.1.toNat n → x ∈ es → Wk es r x.2.1.toNat (n + x.2.2.1)
/-- The distances. -/
structure SD (N : Nat) (es : List Eg) (r : Nat) (d : List Int) : Prop where
  len : d.length = N
  root : rd d r = 0
  le : ∀ v, v < N → rd d v ≤ 1099511627776
  wk : ∀ v, v < N → rd d v < 1099511627776 → Wk es r v (rd d v)
  cl : ∀ x ∈ es, rd d x.1.toNat < 1099511627776 → rd d x.2.1.toNat ≤ rd d x.1.toNat + x.2.2.1
theorem wk_lt {N : Nat} {es : List Eg} (h : OKg N es) {r v : Nat} {n : Int} (hr : r < N) (hw : Wk es r v n) : v < N ∧ 0 ≤ n := by
  induction hw with
  | root => exact ⟨hr, Int.le_refl _⟩
  | step _ hx ih => exact ⟨h.to hx, by have := h.co hx; omega⟩
theorem wk_one {es : List Eg} {x : Eg} (hx : x ∈ es) : Wk es x.1.toNat x.2.1.toNat x.2.2.1 := by
  have := Wk.step (es := es) (r := x.1.toNat) (x := x) Wk.root hx
  rwa [Int.zero_add] at this
theorem wk_cat {es : List Eg} {r u v : Nat} {n m : Int} (h1 : Wk es r u n) (h2 : Wk es u v m) : Wk es r v (n + m) := by
  induction h2 with
  | root => rw [Int.add_zero]; exact h1
  | step _ hx ih => rw [← Int.add_assoc]; exact Wk.step ih hx
theorem wk_rev {es : List Eg} {r v : Nat} {n : Int} (h : Wk es r v n) : Wk (es.map revE) v r n := by
  induction h with
  | root => exact Wk.root
  | @step n x _ hx ih =>
    have h1 : Wk (es.map revE) x.2.1.toNat x.1.toNat x.2.2.1 := wk_one (es := es.map revE) (x := revE x) (List.mem_map.2 ⟨x, hx, rfl⟩)
    rw [Int.add_comm]
    exact wk_cat h1 ih
theorem rev_back (es : List Eg) : (es.map revE).map revE = es := by rw [List.map_map]; exact List.map_id _
theorem sd_le {N : Nat} {es : List Eg} (h : OKg N es) {r v : Nat} {n : Int} {d : List Int} (hr : r < N) (hd : SD N es r d) (hw : Wk es r v n) (hn : n < 1099511627776) : rd d v ≤ n := by
  induction hw with
  | root => rw [hd.root]; exact Int.le_refl _
  | @step n x hw hx ih =>
    have := h.co hx
    have h1 := ih (by omega)
    have h2 := hd.cl x hx (by omega)
    omega
theorem sd_pos {N : Nat} {es : List Eg} (h : OKg N es) {r v : Nat} {d : List Int} (hr : r < N) (hd : SD N es r d) (hv : v < N) : 0 ≤ rd d v := by
  by_cases hl : rd d v < 1099511627776
  · exact (wk_lt h hr (hd.wk v hv hl)).2
  · omega
theorem sd_uniq {N : Nat} {es : List Eg} (h : OKg N es) {r : Nat} {d d' : List Int} (hr : r < N) (hd : SD N es r d) (hd' : SD N es r d') : d = d' := by
  have key : ∀ {d d' : List Int}, SD N es r d → SD N es r d' → ∀ v, v < N → rd d v ≤ rd d' v := by
    intro d d' hd hd' v hv
    by_cases hl : rd d' v < 1099511627776
    · exact sd_le h hr hd (hd'.wk v hv hl) hl
    · have := hd.le v hv; omega
  apply List.ext_getElem (by rw [hd.len, hd'.len])
  intro i h1 h2
  have hi : i < N := by rw [← hd.len]; exact h1
  have e1 := key hd hd' i hi
  have e2 := key hd' hd i hi
  rw [rd_get d i h1, rd_get d' i h2] at e1 e2
  omega
/-- A way that meets no node twice. -/
inductive Sp1 (es : List Eg) (r : Nat) : List Nat → Nat → Int → Prop
  | root : Sp1 es r [r] r 0
  | step {vs : List Nat} {n : Int} {x : Eg} : Sp1 es r vs x.1.toNat n → x ∈ es → x.2.1.toNat ∉ vs → Sp1 es r (x.2.1.toNat :: vs) x.2.1.toNat (n + x.2.2.1)
theorem sp_mem {N : Nat} {es : List Eg} (h : OKg N es) {r u v : Nat} {n : Int} {vs : List Nat} (hs : Sp1 es r vs u n) (hv : v ∈ vs) : ∃ vs' n', n' ≤ n ∧ Sp1 es r vs' v n' := by
  induction hs with
  | root =>
    have : v = r := by simpa using hv
    subst this
    exact ⟨_, _, Int.le_refl _, Sp1.root⟩
  | @step vs n x hs hx hn ih =>
    have := h.co hx
    rcases List.mem_cons.1 hv with rfl | hv
    · exact ⟨_, _, Int.le_refl _, Sp1.step hs hx hn⟩
    · obtain ⟨vs', n', h1, h2⟩ := ih hv
      exact ⟨vs', n', by omega, h2⟩
theorem sp_of_wk {N : Nat} {es : List Eg} (h : OKg N es) {r v : Nat} {n : Int} (hw : Wk es r v n) : ∃ vs n', n' ≤ n ∧ Sp1 es r vs v n' := by
  induction hw with
  | root => exact ⟨_, _, Int.le_refl _, Sp1.root⟩
  | @step n x hw hx ih =>
    obtain ⟨vs, n', h1, h2⟩ := ih
    have := h.co hx
    by_cases hm : x.2.1.toNat ∈ vs
    · obtain ⟨vs', n'', h3, h4⟩ := sp_mem h h2 hm
      exact ⟨vs', n'', by omega, h4⟩
    · exact ⟨_, _, by omega, Sp1.step h2 hx hm⟩
theorem pig : ∀ (N : Nat) (l : List Nat), l.Nodup → (∀ x ∈ l, x < N) → l.length ≤ N
  | 0, [], _, _ => Nat.le_refl _
  | 0, x :: l, _, h => absurd (h x (.head _)) (Nat.not_lt_zero _)
  | N + 1, l, hn, h => by
    by_cases hm : N ∈ l
    · have h1 := pig N (l.erase N) (hn.erase N) fun x hx => by
        have h2 := (List.Nodup.mem_erase_iff hn).1 hx
        have h3 := h x h2.2
        have h4 : x ≠ N := h2.1
        omega
      rw [List.length_erase_of_mem hm] at h1
      omega
    · have := pig N l hn fun x hx => by
        have h1 := h x hx
        have h2 : x ≠ N := fun e => hm (e ▸ hx)
        omega
      omega
theorem sp_facts {N : Nat} {es : List Eg} (h : OKg N es) {r v : Nat} {n : Int} {vs : List Nat} (hr : r < N) (hs : Sp1 es r vs v n) : vs.Nodup ∧ (∀ x ∈ vs, x < N) ∧ n + 65535 ≤ 65535 * (vs.length : Int) ∧ Wk es r v n := by
  induction hs with
  | root => exact ⟨by simp, by simpa using hr, by simp, Wk.root⟩
  | @step vs n x hs hx hn ih =>
    obtain ⟨h1, h2, h3, h4⟩ := ih
    have := h.co hx
    refine ⟨List.nodup_cons.2 ⟨hn, h1⟩, fun y hy => ?_, by simp only [List.length_cons]; omega, Wk.step h4 hx⟩
    rcases List.mem_cons.1 hy with rfl | hy
    · exact h.to hx
    · exact h2 y hy
theorem sp_len {N : Nat} {es : List Eg} (h : OKg N es) {r v : Nat} {n : Int} {vs : List Nat} (hr : r < N) (hs : Sp1 es r vs v n) : vs.length ≤ N :=
  pig N vs (sp_facts h hr hs).1 (sp_facts h hr hs).2.1
theorem sd_bound {N : Nat} {es : List Eg} (h : OKg N es) {r v : Nat} {d : List Int} (hr : r < N) (hd : SD N es r d) (hv : v < N) (hl : rd d v < 1099511627776) : rd d v ≤ 4194240 := by
  obtain ⟨vs, n', h1, h2⟩ := sp_of_wk h (hd.wk v hv hl)
  have h3 := sp_len h hr h2
  have h4 := (sp_facts h hr h2).2.2.1
  have h5 := h.most
  have h6 := sd_le h hr hd (sp_facts h hr h2).2.2.2 (by omega)
  omega
/-- Nothing is lost the other way round. -/
theorem okg_rev {N : Nat} {es : List Eg} (h : OKg N es) : OKg N (es.map revE) := by
  refine ⟨h.pos, h.most, by rw [List.length_map]; exact h.len, fun x hx => ?_⟩
  obtain ⟨y, hy, rfl⟩ := List.mem_map.1 hx
  have := h.edge y hy
  unfold revE
  simp only
  omega
theorem sd_rev {N : Nat} {es : List Eg} (h : OKg N es) {a b : Nat} {d c : List Int} (ha : a < N) (hb : b < N) (hd : SD N es a d) (hc : SD N (es.map revE) b c) : rd d b = rd c a := by
  have h1 : rd c a ≤ rd d b := by
    by_cases hl : rd d b < 1099511627776
    · exact sd_le (okg_rev h) hb hc (wk_rev (hd.wk b hb hl)) hl
    · have := hc.le a ha; omega
  have h2 : rd d b ≤ rd c a := by
    by_cases hl : rd c a < 1099511627776
    · have := wk_rev (hc.wk a ha hl)
      rw [rev_back] at this
      exact sd_le h ha hd this hl
    · have := hd.le b hb; omega
  omega
/-- The last edge of a shortest way. -/
theorem sd_last {N : Nat} {es : List Eg} (h : OKg N es) {r v : Nat} {d : List Int} (hr : r < N) (hd : SD N es r d) (hv : v < N) (hl : rd d v < 1099511627776) : v = r ∨ ∃ x ∈ es, x.2.1.toNat = v ∧ rd d x.1.toNat < 1099511627776 ∧ rd d x.1.toNat + x.2.2.1 = rd d v := by
  have hw := hd.wk v hv hl
  generalize hn : rd d v = n at hw hl
  cases hw with
  | root => exact .inl rfl
  | @step m x hw hx =>
    have hc := h.co hx
    have h1 := sd_le h hr hd hw (by omega)
    have h2 := hd.cl x hx (by omega)
    exact .inr ⟨x, hx, rfl, by omega, by omega⟩
end Go.Proofs.Ytaemcnabccgnbaa.F
