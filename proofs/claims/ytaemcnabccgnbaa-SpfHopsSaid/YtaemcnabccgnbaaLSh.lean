/- Graphs: the hops of each node: what tight edges hand on. -/
import Derived.Test.YtaemcnabccgnbaaLSr
set_option maxRecDepth 100000
set_option linter.unusedVariables false
set_option linter.unusedSimpArgs false
open Go Go.Proofs.Fr
namespace Go.Proofs.Ytaemcnabccgnbaa.F
theorem tight_iff {N r : Nat} {es : List Eg} {d : List Int} (ho : OKg N es) (hr : r < N) (hd : SD N es r d) {x : Eg} (hx : x ∈ es) : tightB d x = true ↔ rd d x.1.toNat < 1099511627776 ∧ rd d x.1.toNat + x.2.2.1 = rd d x.2.1.toNat := by
  have he := ho.edge x hx
  have hl := hd.len
  have hle := hd.le _ (ho.fr hx)
  have hp := sd_pos ho hr hd (ho.fr hx)
  unfold tightB
  rw [if_pos (by omega), w64 (by omega)]
  by_cases h : rd d x.1.toNat = 1099511627776
  · rw [if_pos h]
    constructor
    · intro h; cases h
    · intro h2; omega
  · rw [if_neg h, decide_eq_true_eq]
    constructor
    · intro h2; exact ⟨by omega, h2⟩
    · intro h2; exact h2.2
/-- Edge i is a hop of v. -/
inductive Hp (es : List Eg) (d : List Int) (r : Nat) : Nat → Nat → Prop
  | one {i : Nat} {x : Eg} : es[i]? = some x → tightB d x = true → x.1.toNat = r → x.2.1.toNat ≠ r → Hp es d r x.2.1.toNat i
  | step {i : Nat} {x : Eg} : Hp es d r x.1.toNat i → x ∈ es → tightB d x = true → x.2.1.toNat ≠ r → Hp es d r x.2.1.toNat i
theorem hp_facts {N r : Nat} {es : List Eg} {d : List Int} (ho : OKg N es) {v i : Nat} (h : Hp es d r v i) : v ≠ r ∧ v < N ∧ i < es.length := by
  induction h with
  | one h1 h2 h3 h4 => exact ⟨h4, ho.to (List.mem_of_getElem? h1), (List.getElem?_eq_some_iff.1 h1).1⟩
  | step _ hx _ h4 ih => exact ⟨h4, ho.to hx, ih.2.2⟩
/-- Likewise, on a way that meets no node twice. -/
inductive Hq (es : List Eg) (d : List Int) (r : Nat) : List Nat → Nat → Nat → Prop
  | one {i : Nat} {x : Eg} : es[i]? = some x → tightB d x = true → x.1.toNat = r → x.2.1.toNat ≠ r → Hq es d r [x.2.1.toNat] x.2.1.toNat i
  | step {vs : List Nat} {i : Nat} {x : Eg} : Hq es d r vs x.1.toNat i → x ∈ es → tightB d x = true → x.2.1.toNat ≠ r → x.2.1.toNat ∉ vs → Hq es d r (x.2.1.toNat :: vs) x.2.1.toNat i
theorem hq_mem {r : Nat} {es : List Eg} {d : List Int} {vs : List Nat} {u v i : Nat} (h : Hq es d r vs u i) (hv : v ∈ vs) : ∃ vs', Hq es d r vs' v i := by
  induction h with
  | @one i x h1 h2 h3 h4 =>
    have : v = x.2.1.toNat := by simpa using hv
    subst this
    exact ⟨_, Hq.one h1 h2 h3 h4⟩
  | @step vs i x h1 h2 h3 h4 h5 ih =>
    rcases List.mem_cons.1 hv with rfl | hv
    · exact ⟨_, Hq.step h1 h2 h3 h4 h5⟩
    · exact ih hv
theorem hq_of {r : Nat} {es : List Eg} {d : List Int} {v i : Nat} (h : Hp es d r v i) : ∃ vs, Hq es d r vs v i := by
  induction h with
  | one h1 h2 h3 h4 => exact ⟨_, Hq.one h1 h2 h3 h4⟩
  | @step i x _ hx ht hn ih =>
    obtain ⟨vs, hq⟩ := ih
    by_cases hm : x.2.1.toNat ∈ vs
    · exact hq_mem hq hm
    · exact ⟨_, Hq.step hq hx ht hn hm⟩
theorem hq_hp {r : Nat} {es : List Eg} {d : List Int} {vs : List Nat} {v i : Nat} (h : Hq es d r vs v i) : Hp es d r v i := by
  induction h with
  | one h1 h2 h3 h4 => exact Hp.one h1 h2 h3 h4
  | step _ hx ht hn _ ih => exact Hp.step ih hx ht hn
theorem hq_len {N r : Nat} {es : List Eg} {d : List Int} (ho : OKg N es) {vs : List Nat} {v i : Nat} (h : Hq es d r vs v i) : vs.length ≤ N := by
  have key : vs.Nodup ∧ ∀ y ∈ vs, y < N := by
    induction h with
    | one h1 h2 h3 h4 => exact ⟨by simp, by simpa using ho.to (List.mem_of_getElem? h1)⟩
    | step _ hx _ _ hn ih =>
      refine ⟨List.nodup_cons.2 ⟨hn, ih.1⟩, fun y hy => ?_⟩
      rcases List.mem_cons.1 hy with rfl | hy
      · exact ho.to hx
      · exact ih.2 y hy
  exact pig N vs key.1 key.2
/-- Rows that rise. -/
def Ri (l : List Int) : Prop := l.Pairwise (· < ·)
theorem ri_nodup {l : List Int} (h : Ri l) : l.Nodup := h.imp fun {a b} h e => by omega
theorem ri_uniq : ∀ {a b : List Int}, Ri a → Ri b → (∀ y, y ∈ a ↔ y ∈ b) → a = b
  | [], [], _, _, _ => rfl
  | [], b :: bs, _, _, h => by have := (h b).2 (.head _); cases this
  | a :: as, [], _, _, h => by have := (h a).1 (.head _); cases this
  | a :: as, b :: bs, ha, hb, h => by
    have ha' := List.pairwise_cons.1 ha
    have hb' := List.pairwise_cons.1 hb
    have e : a = b := by
      rcases List.mem_cons.1 ((h a).1 (.head _)) with h1 | h1
      · exact h1
      · rcases List.mem_cons.1 ((h b).2 (.head _)) with h2 | h2
        · exact h2.symm
        · have := hb'.1 a h1; have := ha'.1 b h2; omega
    subst e
    rw [ri_uniq ha'.2 hb'.2 fun y => ?_]
    have hy := h y
    simp only [List.mem_cons] at hy
    constructor
    · intro h1
      rcases hy.1 (.inr h1) with h2 | h2
      · have := ha'.1 y h1; omega
      · exact h2
    · intro h1
      rcases hy.2 (.inr h1) with h2 | h2
      · have := hb'.1 y h1; omega
      · exact h2
theorem sub_len {α : Type} [BEq α] [LawfulBEq α] : ∀ (l m : List α), l.Nodup → (∀ y ∈ l, y ∈ m) → l.length ≤ m.length
  | [], _, _, _ => Nat.zero_le _
  | a :: l, m, hn, h => by
    have hn' := List.nodup_cons.1 hn
    have ha := h a (.head _)
    have h1 := sub_len l (m.erase a) hn'.2 fun y hy => by
      have hne : y ≠ a := fun e => hn'.1 (e ▸ hy)
      exact (List.mem_erase_of_ne hne).2 (h y (.tail _ hy))
    rw [List.length_erase_of_mem ha] at h1
    have := List.length_pos_of_mem ha
    simp only [List.length_cons]
    omega
theorem sub_all {l m : List Int} (hl : l.Nodup) (h : ∀ y ∈ l, y ∈ m) (hlen : m.length ≤ l.length) : ∀ y ∈ m, y ∈ l := by
  intro y hy
  by_cases hm : y ∈ l
  · exact hm
  · have h1 := sub_len l (m.erase y) hl fun z hz => by
      have hne : z ≠ y := fun e => hm (e ▸ hz)
      exact (List.mem_erase_of_ne hne).2 (h z hz)
    rw [List.length_erase_of_mem hy] at h1
    have := List.length_pos_of_mem hy
    omega
theorem ri_len {l : List Int} {n : Nat} (h : Ri l) (hb : ∀ y ∈ l, ∃ i : Nat, y = (i : Int) ∧ i < n) : l.length ≤ n := by
  have h1 := sub_len l ((List.range n).map fun i : Nat => (i : Int)) (ri_nodup h) fun y hy => by
    obtain ⟨i, rfl, hi⟩ := hb y hy
    exact List.mem_map.2 ⟨i, List.mem_range.2 hi, rfl⟩
  simpa using h1
/-- A node's row. -/
def rw_ (out : List (List Int)) (v : Nat) : List Int := rdZ [] out v
theorem rw_set (out : List (List Int)) (i j : Nat) (x : List Int) (hi : i < out.length) : rw_ (out.set i x) j = if i = j then x else rw_ out j := by
  unfold rw_ rdZ
  rw [List.getD_eq_getElem?_getD, List.getD_eq_getElem?_getD, List.getElem?_set]
  by_cases h : i = j
  · subst h; simp [hi]
  · simp [h]
/-- Rows that rise, of hops alone. -/
structure RS (N : Nat) (es : List Eg) (d : List Int) (r : Nat) (out : List (List Int)) : Prop where
  len : out.length = N
  ri : ∀ v, v < N → Ri (rw_ out v)
  so : ∀ v, v < N → ∀ y ∈ rw_ out v, ∃ i : Nat, y = (i : Int) ∧ Hp es d r v i
theorem RS.short {N r : Nat} {es : List Eg} {d : List Int} {out : List (List Int)} (ho : OKg N es) (h : RS N es d r out) {v : Nat} (hv : v < N) : (rw_ out v).length ≤ es.length :=
  ri_len (h.ri v hv) fun y hy => by
    obtain ⟨i, e, hp⟩ := h.so v hv y hy
    exact ⟨i, e, (hp_facts ho hp).2.2⟩
/-- All hops. -/
def RA (N : Nat) (es : List Eg) (d : List Int) (r : Nat) (out : List (List Int)) : Prop := RS N es d r out ∧ ∀ v i, Hp es d r v i → (i : Int) ∈ rw_ out v
theorem ra_uniq {N r : Nat} {es : List Eg} {d : List Int} {a b : List (List Int)} (ho : OKg N es) (ha : RA N es d r a) (hb : RA N es d r b) : a = b := by
  apply List.ext_getElem (by rw [ha.1.len, hb.1.len])
  intro v h1 h2
  have hv : v < N := by rw [← ha.1.len]; exact h1
  have e1 : rw_ a v = a[v] := rdZ_get _ a v h1
  have e2 : rw_ b v = b[v] := rdZ_get _ b v h2
  rw [← e1, ← e2]
  refine ri_uniq (ha.1.ri v hv) (hb.1.ri v hv) fun y => ⟨fun hy => ?_, fun hy => ?_⟩
  · obtain ⟨i, rfl, hp⟩ := ha.1.so v hv y hy
    exact hb.2 v i hp
  · obtain ⟨i, rfl, hp⟩ := hb.1.so v hv y hy
    exact ha.2 v i hp
theorem rs_start {N r : Nat} {es : List Eg} {d : List Int} : RS N es d r (List.replicate N []) := by
  have h : ∀ v, rw_ (List.replicate N []) v = [] := fun v => by
    unfold rw_ rdZ
    rw [List.getD_eq_getElem?_getD, List.getElem?_replicate]
    split <;> rfl
  refine ⟨List.length_replicate, fun v _ => by rw [h]; exact List.Pairwise.nil, fun v _ y hy => ?_⟩
  rw [h] at hy
  cases hy
theorem rs_set {N r t : Nat} {es : List Eg} {d : List Int} {out : List (List Int)} {l : List Int} (h : RS N es d r out) (ht : t < N) (hl : Ri l) (hs : ∀ y ∈ l, ∃ i : Nat, y = (i : Int) ∧ Hp es d r t i) : RS N es d r (out.set t l) := by
  have hg := fun j => rw_set out t j l (by rw [h.len]; exact ht)
  refine ⟨by rw [List.length_set]; exact h.len, fun v hv => ?_, fun v hv y hy => ?_⟩
  · rw [hg]
    by_cases e : t = v
    · rw [if_pos e]; exact hl
    · rw [if_neg e]; exact h.ri v hv
  · rw [hg] at hy
    by_cases e : t = v
    · rw [if_pos e] at hy; rw [← e]; exact hs y hy
    · rw [if_neg e] at hy; exact h.so v hv y hy
/-- A node has hops just if it has a distance, and is not the root. -/
theorem hp_any {N r : Nat} {es : List Eg} {d : List Int} (ho : OKg N es) (hr : r < N) (hd : SD N es r d) {v : Nat} {n : Int} (hw : Wk es r v n) (hn : n = rd d v) (hl : n < 1099511627776) : v = r ∨ ∃ i, Hp es d r v i := by
  induction hw with
  | root => exact .inl rfl
  | @step m x hw hx ih =>
    have hc := ho.co hx
    have h1 := sd_le ho hr hd hw (by omega)
    have h2 := hd.cl x hx (by omega)
    have ht : tightB d x = true := (tight_iff ho hr hd hx).2 ⟨by omega, by omega⟩
    by_cases hv : x.2.1.toNat = r
    · exact .inl hv
    · right
      obtain ⟨j, hj, hjx⟩ := List.getElem_of_mem hx
      rcases ih (by omega) (by omega) with e | ⟨i, hi⟩
      · exact ⟨j, Hp.one (by rw [List.getElem?_eq_getElem hj, hjx]) ht e hv⟩
      · exact ⟨i, Hp.step hi hx ht hv⟩
theorem hp_dist {N r : Nat} {es : List Eg} {d : List Int} (ho : OKg N es) (hr : r < N) (hd : SD N es r d) {v i : Nat} (h : Hp es d r v i) : rd d v < 1099511627776 := by
  have key : ∀ {x : Eg}, x ∈ es → tightB d x = true → rd d x.2.1.toNat < 1099511627776 := by
    intro x hx ht
    have h1 := (tight_iff ho hr hd hx).1 ht
    have h2 := sd_bound ho hr hd (ho.fr hx) h1.1
    have h3 := ho.co hx
    omega
  cases h with
  | one h1 h2 => exact key (List.mem_of_getElem? h1) h2
  | step _ hx ht => exact key hx ht
/-- Over a hop it is no farther. -/
theorem hp_far {N r : Nat} {es : List Eg} {d far : List Int} (ho : OKg N es) (hr : r < N) (hd : SD N es r d) {v i : Nat} (h : Hp es d r v i) : ∃ x, es[i]? = some x ∧ x.1.toNat = r ∧ (SD N es x.2.1.toNat far → x.2.2.1 + rd far v = rd d v) := by
  have key : ∃ x n, es[i]? = some x ∧ x.1.toNat = r ∧ Wk es x.2.1.toNat v n ∧ x.2.2.1 + n = rd d v := by
    induction h with
    | @one i x h1 h2 h3 h4 =>
      have ht := (tight_iff ho hr hd (List.mem_of_getElem? h1)).1 h2
      refine ⟨x, 0, h1, h3, Wk.root, ?_⟩
      rw [h3, hd.root] at ht
      omega
    | @step i x _ hx ht hn ih =>
      obtain ⟨y, n, e1, e2, e3, e4⟩ := ih
      have ht := (tight_iff ho hr hd hx).1 ht
      exact ⟨y, _, e1, e2, Wk.step e3 hx, by omega⟩
  obtain ⟨x, n, e1, e2, e3, e4⟩ := key
  refine ⟨x, e1, e2, fun hf => ?_⟩
  have hx := List.mem_of_getElem? e1
  have hc := ho.co hx
  have hto := ho.to hx
  have hv := (wk_lt ho hto e3).1
  have hdl := hp_dist ho hr hd h
  have h1 := sd_le ho hto hf e3 (by omega)
  have h2 : Wk es r v (x.2.2.1 + rd far v) := by
    have h3 := wk_cat (wk_one hx) (hf.wk v hv (by omega))
    rw [e2] at h3
    exact h3
  have hp := sd_pos ho hto hf hv
  have h4 := sd_le ho hr hd h2 (by omega)
  omega
end Go.Proofs.Ytaemcnabccgnbaa.F
