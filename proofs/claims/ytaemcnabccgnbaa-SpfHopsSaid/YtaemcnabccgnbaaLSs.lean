/- Graphs: nodes settled, the nearest first: their distances. -/
import Derived.Test.YtaemcnabccgnbaaLSb
import Derived.Test.YtaemcnabccgnbaaLHq
set_option maxRecDepth 100000
set_option linter.unusedVariables false
set_option linter.unusedSimpArgs false
open Go Go.Proofs.Fr
namespace Go.Proofs.Ytaemcnabccgnbaa.F
theorem rep_all : ∀ n : Fin 65, 1 ≤ n.val → slices_Repeat_int_int.p ([1099511627776], (n.val : Int), ()) = some (List.replicate n.val 1099511627776, ()) := by decide +kernel
/-- The numbers of the edges that leave a node. -/
def lv (es : List Eg) (v : Nat) : List Int := ((List.range es.length).filter fun i => decide ((es.getD i (0, 0, 0, ())).1 = (v : Int))).map fun i : Nat => (i : Int)
theorem leaving_eq {N : Nat} {es : List Eg} (h : OKg N es) : spf_Graph_leaving.p (((N : Int), es, ()), ()) = some ((List.range N).map (lv es), ()) := by
  unfold spf_Graph_leaving.p
  have h1 := h.most
  have h2 := h.len
  rw [if_pos ⟨by simp only; omega, by simp only; omega, by simp only; omega, List.all_eq_true.2 fun x hx => decide_eq_true (by have := h.edge x hx; simp only; omega)⟩]
  simp only [Int.toNat_natCast]
  rfl
theorem lv_at {es : List Eg} {v q : Nat} (hq : q < (lv es v).length) : ∃ i : Nat, i < es.length ∧ rd (lv es v) q = (i : Int) ∧ (rdZ zE es i).1 = (v : Int) := by
  have hm := rd_mem (lv es v) q hq
  obtain ⟨i, hi, e⟩ := List.mem_map.1 hm
  obtain ⟨h1, h2⟩ := List.mem_filter.1 hi
  exact ⟨i, List.mem_range.1 h1, e.symm, of_decide_eq_true h2⟩
theorem lv_to {es : List Eg} {v : Nat} {x : Eg} (hx : x ∈ es) (hv : x.1 = (v : Int)) : ∃ q i : Nat, q < (lv es v).length ∧ i < es.length ∧ rd (lv es v) q = (i : Int) ∧ rdZ zE es i = x := by
  obtain ⟨i, hi, rfl⟩ := List.getElem_of_mem hx
  have hm : ((i : Nat) : Int) ∈ lv es v := by
    refine List.mem_map.2 ⟨i, List.mem_filter.2 ⟨List.mem_range.2 hi, decide_eq_true ?_⟩, rfl⟩
    rw [List.getD_eq_getElem?_getD, List.getElem?_eq_getElem hi]
    exact hv
  obtain ⟨q, hq, e⟩ := List.getElem_of_mem hm
  exact ⟨q, i, hq, hi, by rw [rd_get _ _ hq, e], rdZ_get zE es i hi⟩
theorem as_range (es : List Eg) : (List.range es.length).map (fun i => es.getD i (0, 0, 0, ())) = es := by
  apply List.ext_getElem (by simp)
  intro i h1 h2
  simp [List.getD_eq_getElem?_getD, List.getElem?_eq_getElem h2]
theorem lv_len (es : List Eg) (v : Nat) : (lv es v).length = (es.filter fun x => decide (x.1 = (v : Int))).length := by
  have e : es.filter (fun x => decide (x.1 = (v : Int))) = ((List.range es.length).map (fun i => es.getD i (0, 0, 0, ()))).filter (fun x => decide (x.1 = (v : Int))) := by rw [as_range]
  rw [e, List.filter_map, List.length_map]
  unfold lv
  rw [List.length_map]
  rfl
/-- How many edges leave nodes that are not settled. -/
def un (es : List Eg) (done : List Bool) : Nat := (es.filter fun x => !(done.getD x.1.toNat false)).length
theorem get_set (l : List Bool) (i j : Nat) (x : Bool) (hi : i < l.length) : (l.set i x).getD j false = if i = j then x else l.getD j false := by
  rw [List.getD_eq_getElem?_getD, List.getD_eq_getElem?_getD, List.getElem?_set]
  by_cases h : i = j
  · subst h; simp [hi]
  · simp [h]
theorem cnt3 {α : Type} (p q s : α → Bool) : ∀ l : List α, (∀ x ∈ l, (p x).toNat + (q x).toNat = (s x).toNat) → (l.filter p).length + (l.filter q).length = (l.filter s).length
  | [], _ => rfl
  | x :: l, h => by
    have ih := cnt3 p q s l fun y hy => h y (.tail _ hy)
    have hx := h x (.head _)
    rw [List.filter_cons, List.filter_cons, List.filter_cons]
    cases hp : p x <;> cases hq : q x <;> cases hs : s x <;> rw [hp, hq, hs] at hx <;> simp at hx ⊢ <;> omega
theorem un_set {es : List Eg} {done : List Bool} {v : Nat} (hv : v < done.length) (hn : done.getD v false = false) (hp : ∀ x ∈ es, 0 ≤ x.1) : un es (done.set v true) + (lv es v).length = un es done := by
  rw [lv_len]
  unfold un
  refine cnt3 _ _ _ es fun x hx => ?_
  have hx := hp x hx
  rw [get_set done v _ true hv]
  by_cases e : v = x.1.toNat
  · have e2 : x.1 = (v : Int) := by omega
    have e3 : done.getD x.1.toNat false = false := by rw [← e]; exact hn
    rw [if_pos e, e3, decide_eq_true e2]
    rfl
  · have e2 : ¬ x.1 = (v : Int) := by omega
    rw [if_neg e, decide_eq_false e2]
    rfl
theorem pop_any (l : List It) (hl : l.length ≤ 1000) (hh : H l 0) : ∃ (top : It) (ok : Bool) (h : List It), heap_Heap_Pop.p (l, ()) = some (top, ok, h, ()) ∧ H h 0 ∧ (ok = false → h = []) ∧ (ok = true → ∀ y ∈ h, top.1 ≤ y.1) ∧ l.Perm (if ok = true then top :: h else []) := by
  by_cases h0 : l.length = 0
  · have e : l = [] := List.eq_nil_of_length_eq_zero h0
    subst e
    exact ⟨zI, false, [], pop_nil, hh, fun _ => rfl, fun h => (by cases h), List.Perm.refl _⟩
  · obtain ⟨h, h1, h2, h3, h4⟩ := pop_ex l hl h0 hh
    refine ⟨g l 0, true, h, h1, h3, fun h => (by cases h), fun _ y hy => ?_, h2⟩
    have := h4 y (h2.mem_iff.2 (.tail _ hy))
    unfold LTi at this
    omega
/-- Between two pops; Q are the items that are left. -/
structure Dj (N : Nat) (es : List Eg) (r : Nat) (dist : List Int) (done : List Bool) (Q : List It) : Prop where
  bi : BI N es r dist
  dl : done.length = N
  q1 : ∀ y ∈ Q, 0 ≤ y.2.1 ∧ y.2.1 < (N : Int) ∧ rd dist y.2.1.toNat ≤ y.1 ∧ y.1 < 1099511627776
  q2 : ∀ u, u < N → done.getD u false = true → rd dist u < 1099511627776 ∧ ∀ y ∈ Q, rd dist u ≤ y.1
  q3 : ∀ u, u < N → done.getD u false = false → rd dist u < 1099511627776 → ∃ y ∈ Q, y.2.1.toNat = u ∧ y.1 = rd dist u
  cl : ∀ x ∈ es, done.getD x.1.toNat false = true → rd dist x.2.1.toNat ≤ rd dist x.1.toNat + x.2.2.1
theorem Dj.perm {N : Nat} {es : List Eg} {r : Nat} {dist : List Int} {done : List Bool} {Q Q' : List It} (h : Dj N es r dist done Q) (hp : Q.Perm Q') : Dj N es r dist done Q' := by
  refine ⟨h.bi, h.dl, fun y hy => h.q1 y (hp.mem_iff.2 hy), fun u hu hd => ⟨(h.q2 u hu hd).1, fun y hy => (h.q2 u hu hd).2 y (hp.mem_iff.2 hy)⟩, fun u hu hd hl => ?_, h.cl⟩
  obtain ⟨y, hy, e⟩ := h.q3 u hu hd hl
  exact ⟨y, hp.mem_iff.1 hy, e⟩
theorem Dj.fin {N : Nat} {es : List Eg} {r : Nat} {dist : List Int} {done : List Bool} (ho : OKg N es) (h : Dj N es r dist done []) : SD N es r dist := by
  refine ⟨h.bi.len, h.bi.root, h.bi.le, h.bi.wk, fun x hx hl => ?_⟩
  cases hd : done.getD x.1.toNat false with
  | true => exact h.cl x hx hd
  | false =>
    obtain ⟨y, hy, _⟩ := h.q3 _ (ho.fr hx) hd hl
    cases hy
theorem Dj.skip {N : Nat} {es : List Eg} {r : Nat} {dist : List Int} {done : List Bool} {top : It} {Q : List It} (h : Dj N es r dist done (top :: Q)) (hd : done.getD top.2.1.toNat false = true) : Dj N es r dist done Q := by
  refine ⟨h.bi, h.dl, fun y hy => h.q1 y (.tail _ hy), fun u hu hd => ⟨(h.q2 u hu hd).1, fun y hy => (h.q2 u hu hd).2 y (.tail _ hy)⟩, fun u hu hu2 hl => ?_, h.cl⟩
  obtain ⟨y, hy, e1, e2⟩ := h.q3 u hu hu2 hl
  rcases List.mem_cons.1 hy with rfl | hy
  · rw [e1, hu2] at hd; cases hd
  · exact ⟨y, hy, e1, e2⟩
/-- The nearest one has its distance. -/
theorem Dj.key {N : Nat} {es : List Eg} {r : Nat} {dist : List Int} {done : List Bool} {top : It} {Q : List It} (h : Dj N es r dist done (top :: Q)) (hd : done.getD top.2.1.toNat false = false) (hm : ∀ y ∈ Q, top.1 ≤ y.1) : top.1 = rd dist top.2.1.toNat := by
  obtain ⟨h1, h2, h3, h4⟩ := h.q1 top (.head _)
  obtain ⟨y, hy, e1, e2⟩ := h.q3 top.2.1.toNat (by omega) hd (by omega)
  rcases List.mem_cons.1 hy with rfl | hy
  · exact e2
  · have := hm y hy
    omega
/-- While the edges of a node are looked at. -/
structure Di (N : Nat) (es : List Eg) (r v : Nat) (K : Int) (dist : List Int) (done : List Bool) (q : Nat) (dist' : List Int) (h' : List It) : Prop where
  bi : BI N es r dist'
  le : ∀ u, rd dist' u ≤ rd dist u
  same : ∀ u, u < N → done.getD u false = true → rd dist' u = rd dist u
  q1 : ∀ y ∈ h', 0 ≤ y.2.1 ∧ y.2.1 < (N : Int) ∧ rd dist' y.2.1.toNat ≤ y.1 ∧ y.1 < 1099511627776 ∧ K ≤ y.1
  q3 : ∀ u, u < N → done.getD u false = false → rd dist' u < 1099511627776 → ∃ y ∈ h', y.2.1.toNat = u ∧ y.1 = rd dist' u
  ed : ∀ p, p < q → ∀ i : Nat, rd (lv es v) p = (i : Int) → rd dist' (rdZ zE es i).2.1.toNat ≤ K + (rdZ zE es i).2.2.1
theorem Di.start {N : Nat} {es : List Eg} {r : Nat} {dist : List Int} {done : List Bool} {top : It} {Q : List It} (h : Dj N es r dist done (top :: Q)) (hd : done.getD top.2.1.toNat false = false) (hm : ∀ y ∈ Q, top.1 ≤ y.1) : Di N es r top.2.1.toNat top.1 dist (done.set top.2.1.toNat true) 0 dist Q := by
  have h1 := h.q1 top (.head _)
  have hv : top.2.1.toNat < done.length := by rw [h.dl]; omega
  refine ⟨h.bi, fun _ => Int.le_refl _, fun _ _ _ => rfl, fun y hy => ?_, fun u hu hu2 hl => ?_, fun p hp => absurd hp (Nat.not_lt_zero _)⟩
  · obtain ⟨a, b, c, d⟩ := h.q1 y (.tail _ hy)
    exact ⟨a, b, c, d, hm y hy⟩
  · rw [get_set _ _ _ _ hv] at hu2
    by_cases e : top.2.1.toNat = u
    · rw [if_pos e] at hu2; cases hu2
    · rw [if_neg e] at hu2
      obtain ⟨y, hy, e1, e2⟩ := h.q3 u hu hu2 hl
      rcases List.mem_cons.1 hy with rfl | hy
      · exact absurd e1 e
      · exact ⟨y, hy, e1, e2⟩
theorem Di.done {N : Nat} {es : List Eg} {r : Nat} {dist dist' : List Int} {done : List Bool} {top : It} {Q h' : List It} (ho : OKg N es) (h : Dj N es r dist done (top :: Q)) (hd : done.getD top.2.1.toNat false = false) (hm : ∀ y ∈ Q, top.1 ≤ y.1) (hi : Di N es r top.2.1.toNat top.1 dist (done.set top.2.1.toNat true) (lv es top.2.1.toNat).length dist' h') : Dj N es r dist' (done.set top.2.1.toNat true) h' := by
  have h1 := h.q1 top (.head _)
  have hk := h.key hd hm
  have hv : top.2.1.toNat < done.length := by rw [h.dl]; omega
  have hgs := fun j => get_set done top.2.1.toNat j true hv
  refine ⟨hi.bi, by rw [List.length_set]; exact h.dl, fun y hy => ?_, fun u hu hu2 => ?_, hi.q3, fun x hx hx2 => ?_⟩
  · obtain ⟨a, b, c, d, _⟩ := hi.q1 y hy
    exact ⟨a, b, c, d⟩
  · have hs := hi.same u hu hu2
    have hle : rd dist u ≤ top.1 ∧ rd dist u < 1099511627776 := by
      rw [hgs] at hu2
      by_cases e : top.2.1.toNat = u
      · rw [← e, ← hk]; omega
      · rw [if_neg e] at hu2
        have := h.q2 u hu hu2
        exact ⟨this.2 _ (.head _), this.1⟩
    refine ⟨by omega, fun y hy => ?_⟩
    have := (hi.q1 y hy).2.2.2.2
    omega
  · have hf := ho.fr hx
    have hs := hi.same _ hf hx2
    rw [hgs] at hx2
    by_cases e : top.2.1.toNat = x.1.toNat
    · have hx0 := (ho.edge x hx).1
      obtain ⟨q, i, q1, q2, q3, q4⟩ := lv_to (v := top.2.1.toNat) hx (by omega)
      have := hi.ed q q1 i q3
      rw [q4] at this
      rw [hs, ← e, ← hk]
      exact this
    · rw [if_neg e] at hx2
      have := h.cl x hx hx2
      have := hi.le x.2.1.toNat
      omega
theorem relax_ex {N : Nat} {es : List Eg} {r v q i : Nat} {K : Int} {dist dist' : List Int} {done : List Bool} {h' : List It} (ho : OKg N es) (hr : r < N) (hl : h'.length ≤ 1000) (hh : H h' 0) (hi : Di N es r v K dist done q dist' h') (hv : v < N) (hdv : done.getD v false = true) (hK : K = rd dist v) (hKl : K < 1099511627776) (hdK : ∀ u, u < N → done.getD u false = true → rd dist u ≤ K)
    (hil : i < es.length) (hq : rd (lv es v) q = (i : Int)) (hx : (rdZ zE es i).1 = (v : Int)) :
    ∃ d2 h2, spf_Graph_settle_1.p (rdZ zE es i, dist', (v : Int), h', ()) = some (d2, (v : Int), h2, ()) ∧ H h2 0 ∧ h2.length ≤ h'.length + 1 ∧ Di N es r v K dist done (q + 1) d2 h2 := by
  have hmem : rdZ zE es i ∈ es := rdZ_mem zE es i hil
  obtain ⟨x, hxe⟩ : ∃ x, rdZ zE es i = x := ⟨_, rfl⟩
  rw [hxe] at hx hmem ⊢
  have he := ho.edge x hmem
  have hdl := hi.bi.len
  have n2 := ho.to hmem
  have hsv := hi.same v hv hdv
  have hp := (wk_lt ho hr (hi.bi.wk v hv (by omega))).2
  have hvx : x.1.toNat = v := by omega
  unfold spf_Graph_settle_1.p
  simp only [jn_eq, Int.toNat_natCast]
  have f2 : 0 ≤ x.2.1 ∧ x.2.1 < (dist'.length : Int) := by omega
  have hw : IntKind.i64.wrap (rd dist' v + x.2.2.1) = rd dist' v + x.2.2.1 := w64 (by omega)
  rw [if_pos (by omega), if_pos f2]
  simp only [hw]
  have hedge : ∀ (d2 : List Int), (∀ u, rd d2 u ≤ rd dist' u) → rd d2 x.2.1.toNat ≤ K + x.2.2.1 → ∀ p, p < q + 1 → ∀ j : Nat, rd (lv es v) p = (j : Int) → rd d2 (rdZ zE es j).2.1.toNat ≤ K + (rdZ zE es j).2.2.1 := by
    intro d2 h1 h2 p hp j hj
    by_cases e : p = q
    · subst e
      have : j = i := by omega
      subst this
      rw [hxe]; exact h2
    · exact Int.le_trans (h1 _) (hi.ed p (by omega) j hj)
  by_cases c : rd dist' v + x.2.2.1 < rd dist' x.2.1.toNat
  · have hle := hi.bi.le _ n2
    have hu : IntKind.u64.wrap (rd dist' v + x.2.2.1) = rd dist' v + x.2.2.1 := by
      simp [IntKind.wrap, IntKind.signed, IntKind.bits]; omega
    obtain ⟨h2, p1, p2, p3⟩ := push_ex h' (rd dist' v + x.2.2.1, x.2.1, ()) hl hh
    simp only [c, decide_true, if_true]
    rw [if_pos f2, hu, p1]
    simp only [Option.bind_some]
    have hs : ∀ j, rd (dist'.set x.2.1.toNat (rd dist' v + x.2.2.1)) j = if x.2.1.toNat = j then rd dist' v + x.2.2.1 else rd dist' j := fun j => rd_set _ _ _ _ (by rw [hdl]; exact n2)
    have hle2 : ∀ u, rd (dist'.set x.2.1.toNat (rd dist' v + x.2.2.1)) u ≤ rd dist' u := fun u => by
      rw [hs]
      by_cases e : x.2.1.toNat = u
      · rw [if_pos e, ← e]; omega
      · rw [if_neg e]; exact Int.le_refl _
    refine ⟨_, h2, rfl, p3, by have := p2.length_eq; simp only [List.length_cons] at this; omega, ?_, fun u => Int.le_trans (hle2 u) (hi.le u), fun u hu hu2 => ?_, fun y hy => ?_, fun u hu hu2 hl => ?_, hedge _ hle2 (by rw [hs, if_pos rfl]; omega)⟩
    · have := hi.bi.relax ho hr hmem (by rw [hvx]; omega) (by rw [hvx]; exact c)
      rw [hvx] at this
      exact this
    · have h1 := hi.same u hu hu2
      have h2 := hdK u hu hu2
      rw [hs]
      by_cases e : x.2.1.toNat = u
      · rw [e] at c; omega
      · rw [if_neg e]; exact h1
    · rcases List.mem_cons.1 (p2.mem_iff.1 hy) with rfl | hy
      · exact ⟨he.2.2.1, he.2.2.2.1, by simp only; rw [hs, if_pos rfl]; omega, by simp only; omega, by simp only; omega⟩
      · obtain ⟨a1, a2, a3, a4, a5⟩ := hi.q1 y hy
        exact ⟨a1, a2, Int.le_trans (hle2 _) a3, a4, a5⟩
    · rw [hs] at hl ⊢
      by_cases e : x.2.1.toNat = u
      · exact ⟨_, p2.mem_iff.2 (.head _), e, by rw [if_pos e]⟩
      · rw [if_neg e] at hl ⊢
        obtain ⟨y, hy, e1, e2⟩ := hi.q3 u hu hu2 hl
        exact ⟨y, p2.mem_iff.2 (.tail _ hy), e1, e2⟩
  · simp only [c, decide_false, Bool.false_eq_true, if_false]
    exact ⟨_, _, rfl, hh, by omega, hi.bi, hi.le, hi.same, hi.q1, hi.q3, hedge dist' (fun _ => Int.le_refl _) (by omega)⟩
end Go.Proofs.Ytaemcnabccgnbaa.F
