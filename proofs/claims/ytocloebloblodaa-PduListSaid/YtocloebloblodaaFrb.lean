/- A verified evaluator for a part of the language: each function of the program becomes a plain function, and its contract is proved once for all. -/
import Derived.Test.YtocloebloblodaaFra
import Derived.Lib.ConvBytes
import Derived.Great.BuildSlice
import Derived.Maps.AppendAt
import Derived.Lib.AppendZeros
set_option linter.unusedVariables false
set_option linter.unusedSimpArgs false
/- Each operation does what its plain form says: rows that are made, conversions, calls. -/
namespace Go.Proofs.Fr
open Go Go.RowKit

variable {P : Program} {B : Bs} {nt : Nat} {fr : Nat → Prop} {s : S} {g : Nat → Value} {a : Act} {w w' : World} {R : Type} {H : Nat → Ob} {ok ok' : Nat → Prop}

theorem pjN_En {vw : Nat → Vw} (hvw : ∀ id E t xs, vw id = .row E t xs → (H id).vw = .row E t xs) (hobj : ∀ id, OB g H w ok id (H id)) (hok : ∀ k, ok k → ok' k) {t : Ty} :
    ∀ {n : Nat} {ls r : List L} {xs : List t.den} {ids : List Nat} {cs : List Value}, pjN vw t n ls = some (xs, r, ids) → All2 (LR g H w ok) ls cs →
      (∀ id ∈ ids, ∀ k, owned g H id = some k → ok' k) → xs.length = n ∧ ∃ css c2, cs = css.flatten ++ c2 ∧ All2 (En w ok' t) xs css ∧ All2 (LR g H w ok) r c2
  | 0, ls, r, xs, ids, cs, h, ha, _ => by
    simp only [pjN] at h
    cases h
    exact ⟨rfl, [], cs, rfl, trivial, ha⟩
  | n + 1, ls, r, xs, ids, cs, h, ha, hid => by
    simp only [pjN] at h
    split at h
    · rename_i x r1 i1 h1
      split at h
      · rename_i ys r2 i2 h2
        cases h
        obtain ⟨c1, c2, l1, rfl, _, e1, a1⟩ := pj_En hvw hobj hok h1 ha (fun id hm => hid id (List.mem_append.2 (.inl hm)))
        obtain ⟨hl, css, c3, rfl, e2, a2⟩ := pjN_En hvw hobj hok h2 a1 (fun id hm => hid id (List.mem_append.2 (.inr hm)))
        exact ⟨by simp [hl], c1 :: css, c3, by simp, ⟨e1, e2⟩, a2⟩
      · cases h
    · cases h

theorem pjN_ids {vw : Nat → Vw} {t : Ty} : ∀ {n : Nat} {ls r : List L} {xs : List t.den} {ids : List Nat}, pjN vw t n ls = some (xs, r, ids) → (∀ id ∈ ids, ∃ l ∈ ls, id ∈ l.ids)
  | 0, ls, r, xs, ids, h => by
    simp only [pjN] at h
    cases h; simp
  | n + 1, ls, r, xs, ids, h => by
    simp only [pjN] at h
    split at h
    · rename_i x r1 i1 h1
      split at h
      · rename_i ys r2 i2 h2
        cases h
        intro id hm
        rcases List.mem_append.1 hm with hm | hm
        · exact (pj_ids h1).1 id hm
        · obtain ⟨l, hl, hi⟩ := pjN_ids h2 id hm
          exact ⟨l, (pj_ids h1).2 l hl, hi⟩
      · cases h
    · cases h

/-- Rows that are read so are rows. -/
theorem pj_rows {vw : Nat → Vw} : ∀ {t : Ty} {ls r : List L} {x : t.den} {ids : List Nat}, pj vw t ls = some (x, r, ids) → ∀ id ∈ ids, ∃ E t xs, vw id = .row E t xs
  | .int k, ls, r, x, ids, h => by
    simp only [pj] at h
    split at h
    · split at h
      · cases h; simp
      · cases h
    · cases h
  | .bool, ls, r, x, ids, h => by
    simp only [pj] at h
    split at h
    · cases h; simp
    · cases h
  | .str, ls, r, x, ids, h => by
    simp only [pj] at h
    split at h
    · cases h; simp
    · cases h
  | .sl E t, ls, r, x, ids, h => by
    simp only [pj] at h
    split at h
    · split at h
      · split at h
        · cases h; simp
        · cases h
      · cases h
    · cases h; simp
    · rename_i id q
      split at h
      · rename_i E' t' xs hv
        split at h
        · split at h
          · cases h; intro j hj; have : j = id := by simpa using hj
            subst this; exact ⟨_, _, _, hv⟩
          · cases h
        · cases h
      · cases h
    · rename_i id n q
      split at h
      · rename_i E' t' xs hv
        split at h
        · split at h
          · cases h; intro j hj; have : j = id := by simpa using hj
            subst this; exact ⟨_, _, _, hv⟩
          · cases h
        · cases h
      · cases h
    · rename_i id lo n q
      split at h
      · rename_i E' t' xs hv
        split at h
        · split at h
          · cases h; intro j hj; have : j = id := by simpa using hj
            subst this; exact ⟨_, _, _, hv⟩
          · cases h
        · cases h
      · cases h
    · cases h
  | .nil, ls, r, x, ids, h => by
    simp only [pj] at h
    cases h; simp
  | .cons a b, ls, r, x, ids, h => by
    simp only [pj] at h
    split at h
    · rename_i x1 r1 i1 h1
      split at h
      · rename_i y r2 i2 h2
        cases h
        intro id hm
        rcases List.mem_append.1 hm with hm | hm
        · exact pj_rows h1 id hm
        · exact pj_rows h2 id hm
      · cases h
    · cases h

theorem pjN_rows {vw : Nat → Vw} {t : Ty} : ∀ {n : Nat} {ls r : List L} {xs : List t.den} {ids : List Nat}, pjN vw t n ls = some (xs, r, ids) → ∀ id ∈ ids, ∃ E t xs, vw id = .row E t xs
  | 0, ls, r, xs, ids, h => by
    simp only [pjN] at h
    cases h; simp
  | n + 1, ls, r, xs, ids, h => by
    simp only [pjN] at h
    split at h
    · rename_i x r1 i1 h1
      split at h
      · rename_i ys r2 i2 h2
        cases h
        intro id hm
        rcases List.mem_append.1 hm with hm | hm
        · exact pj_rows h1 id hm
        · exact pjN_rows h2 id hm
      · cases h
    · cases h

section
variable {o : Oper} {T : Nat → List Sp} {id0 : Nat} {k : D → List Ob → List Nat → Option R} {r : R} {vw : Nat → Vw}

theorem vw_row (hvw : ∀ id, vw id = .no ∨ vw id = (s.H id).vw) : ∀ id E t xs, vw id = .row E t xs → (s.H id).vw = .row E t xs := by
  intro id E t xs h
  rcases hvw id with e | e <;> rw [e] at h
  · cases h
  · exact h

theorem zeros_R {z : Value} {zl : List L} (hz : lits z.cells.toList = some zl) (n : Nat) : All2 (LR g H w ok) (zerosL n zl) ((Array.range n).map (z.cells[· % z.cells.size]!)).toList := by
  obtain ⟨h1, _⟩ := lits_LR (g := g) (H := H) (w := w) (ok := ok) hz
  have hl : zl.length = z.cells.size := by rw [h1.len, Array.length_toList]
  refine All2.of_get (by simp [zerosL]) fun i hi hi' => ?_
  simp only [zerosL, List.getElem_map, List.getElem_range, Array.toList_map, Array.toList_range]
  by_cases hlt : i % zl.length < zl.length
  · rw [List.getD_eq_getElem?_getD, List.getElem?_eq_getElem hlt, Option.getD_some]
    have hlt' : i % z.cells.size < z.cells.size := hl ▸ hlt
    have hg := h1.get (i % zl.length) hlt (by simpa [hl] using hlt')
    rw [getElem!_pos z.cells _ hlt']
    simpa [hl] using hg
  · rw [List.getD_eq_getElem?_getD, List.getElem?_eq_none (by omega)]
    exact trivial

theorem zeros_ids {z : List Value} {zl : List L} (hz : lits z = some zl) (n : Nat) : ∀ l ∈ zerosL n zl, l.ids = [] := by
  obtain ⟨_, h2⟩ := lits_LR (g := fun _ => undef) (H := fun _ => .gone) (w := default) (ok := fun _ => True) hz
  intro l hl
  simp only [zerosL, List.mem_map] at hl
  obtain ⟨i, _, rfl⟩ := hl
  by_cases hlt : i % zl.length < zl.length
  · rw [List.getD_eq_getElem?_getD, List.getElem?_eq_getElem hlt, Option.getD_some]
    exact h2 _ (List.getElem_mem hlt)
  · rw [List.getD_eq_getElem?_getD, List.getElem?_eq_none (by omega)]; rfl

theorem v_buildSlice (hvw : ∀ id, vw id = .no ∨ vw id = (s.H id).vw) (hr : Rel B nt fr s g a w) (hfr : ∀ j, id0 ≤ j → j < id0 + 8 → fr j) (hd : dstOk nt o.dst = true) {T e : TypeId} {len : Nat} {parts : Array (Nat × Operand)} (ho : o.op = .buildSlice T len parts)
    {ps : List D0} (hps : d0s ((parts.toList.map (·.2)).map (evD s.e)) = some ps) (hT : P.underlying T = some (.slice e)) {ti : TI} (hti : tinfo P e = some ti) {t : Ty} {zl : List L} (hz : lits ti.zero.cells.toList = some zl)
    (h1 : len * ti.size ≤ 16777216) (h2 : ti.size = t.sz) (h3 : 0 < t.sz) {ls : List L} (hf : fillL (fun i => some (i * ti.size, ti.size)) (zerosL (len * ti.size) zl) ((parts.toList.map (·.1)).zip ps) = some ls)
    {xs : List t.den} {ids : List Nat} (hp : pjN vw t len ls = some (xs, [], ids)) (hv : k (.one (.own id0)) [.row e t xs] ids = some r) : Goal P B nt fr id0 s a w o k r := by
  obtain ⟨hpr, hpi⟩ := parts_R hr parts.toList hps
  obtain ⟨hu, it, hit, hz', hsz, _⟩ := tinfo_facts hti
  obtain ⟨cells, hf1, hf2, hf3⟩ := fill_R hpr (zeros_R (g := g) (H := s.H) (w := w) (ok := okB B g s.H w) hz (len * ti.size)) hf
  have hlsid : ∀ l ∈ ls, ∀ id ∈ l.ids, ¬ fr id := by
    intro l hl id hid
    rcases hf3 l hl with h | ⟨p, hp', hl'⟩
    · rw [zeros_ids hz _ l h] at hid; cases hid
    · exact hpi p.2 (List.of_mem_zip hp').2 id (by simp only [D0.ids, List.mem_flatMap]; exact ⟨l, hl', hid⟩)
  have hxl : xs.length = len := (pjN_En (ok' := fun _ => True) (vw_row hvw) hr.objs (fun _ _ => trivial) hp hf2 (fun _ _ _ _ => trivial)).1
  have hcl : cells.size = len * t.sz := by
    have h5 : ls.length = (zerosL (len * ti.size) zl).length := by
      have : ∀ (place : Nat → Option (Nat × Nat)) (ps : List (Nat × D0)) (c c' : List L), fillL place c ps = some c' → c'.length = c.length := by
        intro place ps
        induction ps with
        | nil => intro c c' h; simp only [fillL] at h; cases h; rfl
        | cons p ps ih =>
          intro c c' h
          simp only [fillL] at h
          split at h
          · cases h
          · split at h
            · cases h
            · rw [ih _ _ h]; exact put_len _ _ _ _
      exact this _ _ _ _ hf
    rw [← Array.length_toList, ← hf2.len, h5, h2]; simp [zerosL]
  have hmod : (Array.range (len * it.size)).map (ti.zero.cells[· % ti.zero.cells.size]!) = (Array.range (len * ti.size)).map (ti.zero.cells[· % ti.zero.cells.size]!) := by rw [hsz]
  refine ⟨_, _, _, hv, row_eff (cells := cells) (cap := len) hd hr hfr (ids := ids) (fun id hi => ?_) (fun id hi => ?_) (by omega) (by unfold maxLen; have := Nat.le_mul_of_pos_right len (h2 ▸ h3 : 0 < ti.size); omega) hcl (fun ok' ho1 ho2 => ?_) ?_⟩
  · obtain ⟨l, hl, hi'⟩ := pjN_ids hp id hi
    exact hlsid l hl id hi'
  · obtain ⟨E, t', xs', h⟩ := pjN_rows hp id hi
    exact rb_row ⟨E, t', xs', vw_row hvw _ _ _ _ h⟩
  · obtain ⟨_, css, c2, e1, e2, e3⟩ := pjN_En (ok' := ok') (vw_row hvw) hr.objs ho1 hp hf2 ho2
    refine ⟨css, e2, ?_⟩
    rw [All2.nil_l e3, List.append_nil] at e1
    rw [← e1, hxl, ← hcl, ← Array.length_toList, List.take_length]
  · rw [hxl]
    have hrun : (Instr.buildSlice T len (parts.map fun (i, x) => (i, a.eval x))).run P w = .ok (.slice (some ⟨w.heap.size, 0, none⟩) len len) { w with heap := w.heap.push (.cells cells e) } := by
      by_cases h0 : len * it.size = 0
      · have hsz0 : len = 0 := by rcases Nat.mul_eq_zero.1 h0 with h | h; exact h; omega
        subst hsz0
        have hc0 : cells = #[] := Array.eq_empty_of_size_eq_zero (by rw [hcl]; simp)
        have hfill : Instr.fill (fun i => some (i * it.size, it.size)) #[] (parts.map fun (i, x) => (i, a.eval x)).toList = some cells := by
          have := hf1; simp only [Nat.zero_mul, Array.range_zero', Array.map_empty] at this
          rw [hsz]; simpa using this
        simp only [Instr.buildSlice, Sem.run_bind, run_underlying hT, Result.andThen_ok, run_sizeOf hti, Nat.zero_mul, if_true, Array.range_zero', Array.map_empty]
        rw [if_neg (by decide)]
        rw [hsz] at hfill
        simp only [Sem.run_bind, Sem.run_pure, Result.andThen_ok, hfill]
        simp [newRow]
      · have := run_buildSlice (P := P) w T e len (parts.map fun (i, x) => (i, a.eval x)) cells it ti.zero hT hit hz' (by rw [hsz]; omega) h0 (by rw [hsz]; simpa using hf1)
        exact this
    simp only [execOp, ho, Sem.run_bind, hrun, Result.andThen_ok, Sem.run_pure]

/-- An array in a box, cut: the box stays as it is from now on. -/
theorem v_sliceArr (hvw : ∀ id, vw id = .no ∨ vw id = (s.H id).vw) (hr : Rel B nt fr s g a w) (hfr : ∀ j, id0 ≤ j → j < id0 + 8 → fr j) (hd : dstOk nt o.dst = true) {T0 e : TypeId} {n : Nat} {x : Operand} {lo hi : Option Operand} (ho : o.op = .slice T0 x lo hi none)
    {id off : Nat} (hx : evD s.e x = .one (.ptr id off)) (hT : P.underlying T0 = some (.array n e)) {Tb : Nat} {ls q : List L} (hvb : vw id = .box Tb ls) {ti : TI} (hti : tinfo P e = some ti) {t : Ty} (h3 : ti.size = t.sz) (h4 : 0 < t.sz)
    {l h : Int} (hlo : (lo.map a.eval = none ∧ l = 0) ∨ ∃ kk, lo.map a.eval = some (.int kk l)) (hhi : (hi.map a.eval = none ∧ h = n) ∨ ∃ kk, hi.map a.eval = some (.int kk h)) (h0 : 0 ≤ l) (h1 : l ≤ h) (h2 : h ≤ (n : Int))
    (hq : cut ls off (n * t.sz) = some q) {xs : List t.den} {ids : List Nat} (hp : pjN vw t n q = some (xs, [], ids))
    (hv : k (.one (.row e t ((xs.take h.toNat).drop l.toNat))) [] (ids ++ [id]) = some r) : Goal P B nt fr id0 s a w o k r := by
  obtain ⟨a1, i1⟩ := ev_R hr x
  rw [hx] at a1 i1
  have hidf : ¬ fr id := i1 id (by simp [D.ids, D0.ids, D0.ls, L.ids])
  have hv' : (s.H id).vw = .box Tb ls := by rcases hvw id with e | e <;> rw [e] at hvb; cases hvb; exact hvb
  have hob := hr.objs id
  obtain ⟨kb, arr, hg, hh, ha, hsh, hrb, hokb, hkids⟩ : ∃ kb arr, g id = .pointer (some ⟨kb, 0, none⟩) ∧ w.heap[kb]? = some (.cells arr Tb (0, 0)) ∧ All2 (LR g s.H w (okB B g s.H w)) ls arr.toList ∧ shO (s.H id) = some (true, .nil, 0) ∧ (s.H id).rb = true ∧ (okB B g s.H w kb ∨ owned g s.H id = some kb) ∧ (s.H id).kids = ls.flatMap L.ids := by
    cases e : s.H id with
    | box T' ls' =>
      rw [e] at hv' hob; cases hv'
      obtain ⟨kb, arr, hg, hh, ha⟩ := hob
      exact ⟨kb, arr, hg, hh, ha, rfl, rfl, .inr (by simp [owned, e, hg, blkOf]), rfl⟩
    | fbx T' ls' =>
      rw [e] at hv' hob; cases hv'
      obtain ⟨kb, arr, hg, hh, hok, ha⟩ := hob
      exact ⟨kb, arr, hg, hh, ha, rfl, rfl, .inl hok, rfl⟩
    | _ => rw [e] at hv'; cases hv'
  obtain ⟨kb', hg', hva⟩ := a1.2 (.nil, 0) hsh
  rw [hg] at hg'; cases hg'
  obtain ⟨hql, hqa, hqm⟩ := cut_R ha hq
  have hxl : xs.length = n := pjN_len0 hp
  have hrun : (execOp a.eval o).run P w = .ok (.value (.slice (if n = l.toNat then some ⟨kb, off, none⟩ else (some (⟨kb, off, none⟩ : Addr)).map (·.add (l.toNat * t.sz))) (h.toNat - l.toNat) (n - l.toNat))) w := by
    have hb := run_sliceBounds (P := P) (w := w) (isS := false) (len := n) (cap := n) hlo hhi h0 h1 h2
    have : (Instr.sliceAt T0 (a.eval x) (lo.map a.eval) (hi.map a.eval) none).run P w = .ok (.slice (if n = l.toNat then some ⟨kb, off, none⟩ else (some (⟨kb, off, none⟩ : Addr)).map (·.add (l.toNat * t.sz))) (h.toNat - l.toNat) (n - l.toNat)) w := by
      simp only [Instr.sliceAt, Sem.run_bind, run_underlying hT, Result.andThen_ok, hva, Instr.sureAddr, Sem.run_pure, hb, run_sizeOf hti, h3, Option.map_some]
      split <;> rfl
    simp [execOp, ho, this]
  refine ⟨_, _, _, hv, eff_frz hd hr hfr (ids := ids ++ [id]) (fun j hj => ?_) (fun j hj => ?_) hrun (one_ids rfl) fun ok' q1 q2 _ => ?_⟩
  · rcases List.mem_append.1 hj with hj | hj
    · obtain ⟨l', hl', hi'⟩ := pjN_ids hp j hj
      exact hr.kold id j (by rw [hkids]; exact List.mem_flatMap.2 ⟨l', hqm l' hl', hi'⟩)
    · have : j = id := by simpa using hj
      subst this; exact hidf
  · rcases List.mem_append.1 hj with hj | hj
    · obtain ⟨E, t', xs', hh'⟩ := pjN_rows hp j hj
      exact rb_row ⟨E, t', xs', vw_row hvw _ _ _ _ hh'⟩
    · have : j = id := by simpa using hj
      subst this; exact hrb
  · obtain ⟨_, css, c2, e1, e2, e3⟩ := pjN_En (ok' := ok') (vw_row hvw) hr.objs q1 hp hqa (fun j hj k' hk' => q2 j (List.mem_append.2 (.inl hj)) k' hk')
    rw [All2.nil_l e3, List.append_nil] at e1
    have hkok : ok' kb := by
      rcases hokb with hk' | hk'
      · exact q1 kb hk'
      · exact q2 id (by simp) kb hk'
    have hen : En w ok' (.sl e t) xs [.slice (some ⟨kb, off, none⟩) n n] := by
      refine ⟨_, n, by rw [show List.length (α := t.den) xs = n from hxl], by rw [show List.length (α := t.den) xs = n from hxl]; exact Nat.le_refl _, fun i hi => ?_⟩
      have hi' : i < xs.length := hi
      obtain ⟨cs, hcs, hec⟩ := e2.get? (List.getElem?_eq_getElem hi')
      refine ⟨kb, off, cs, rfl, hkok, hec, fun j hj => ?_⟩
      have hf := flat_get (R := En w ok' t) t.sz e2 (fun _ _ h => h.len) i cs hcs j _ (List.getElem?_eq_getElem hj)
      rw [← e1] at hf
      have hlt := (List.getElem?_eq_some_iff.1 hf).1
      rw [List.getElem?_take_of_lt (by simp only [List.length_take] at hlt; omega), List.getElem?_drop] at hf
      simp only [World.cell?, hh, Option.isSome_none, Bool.false_eq_true, if_false]
      rw [Nat.add_assoc]; simpa using hf
    exact En_cut hen (by omega) (by omega)

/-- A function that holds some values. -/
theorem v_makeClo (hr : Rel B nt fr s g a w) (hfr : ∀ j, id0 ≤ j → j < id0 + 8 → fr j) (hd : dstOk nt o.dst = true) {f : Nat} {caps : Array Operand} (ho : o.op = .makeFunc (.func f) #[] caps) {ps : List D0} (hps : d0s (caps.toList.map (evD s.e)) = some ps) {ls : List L} (hls : d1s ps = some ls)
    (hv : k (.one (.cl id0)) [.clo f ls] [] = some r) : Goal P B nt fr id0 s a w o k r := by
  have key : ∀ {xs : List Operand} {ps : List D0} {ls : List L}, d0s (xs.map (evD s.e)) = some ps → d1s ps = some ls → All2 (LR g s.H w (okB B g s.H w)) ls (xs.map a.eval) ∧ ∀ l ∈ ls, ∀ j ∈ l.ids, ¬ fr j := by
    intro xs
    induction xs with
    | nil => intro ps ls h1 h2; simp only [List.map_nil, d0s] at h1; cases h1; simp only [d1s] at h2; cases h2; exact ⟨trivial, by simp⟩
    | cons x xs ih =>
      intro ps ls h1 h2
      obtain ⟨hx, hi⟩ := ev_R hr x
      simp only [List.map_cons] at h1
      cases hxe : evD s.e x with
      | tup q => rw [hxe] at h1; simp only [d0s] at h1; cases h1
      | v d =>
        rw [hxe] at h1 hx hi
        simp only [d0s] at h1
        split at h1
        · rename_i ds hds
          cases h1
          cases d with
          | agg q => simp only [d1s] at h2; cases h2
          | one l =>
            simp only [d1s] at h2
            split at h2
            · split at h2
              · rename_i ls' hls'
                cases h2
                obtain ⟨h3, h4⟩ := ih hds hls'
                refine ⟨⟨hx, h3⟩, fun l' hl' j hj => ?_⟩
                rcases List.mem_cons.1 hl' with rfl | hl'
                · exact hi j (by simpa [D.ids, D0.ids, D0.ls] using hj)
                · exact h4 l' hl' j hj
              · cases h2
            · cases h2
        · cases h1
  obtain ⟨ha, hi⟩ := key hps hls
  refine ⟨_, _, _, hv, eff_one (v := .func (.func f) #[] (caps.map a.eval)) hd hr hfr (ids := []) (by simp) (by simp) (by simp [execOp, ho, Instr.makeFunc]) (Below.refl _ _) (fun k hk => by simp [blkOf] at hk) (fun j hj => ?_) ?_ (by simp [D.ids, D0.ids, D0.ls, L.ids]) fun ok1 _ ok4 => ?_⟩
  · obtain ⟨l, hl, hj⟩ := List.mem_flatMap.1 hj; exact hi l hl j hj
  · exact ⟨rfl, fun t n _ => (newG_at _ _ _).symm⟩
  · refine ⟨_, newG_at _ _ _, ?_⟩
    rw [Array.toList_map]
    exact ha.mono_mem fun l v hl h => LR.mono (fun k hk => ⟨ok1 k hk, rfl⟩) (fun id hid => ok4 id (hi l hl id hid)) h

end
end Go.Proofs.Fr

/- What crosses a border, in memory: as it is told by its kind. -/
namespace Go.Proofs.Fr
open Go Go.RowKit

variable {P : Program} {B : Bs} {nt : Nat} {fr : Nat → Prop} {s : S} {g : Nat → Value} {a : Act} {w w' : World} {R : Type} {H : Nat → Ob} {ok ok' : Nat → Prop}

/-- The cells of what is told by a kind; bs: the blocks that it owns. -/
def CR (w : World) (ok : Nat → Prop) : (k : K) → k.den → List Value → List Nat → Prop
  | .v t, x, cs, bs => En w ok t x cs ∧ bs = []
  | .own E t, x, cs, bs => ∃ v, cs = [v] ∧ RowO w ok E t x v ∧ bs = (blkOf v).toList
  | .io E t, x, cs, bs => ∃ v, cs = [v] ∧ RowO w ok E t x v ∧ bs = (blkOf v).toList
  | .bx T c, x, cs, bs => ∃ kb arr bs', cs = [.pointer (some ⟨kb, 0, none⟩)] ∧ w.heap[kb]? = some (.cells arr T (0, 0)) ∧ CR w ok c x arr.toList bs' ∧ bs = kb :: bs'
  | .fn f c, x, cs, bs => ∃ caps, cs = [.func (.func f) #[] caps] ∧ CR w ok c x caps.toList bs
  | .np, _, cs, bs => cs = [.pointer none] ∧ bs = []
  | .nl, _, cs, bs => cs = [.slice none 0 0] ∧ bs = []
  | .mb T c, x, cs, bs => match x with
    | none => cs = [.pointer none] ∧ bs = []
    | some x => ∃ kb arr bs', cs = [.pointer (some ⟨kb, 0, none⟩)] ∧ w.heap[kb]? = some (.cells arr T (0, 0)) ∧ CR w ok c x arr.toList bs' ∧ bs = kb :: bs'
  | .nil, _, cs, bs => cs = [] ∧ bs = []
  | .cons a b, x, cs, bs => ∃ c1 c2 b1 b2, cs = c1 ++ c2 ∧ bs = b1 ++ b2 ∧ CR w ok a x.1 c1 b1 ∧ CR w ok b x.2 c2 b2

/-- Likewise of values in a row. -/
def AR (w : World) (ok : Nat → Prop) : (ks : List K) → dens ks → List Value → List Nat → Prop
  | [], _, vs, bs => vs = [] ∧ bs = []
  | k :: r, x, vs, bs => ∃ cs rest b1 b2, vs = mkV k.isAgg cs :: rest ∧ bs = b1 ++ b2 ∧ CR w ok k x.1 cs b1 ∧ AR w ok r x.2 rest b2

theorem CR.len : ∀ {k : K} {x : k.den} {cs : List Value} {bs : List Nat}, CR w ok k x cs bs → cs.length = k.sz
  | .v _, _, _, _, h => h.1.len
  | .own _ _, _, _, _, h => by obtain ⟨v, rfl, _⟩ := h; rfl
  | .io _ _, _, _, _, h => by obtain ⟨v, rfl, _⟩ := h; rfl
  | .bx _ _, _, _, _, h => by obtain ⟨_, _, _, rfl, _⟩ := h; rfl
  | .fn _ _, _, _, _, h => by obtain ⟨_, rfl, _⟩ := h; rfl
  | .np, _, _, _, h => by rw [h.1]; rfl
  | .nl, _, _, _, h => by rw [h.1]; rfl
  | .mb _ _, none, _, _, h => by rw [h.1]; rfl
  | .mb _ _, some _, _, _, h => by obtain ⟨_, _, _, rfl, _⟩ := h; rfl
  | .nil, _, _, _, h => by rw [h.1]; rfl
  | .cons a b, _, _, _, h => by
    obtain ⟨c1, c2, b1, b2, rfl, _, h1, h2⟩ := h
    simp [K.sz, h1.len, h2.len]

theorem CR.lt : ∀ {k : K} {x : k.den} {cs : List Value} {bs : List Nat}, CR w ok k x cs bs → ∀ b ∈ bs, b < w.heap.size
  | .v _, _, _, _, h, b, hb => by rw [h.2] at hb; cases hb
  | .own _ _, _, _, _, h, b, hb => by
    obtain ⟨v, _, h, rfl⟩ := h
    exact RowO.lt h (by simpa using hb)
  | .io _ _, _, _, _, h, b, hb => by
    obtain ⟨v, _, h, rfl⟩ := h
    exact RowO.lt h (by simpa using hb)
  | .bx _ _, _, _, _, h, b, hb => by
    obtain ⟨kb, arr, bs', _, hh, h, rfl⟩ := h
    rcases List.mem_cons.1 hb with rfl | hb
    · exact (Array.getElem?_eq_some_iff.1 hh).1
    · exact h.lt b hb
  | .fn _ _, _, _, _, h, b, hb => by obtain ⟨_, _, h⟩ := h; exact h.lt b hb
  | .np, _, _, _, h, b, hb => by rw [h.2] at hb; cases hb
  | .nl, _, _, _, h, b, hb => by rw [h.2] at hb; cases hb
  | .mb _ _, none, _, _, h, b, hb => by rw [h.2] at hb; cases hb
  | .mb _ _, some _, _, _, h, b, hb => by
    obtain ⟨kb, arr, bs', _, hh, h, rfl⟩ := h
    rcases List.mem_cons.1 hb with rfl | hb
    · exact (Array.getElem?_eq_some_iff.1 hh).1
    · exact h.lt b hb
  | .nil, _, _, _, h, b, hb => by rw [h.2] at hb; cases hb
  | .cons a b, _, _, _, h, q, hq => by
    obtain ⟨c1, c2, b1, b2, _, rfl, h1, h2⟩ := h
    rcases List.mem_append.1 hq with hq | hq
    · exact h1.lt q hq
    · exact h2.lt q hq

theorem CR.mono (hk : ∀ k, ok k → ok' k ∧ w'.heap[k]? = w.heap[k]?) : ∀ {k : K} {x : k.den} {cs : List Value} {bs : List Nat}, (∀ b ∈ bs, w'.heap[b]? = w.heap[b]?) → CR w ok k x cs bs → CR w' ok' k x cs bs
  | .v _, _, _, _, _, h => ⟨En.mono hk h.1, h.2⟩
  | .own _ _, _, _, _, hb, h => by
    obtain ⟨v, e, h, rfl⟩ := h
    exact ⟨v, e, RowO.mono hk (fun k hk' => hb k (by simp [hk'])) h, rfl⟩
  | .io _ _, _, _, _, hb, h => by
    obtain ⟨v, e, h, rfl⟩ := h
    exact ⟨v, e, RowO.mono hk (fun k hk' => hb k (by simp [hk'])) h, rfl⟩
  | .bx _ _, _, _, _, hb, h => by
    obtain ⟨kb, arr, bs', e, hh, h, rfl⟩ := h
    exact ⟨kb, arr, bs', e, (hb kb (.head _)).trans hh, CR.mono hk (fun b h => hb b (.tail _ h)) h, rfl⟩
  | .fn _ _, _, _, _, hb, h => by obtain ⟨caps, e, h⟩ := h; exact ⟨caps, e, CR.mono hk hb h⟩
  | .np, _, _, _, _, h => h
  | .nl, _, _, _, _, h => h
  | .mb _ _, none, _, _, _, h => h
  | .mb _ _, some _, _, _, hb, h => by
    obtain ⟨kb, arr, bs', e, hh, h, rfl⟩ := h
    exact ⟨kb, arr, bs', e, (hb kb (.head _)).trans hh, CR.mono hk (fun b h => hb b (.tail _ h)) h, rfl⟩
  | .nil, _, _, _, _, h => h
  | .cons a b, _, _, _, hb, h => by
    obtain ⟨c1, c2, b1, b2, e, rfl, h1, h2⟩ := h
    exact ⟨c1, c2, b1, b2, e, rfl, CR.mono hk (fun b h => hb b (List.mem_append.2 (.inl h))) h1, CR.mono hk (fun b h => hb b (List.mem_append.2 (.inr h))) h2⟩

theorem AR.lt : ∀ {ks : List K} {x : dens ks} {vs : List Value} {bs : List Nat}, AR w ok ks x vs bs → ∀ b ∈ bs, b < w.heap.size
  | [], _, _, _, h, b, hb => by rw [h.2] at hb; cases hb
  | k :: r, _, _, _, h, b, hb => by
    obtain ⟨cs, rest, b1, b2, _, rfl, h1, h2⟩ := h
    rcases List.mem_append.1 hb with hb | hb
    · exact h1.lt b hb
    · exact h2.lt b hb

theorem AR.mono (hk : ∀ k, ok k → ok' k ∧ w'.heap[k]? = w.heap[k]?) : ∀ {ks : List K} {x : dens ks} {vs : List Value} {bs : List Nat}, (∀ b ∈ bs, w'.heap[b]? = w.heap[b]?) → AR w ok ks x vs bs → AR w' ok' ks x vs bs
  | [], _, _, _, _, h => h
  | k :: r, _, _, _, hb, h => by
    obtain ⟨cs, rest, b1, b2, e, rfl, h1, h2⟩ := h
    exact ⟨cs, rest, b1, b2, e, rfl, h1.mono hk (fun b h => hb b (List.mem_append.2 (.inl h))), AR.mono hk (fun b h => hb b (List.mem_append.2 (.inr h))) h2⟩

theorem AR.vlen : ∀ {ks : List K} {x : dens ks} {vs : List Value} {bs : List Nat}, AR w ok ks x vs bs → vs.length = ks.length
  | [], _, _, _, h => by rw [h.1]; rfl
  | k :: r, _, _, _, h => by
    obtain ⟨cs, rest, b1, b2, rfl, _, _, h2⟩ := h
    simp [AR.vlen h2]

/-- An object whose cells may be written. -/
def Ob.ownd : Ob → Bool
  | .row .. | .box .. => true
  | _ => false

theorem ownd_rb {o : Ob} (h : o.ownd = true) : o.rb = true := by cases o <;> first | rfl | cases h

theorem RowO.take_ {E : Nat} {t : Ty} {xs : List t.den} {A : Option Addr} {m c n : Nat} (h : RowO w ok E t xs (.slice A m c)) (hn : n ≤ m) : RowO w ok E t (xs.take n) (.slice A n c) := by
  obtain ⟨css, hc, hl, ho⟩ := h
  have hlen : ∀ c ∈ css, c.length = t.sz := by
    intro c hcm
    obtain ⟨j, hj, rfl⟩ := List.getElem_of_mem hcm
    exact (hc.get j (hc.len ▸ hj) hj).len
  have hft : ∀ (css : List (List Value)) (n : Nat), (∀ c ∈ css, c.length = t.sz) → (css.take n).flatten = css.flatten.take (n * t.sz) := by
    intro css
    induction css with
    | nil => intro n _; simp
    | cons c css ih =>
      intro n hl
      cases n with
      | zero => simp
      | succ n =>
        have h0 := hl c (.head _)
        simp only [List.take_succ_cons, List.flatten_cons]
        rw [ih n fun c h => hl c (.tail _ h), Nat.add_mul, Nat.one_mul, Nat.add_comm, ← h0, List.take_length_add_append]
  rcases ho with ⟨e, h0⟩ | ⟨q, o, cap, cur, e, hq, hh, hnc, hm, hcur, htk⟩
  · cases e
    have : n = 0 := by omega
    subst this
    exact ⟨[], by simp [All2], ownsR_nil _ _ _⟩
  · cases e
    have hlt : (xs.take n).length = n := by rw [List.length_take]; omega
    refine ⟨css.take n, hc.take n, ?_, .inr ⟨q, o, c, cur, by rw [hlt], hq, hh, by rw [hlt]; omega, hm, hcur, ?_⟩⟩
    · rw [hft css n hlen, List.length_take, hl, hlt]
      have := Nat.mul_le_mul_right t.sz hn
      omega
    · rw [hft css n hlen, ← htk, List.take_take, hlt]
      congr 1
      have := Nat.mul_le_mul_right t.sz hn
      omega

/-- Some of a row of the call's own. -/
theorem RowO.sub_ {E : Nat} {t : Ty} {xs : List t.den} {A A' : Option Addr} {c lo n : Nat} (h : RowO w ok E t xs (.slice A xs.length c)) (hn : lo + n ≤ xs.length)
    (hA : (A = none ∧ A' = none) ∨ ∃ ad ad', A = some ad ∧ A' = some ad' ∧ ((c = lo ∧ ∃ j, j ≤ lo ∧ ad' = ad.add (j * t.sz)) ∨ ad' = ad.add (lo * t.sz))) :
    RowO w ok E t ((xs.drop lo).take n) (.slice A' n (c - lo)) ∧ blkOf (.slice A' n (c - lo)) = blkOf (.slice A xs.length c) := by
  obtain ⟨css, hc, hl, ho⟩ := h
  have hcl : ∀ c ∈ css, c.length = t.sz := fun c hm => by obtain ⟨j, hj, rfl⟩ := List.getElem_of_mem hm; exact (hc.get j (hc.len ▸ hj) hj).len
  have hlen : ((xs.drop lo).take n).length = n := by rw [List.length_take, List.length_drop]; omega
  have hfl : ((css.drop lo).take n).flatten = (css.flatten.drop (lo * t.sz)).take (n * t.sz) := by
    rw [take_flat _ _ (fun c hm => hcl c (List.mem_of_mem_drop hm)), drop_flat _ _ hcl]
  have hmul := Nat.mul_le_mul_right t.sz hn
  rw [Nat.add_mul] at hmul
  rcases ho with ⟨e, h0⟩ | ⟨q, o, cap, cur, e, hq, hh, hnc, hm, hcur, htk⟩
  · simp only [Value.slice.injEq] at e
    obtain ⟨rfl, _, rfl⟩ := e
    have hl0 : lo = 0 := by omega
    have hn0 : n = 0 := by omega
    subst hl0 hn0
    rcases hA with ⟨_, rfl⟩ | ⟨_, _, e1, _⟩
    · exact ⟨⟨[], by simp [All2], by simpa using ownsR_nil w E t.sz⟩, rfl⟩
    · cases e1
  · simp only [Value.slice.injEq] at e
    obtain ⟨rfl, _, rfl⟩ := e
    rcases hA with ⟨e1, _⟩ | ⟨ad, ad', e1, rfl, e3⟩
    · cases e1
    cases e1
    obtain ⟨j, hj, rfl, hjl⟩ : ∃ j, j ≤ lo ∧ ad' = ⟨q, o + j * t.sz, none⟩ ∧ (j = lo ∨ c = lo) := by
      rcases e3 with ⟨h1, j, h2, h3⟩ | h
      · exact ⟨j, h2, by rw [h3, add_at], .inr h1⟩
      · exact ⟨lo, Nat.le_refl _, by rw [h, add_at], .inl rfl⟩
    refine ⟨⟨(css.drop lo).take n, (hc.drop lo).take n, ?_, .inr ⟨q, o + j * t.sz, c - lo, cur, by rw [hlen], hq, hh, by rw [hlen]; omega, by omega, ?_, ?_⟩⟩, rfl⟩
    · rw [hfl, List.length_take, List.length_drop, hl, hlen]
      omega
    · have := Nat.mul_le_mul_right t.sz (show j + (c - lo) ≤ c by omega)
      rw [Nat.add_mul] at this
      omega
    · rw [hfl, hlen, ← htk]
      rcases hjl with rfl | hcl'
      · rw [List.drop_take, List.take_take, List.drop_drop, Nat.min_eq_left (by omega)]
      · have : n = 0 := by omega
        subst this
        simp

section
variable {Hv : Nat → Ob}

/-- Some cells are what they are packed as. -/
theorem pkC_R (hv : ∀ id, Hv id = .gone ∨ Hv id = H id) (hobj : ∀ id, OB g H w ok id (H id)) (hok : ∀ k, ok k → ok' k) :
    ∀ {k : K} {ls r : List L} {x : k.den} {fro lent : List Nat} {cs : List Value}, pkC Hv k ls = some (x, r, fro, lent) → All2 (LR g H w ok) ls cs → (∀ id ∈ fro, ∀ k, owned g H id = some k → ok' k) →
      ∃ c1 c2 l1, cs = c1 ++ c2 ∧ ls = l1 ++ r ∧ CR w ok' k x c1 (lent.filterMap (owned g H)) ∧ All2 (LR g H w ok) r c2 := by
  have hrow : ∀ id E t xs, Hv id = .row E t xs → H id = .row E t xs := fun id E t xs h => by rcases hv id with e | e <;> rw [e] at h; cases h; exact h
  have hbox : ∀ id T ls, Hv id = .box T ls → H id = .box T ls := fun id T ls h => by rcases hv id with e | e <;> rw [e] at h; cases h; exact h
  have hclo : ∀ id f ls, Hv id = .clo f ls → H id = .clo f ls := fun id T ls h => by rcases hv id with e | e <;> rw [e] at h; cases h; exact h
  have own_ : ∀ {id E : Nat} {t : Ty} {xs : List t.den}, Hv id = .row E t xs → RowO w ok' E t xs (g id) ∧ owned g H id = blkOf (g id) := by
    intro id E t xs h
    have ho := hobj id
    rw [hrow _ _ _ _ h] at ho
    exact ⟨RowO.mono (fun k hk => ⟨hok k hk, rfl⟩) (fun _ _ => rfl) ho, by simp [owned, hrow _ _ _ _ h]⟩
  intro k
  induction k with
  | v t =>
    intro ls r x fro lent cs h ha hf
    simp only [pkC] at h
    split at h
    · rename_i x' r' i hp
      cases h
      obtain ⟨c1, c2, l1, e1, e2, e3, e4⟩ := pj_En (vw := fun j => (Hv j).vw) (fun id E t xs h => by rcases hv id with e | e <;> simp only [e] at h; cases h; exact h) hobj hok hp ha hf
      exact ⟨c1, c2, l1, e1, e2, ⟨e3, rfl⟩, e4⟩
    · cases h
  | own E t =>
    intro ls r x fro lent cs h ha hf
    simp only [pkC] at h
    split at h
    · cases h
      obtain ⟨b, q, rfl, hb, hq⟩ := ha.cons_l
      exact ⟨[b], q, [_], rfl, rfl, ⟨b, rfl, by rw [show b = _ from hb]; exact ⟨[], trivial, ownsR_nil _ _ _⟩, by rw [show b = _ from hb]; rfl⟩, hq⟩
    · rename_i id q'
      split at h
      · rename_i E' t' xs hH
        split at h
        · rename_i ht; subst ht
          split at h
          · rename_i hE; subst hE
            cases h
            obtain ⟨b, q, rfl, hb, hq⟩ := ha.cons_l
            obtain ⟨h1, h2⟩ := own_ hH
            have hbg : b = g id := hb.2 t' xs.length (by rw [hrow _ _ _ _ hH]; rfl)
            exact ⟨[b], q, [_], rfl, rfl, ⟨b, rfl, by rw [hbg]; exact h1, by rw [hbg, ← h2]; cases e : owned g H id <;> simp [e]⟩, hq⟩
          · cases h
        · cases h
      · cases h
    · rename_i id n q'
      split at h
      · rename_i E' t' xs hH
        split at h
        · rename_i ht; subst ht
          split at h
          · rename_i hE; subst hE
            cases h
            obtain ⟨b, q, rfl, hb, hq⟩ := ha.cons_l
            obtain ⟨h1, h2⟩ := own_ hH
            obtain ⟨hn, A, c, hg, hbv⟩ := hb.2 t' xs.length (by rw [hrow _ _ _ _ hH]; rfl)
            rw [hg] at h1 h2
            have hbl : blkOf b = owned g H id := by rw [h2, hbv]; cases A <;> rfl
            exact ⟨[b], q, [_], rfl, rfl, ⟨b, rfl, by rw [hbv]; exact h1.take_ hn, by rw [hbl]; cases e : owned g H id <;> simp [e]⟩, hq⟩
          · cases h
        · cases h
      · cases h
    · rename_i id lo hi q'
      split at h
      · rename_i E' t' xs hH
        split at h
        · rename_i ht; subst ht
          split at h
          · rename_i hE; subst hE
            cases h
            obtain ⟨b, q, rfl, hb, hq⟩ := ha.cons_l
            obtain ⟨h1, h2⟩ := own_ hH
            obtain ⟨hn, A, A', c, hg, hbv, hA⟩ := hb.2 t' xs.length (by rw [hrow _ _ _ _ hH]; rfl)
            rw [hg] at h1 h2
            obtain ⟨h3, h4⟩ := h1.sub_ (n := hi - lo) (by omega) hA
            rw [← List.drop_take] at h3
            have hbl : blkOf b = owned g H id := by rw [h2, hbv, h4]
            exact ⟨[b], q, [_], rfl, rfl, ⟨b, rfl, by rw [hbv]; exact h3, by rw [hbl]; cases e : owned g H id <;> simp [e]⟩, hq⟩
          · cases h
        · cases h
      · cases h
    · cases h
  | io E t =>
    intro ls r x fro lent cs h ha hf
    simp only [pkC] at h
    split at h
    · rename_i id q'
      split at h
      · rename_i E' t' xs hH
        split at h
        · rename_i ht; subst ht
          split at h
          · rename_i hE; subst hE
            cases h
            obtain ⟨b, q, rfl, hb, hq⟩ := ha.cons_l
            obtain ⟨h1, h2⟩ := own_ hH
            have hbg : b = g id := hb.2 t' xs.length (by rw [hrow _ _ _ _ hH]; rfl)
            exact ⟨[b], q, [_], rfl, rfl, ⟨b, rfl, by rw [hbg]; exact h1, by rw [hbg, ← h2]; cases e : owned g H id <;> simp [e]⟩, hq⟩
          · cases h
        · cases h
      · cases h
    · cases h
  | bx T c ih =>
    intro ls r x fro lent cs h ha hf
    simp only [pkC] at h
    split at h
    · rename_i id q'
      split at h
      · rename_i T' ls' hH
        split at h
        · rename_i hT; subst hT
          split at h
          · rename_i x' fro' lent' hp
            cases h
            obtain ⟨b, q, rfl, hb, hq⟩ := ha.cons_l
            have ho := hobj id
            rw [hbox _ _ _ hH] at ho
            obtain ⟨kb, arr, hg, hh, hall⟩ := ho
            obtain ⟨kb', hg', hbv⟩ := hb.2 (.nil, 0) (by rw [hbox _ _ _ hH]; rfl)
            rw [hg] at hg'; cases hg'
            obtain ⟨c1, c2, l1, e1, e2, e3, e4⟩ := ih hp hall hf
            rw [All2.nil_l e4, List.append_nil] at e1
            have hown : owned g H id = some kb := by simp [owned, hbox _ _ _ hH, hg, blkOf]
            exact ⟨[b], q, [_], rfl, rfl, ⟨kb, arr, lent'.filterMap (owned g H), by rw [hbv], hh, by rw [e1]; exact e3, by simp [hown]⟩, hq⟩
          · cases h
        · cases h
      · cases h
    · cases h
  | fn f c ih =>
    intro ls r x fro lent cs h ha hf
    simp only [pkC] at h
    split at h
    · rename_i f' q'
      split at h
      · rename_i hff; subst hff
        split at h
        · rename_i x' fro' lent' hp
          cases h
          obtain ⟨b, q, rfl, hb, hq⟩ := ha.cons_l
          obtain ⟨c1, c2, l1, e1, e2, e3, e4⟩ := ih (cs := []) hp trivial hf
          obtain ⟨hc1, _⟩ := List.append_eq_nil_iff.1 e1.symm
          subst hc1
          exact ⟨[b], q, [_], rfl, rfl, ⟨#[], by rw [show b = _ from hb], e3⟩, hq⟩
        · cases h
      · cases h
    · rename_i id q'
      split at h
      · rename_i f' ls' hH
        split at h
        · rename_i hff; subst hff
          split at h
          · rename_i x' fro' lent' hp
            cases h
            obtain ⟨b, q, rfl, hb, hq⟩ := ha.cons_l
            have ho := hobj id
            rw [hclo _ _ _ hH] at ho
            obtain ⟨caps, hg, hall⟩ := ho
            have hbg : b = g id := hb.2 .nil 0 (by rw [hclo _ _ _ hH]; rfl)
            obtain ⟨c1, c2, l1, e1, e2, e3, e4⟩ := ih hp hall hf
            rw [All2.nil_l e4, List.append_nil] at e1
            exact ⟨[b], q, [_], rfl, rfl, ⟨caps, by rw [hbg, hg], by rw [e1]; exact e3⟩, hq⟩
          · cases h
        · cases h
      · cases h
    · cases h
  | np =>
    intro ls r x fro lent cs h ha hf
    simp only [pkC] at h
    split at h
    · cases h
      obtain ⟨b, q, rfl, hb, hq⟩ := ha.cons_l
      exact ⟨[b], q, [_], rfl, rfl, ⟨by rw [show b = _ from hb], rfl⟩, hq⟩
    · cases h
  | nl =>
    intro ls r x fro lent cs h ha hf
    simp only [pkC] at h
    split at h
    · cases h
      obtain ⟨b, q, rfl, hb, hq⟩ := ha.cons_l
      exact ⟨[b], q, [_], rfl, rfl, ⟨by rw [show b = _ from hb], rfl⟩, hq⟩
    · cases h
  | mb T c ih =>
    intro ls r x fro lent cs h ha hf
    simp only [pkC] at h
    split at h
    · cases h
      obtain ⟨b, q, rfl, hb, hq⟩ := ha.cons_l
      exact ⟨[b], q, [_], rfl, rfl, ⟨by rw [show b = _ from hb], rfl⟩, hq⟩
    · rename_i id q'
      split at h
      · rename_i T' ls' hH
        split at h
        · rename_i hT; subst hT
          split at h
          · rename_i x' fro' lent' hp
            cases h
            obtain ⟨b, q, rfl, hb, hq⟩ := ha.cons_l
            have ho := hobj id
            rw [hbox _ _ _ hH] at ho
            obtain ⟨kb, arr, hg, hh, hall⟩ := ho
            obtain ⟨kb', hg', hbv⟩ := hb.2 (.nil, 0) (by rw [hbox _ _ _ hH]; rfl)
            rw [hg] at hg'; cases hg'
            obtain ⟨c1, c2, l1, e1, e2, e3, e4⟩ := ih hp hall hf
            rw [All2.nil_l e4, List.append_nil] at e1
            have hown : owned g H id = some kb := by simp [owned, hbox _ _ _ hH, hg, blkOf]
            exact ⟨[b], q, [_], rfl, rfl, ⟨kb, arr, lent'.filterMap (owned g H), by rw [hbv], hh, by rw [e1]; exact e3, by simp [hown]⟩, hq⟩
          · cases h
        · cases h
      · cases h
    · cases h
  | nil =>
    intro ls r x fro lent cs h ha hf
    simp only [pkC] at h
    cases h
    exact ⟨[], cs, [], rfl, rfl, ⟨rfl, rfl⟩, ha⟩
  | cons a b iha ihb =>
    intro ls r x fro lent cs h ha hf
    simp only [pkC] at h
    split at h
    · rename_i x1 r1 f1 l1 h1
      split at h
      · rename_i y r2 f2 l2 h2
        cases h
        obtain ⟨c1, c2, m1, rfl, rfl, e1, a1⟩ := iha h1 ha (fun id hm => hf id (List.mem_append.2 (.inl hm)))
        obtain ⟨c3, c4, m2, rfl, rfl, e2, a2⟩ := ihb h2 a1 (fun id hm => hf id (List.mem_append.2 (.inr hm)))
        exact ⟨c1 ++ c3, c4, m1 ++ m2, by simp, by simp, ⟨c1, c3, _, _, rfl, by rw [List.filterMap_append], e1, e2⟩, a2⟩
      · cases h
    · cases h

/-- The names told when some cells are packed. -/
theorem pkC_ids (hv : ∀ id, Hv id = .gone ∨ Hv id = H id) (hkold : ∀ id, ∀ j ∈ (H id).kids, ¬ fr j) :
    ∀ {k : K} {ls r : List L} {x : k.den} {fro lent : List Nat}, pkC Hv k ls = some (x, r, fro, lent) → (∀ l ∈ ls, ∀ j ∈ l.ids, ¬ fr j) →
      (∀ id ∈ fro, ¬ fr id ∧ (H id).rb = true) ∧ (∀ id ∈ lent, ¬ fr id ∧ (H id).ownd = true) ∧ ∀ l ∈ r, l ∈ ls := by
  have hvi : ∀ id o, Hv id = o → o ≠ .gone → H id = o := fun id o h hne => by rcases hv id with e | e; exact absurd (e.symm.trans h).symm hne; exact e.symm.trans h
  intro k
  induction k with
  | v t =>
    intro ls r x fro lent h hl
    simp only [pkC] at h
    split at h
    · rename_i x' r' i hp
      cases h
      refine ⟨fun id hi => ?_, by simp, (pj_ids hp).2⟩
      obtain ⟨l, hl', hi'⟩ := (pj_ids hp).1 id hi
      obtain ⟨E, t', xs, hvr⟩ := pj_rows hp id hi
      refine ⟨hl l hl' id hi', rb_row ⟨E, t', xs, ?_⟩⟩
      rcases hv id with e | e <;> simp only [e] at hvr
      · cases hvr
      · exact hvr
    · cases h
  | own E t =>
    intro ls r x fro lent h hl
    simp only [pkC] at h
    split at h
    · cases h; exact ⟨by simp, by simp, fun l h => .tail _ h⟩
    · rename_i id q'
      split at h
      · rename_i E' t' xs hH
        split at h
        · split at h
          · cases h
            refine ⟨by simp, fun j hj => ?_, fun l h => .tail _ h⟩
            have : j = id := by simpa using hj
            subst this
            exact ⟨hl _ (.head _) j (by simp [L.ids]), by rw [hvi _ _ hH (by simp)]; rfl⟩
          · cases h
        · cases h
      · cases h
    · rename_i id n q'
      split at h
      · rename_i E' t' xs hH
        split at h
        · split at h
          · cases h
            refine ⟨by simp, fun j hj => ?_, fun l h => .tail _ h⟩
            have : j = id := by simpa using hj
            subst this
            exact ⟨hl _ (.head _) j (by simp [L.ids]), by rw [hvi _ _ hH (by simp)]; rfl⟩
          · cases h
        · cases h
      · cases h
    · rename_i id lo hi q'
      split at h
      · rename_i E' t' xs hH
        split at h
        · split at h
          · cases h
            refine ⟨by simp, fun j hj => ?_, fun l h => .tail _ h⟩
            have : j = id := by simpa using hj
            subst this
            exact ⟨hl _ (.head _) j (by simp [L.ids]), by rw [hvi _ _ hH (by simp)]; rfl⟩
          · cases h
        · cases h
      · cases h
    · cases h
  | io E t =>
    intro ls r x fro lent h hl
    simp only [pkC] at h
    split at h
    · rename_i id q'
      split at h
      · rename_i E' t' xs hH
        split at h
        · split at h
          · cases h
            refine ⟨by simp, fun j hj => ?_, fun l h => .tail _ h⟩
            have : j = id := by simpa using hj
            subst this
            exact ⟨hl _ (.head _) j (by simp [L.ids]), by rw [hvi _ _ hH (by simp)]; rfl⟩
          · cases h
        · cases h
      · cases h
    · cases h
  | bx T c ih =>
    intro ls r x fro lent h hl
    simp only [pkC] at h
    split at h
    · rename_i id q'
      split at h
      · rename_i T' ls' hH
        split at h
        · split at h
          · rename_i x' fro' lent' hp
            cases h
            have hHb := hvi _ _ hH (by simp)
            obtain ⟨h1, h2, _⟩ := ih hp (fun l hm j hj => hkold id j (by rw [hHb]; exact List.mem_flatMap.2 ⟨l, hm, hj⟩))
            refine ⟨h1, fun j hj => ?_, fun l h => .tail _ h⟩
            rcases List.mem_cons.1 hj with rfl | hj
            · exact ⟨hl _ (.head _) j (by simp [L.ids]), by rw [hHb]; rfl⟩
            · exact h2 j hj
          · cases h
        · cases h
      · cases h
    · cases h
  | fn f c ih =>
    intro ls r x fro lent h hl
    simp only [pkC] at h
    split at h
    · split at h
      · split at h
        · rename_i x' fro' lent' hp
          cases h
          obtain ⟨h1, h2, _⟩ := ih hp (by simp)
          exact ⟨h1, h2, fun l h => .tail _ h⟩
        · cases h
      · cases h
    · rename_i id q'
      split at h
      · rename_i f' ls' hH
        split at h
        · split at h
          · rename_i x' fro' lent' hp
            cases h
            obtain ⟨h1, h2, _⟩ := ih hp (fun l hm j hj => hkold id j (by rw [hvi _ _ hH (by simp)]; exact List.mem_flatMap.2 ⟨l, hm, hj⟩))
            exact ⟨h1, h2, fun l h => .tail _ h⟩
          · cases h
        · cases h
      · cases h
    · cases h
  | np =>
    intro ls r x fro lent h hl
    simp only [pkC] at h
    split at h
    · cases h; exact ⟨by simp, by simp, fun l h => .tail _ h⟩
    · cases h
  | nl =>
    intro ls r x fro lent h hl
    simp only [pkC] at h
    split at h
    · cases h; exact ⟨by simp, by simp, fun l h => .tail _ h⟩
    · cases h
  | mb T c ih =>
    intro ls r x fro lent h hl
    simp only [pkC] at h
    split at h
    · cases h; exact ⟨by simp, by simp, fun l h => .tail _ h⟩
    · rename_i id q'
      split at h
      · rename_i T' ls' hH
        split at h
        · split at h
          · rename_i x' fro' lent' hp
            cases h
            have hHb := hvi _ _ hH (by simp)
            obtain ⟨h1, h2, _⟩ := ih hp (fun l hm j hj => hkold id j (by rw [hHb]; exact List.mem_flatMap.2 ⟨l, hm, hj⟩))
            refine ⟨h1, fun j hj => ?_, fun l h => .tail _ h⟩
            rcases List.mem_cons.1 hj with rfl | hj
            · exact ⟨hl _ (.head _) j (by simp [L.ids]), by rw [hHb]; rfl⟩
            · exact h2 j hj
          · cases h
        · cases h
      · cases h
    · cases h
  | nil =>
    intro ls r x fro lent h hl
    simp only [pkC] at h
    cases h
    exact ⟨by simp, by simp, fun l h => h⟩
  | cons a b iha ihb =>
    intro ls r x fro lent h hl
    simp only [pkC] at h
    split at h
    · rename_i x1 r1 f1 l1 h1
      split at h
      · rename_i y r2 f2 l2 h2
        cases h
        obtain ⟨p1, q1, s1⟩ := iha h1 hl
        obtain ⟨p2, q2, s2⟩ := ihb h2 (fun l h => hl l (s1 l h))
        refine ⟨fun id hm => ?_, fun id hm => ?_, fun l h => s1 l (s2 l h)⟩
        · rcases List.mem_append.1 hm with hm | hm
          · exact p1 id hm
          · exact p2 id hm
        · rcases List.mem_append.1 hm with hm | hm
          · exact q1 id hm
          · exact q2 id hm
      · cases h
    · cases h

theorem mkV_D0 {k : K} {d : D0} {v : Value} {cs : List Value} (hagg : d.isAgg = k.isAgg) (hd : D0R g H w ok d v) (hcs : All2 (LR g H w ok) d.ls cs) (he : ∀ u, d = .one u → cs = [v]) (he2 : ∀ ls, d = .agg ls → v = .agg cs.toArray) : v = mkV k.isAgg cs := by
  cases d with
  | one l =>
    rw [← hagg, he l rfl]; rfl
  | agg ls =>
    rw [← hagg, he2 ls rfl]; simp [D0.isAgg, mkV]

theorem D0R_all {d : D0} {v : Value} (hd : D0R g H w ok d v) : ∃ cs, All2 (LR g H w ok) d.ls cs ∧ v = mkV d.isAgg cs := by
  cases d with
  | one l => exact ⟨[v], ⟨hd, trivial⟩, rfl⟩
  | agg ls =>
    obtain ⟨cs, rfl, h⟩ := hd
    exact ⟨cs.toList, h, by simp [mkV, D0.isAgg]⟩

theorem pkA_R (hv : ∀ id, Hv id = .gone ∨ Hv id = H id) (hobj : ∀ id, OB g H w ok id (H id)) (hok : ∀ k, ok k → ok' k) :
    ∀ {ks : List K} {ds : List D} {vs : List Value} {x : dens ks} {fro lent : List Nat}, pkA Hv ks ds = some (x, fro, lent) → All2 (DR g H w ok) ds vs → (∀ id ∈ fro, ∀ k, owned g H id = some k → ok' k) →
      AR w ok' ks x vs (lent.filterMap (owned g H))
  | [], ds, vs, x, fro, lent, h, ha, _ => by
    simp only [pkA] at h
    split at h
    · cases h; exact ⟨All2.nil_l ha, rfl⟩
    · cases h
  | k :: r, ds, vs, x, fro, lent, h, ha, hf => by
    simp only [pkA] at h
    split at h
    · rename_i d ds
      split at h
      · rename_i hagg
        split at h
        · rename_i x1 f1 l1 h1
          split at h
          · rename_i y f2 l2 h2
            cases h
            obtain ⟨v, rest, rfl, hd, hrest⟩ := ha.cons_l
            obtain ⟨cs, hcs, hvm⟩ := D0R_all (show D0R g H w ok d v from hd)
            obtain ⟨c1, c2, m1, e1, _, e3, e4⟩ := pkC_R hv hobj hok h1 hcs (fun id hm => hf id (List.mem_append.2 (.inl hm)))
            rw [All2.nil_l e4, List.append_nil] at e1
            subst e1
            exact ⟨cs, rest, _, _, by rw [hvm, hagg], by rw [List.filterMap_append], e3, pkA_R hv hobj hok h2 hrest (fun id hm => hf id (List.mem_append.2 (.inr hm)))⟩
          · cases h
        · cases h
      · cases h
    · cases h

theorem pkA_ids (hv : ∀ id, Hv id = .gone ∨ Hv id = H id) (hkold : ∀ id, ∀ j ∈ (H id).kids, ¬ fr j) :
    ∀ {ks : List K} {ds : List D} {x : dens ks} {fro lent : List Nat}, pkA Hv ks ds = some (x, fro, lent) → (∀ d ∈ ds, ∀ j ∈ d.ids, ¬ fr j) →
      (∀ id ∈ fro, ¬ fr id ∧ (H id).rb = true) ∧ (∀ id ∈ lent, ¬ fr id ∧ (H id).ownd = true)
  | [], ds, x, fro, lent, h, _ => by
    simp only [pkA] at h
    split at h
    · cases h; simp
    · cases h
  | k :: r, ds, x, fro, lent, h, hd => by
    simp only [pkA] at h
    split at h
    · rename_i d ds
      split at h
      · split at h
        · rename_i x1 f1 l1 h1
          split at h
          · rename_i y f2 l2 h2
            cases h
            obtain ⟨p1, q1, _⟩ := pkC_ids hv hkold h1 (fun l hl j hj => hd _ (.head _) j (by simp only [D.ids, D0.ids, List.mem_flatMap]; exact ⟨l, hl, hj⟩))
            obtain ⟨p2, q2⟩ := pkA_ids hv hkold h2 (fun d hm => hd d (.tail _ hm))
            refine ⟨fun id hm => ?_, fun id hm => ?_⟩
            · rcases List.mem_append.1 hm with hm | hm
              · exact p1 id hm
              · exact p2 id hm
            · rcases List.mem_append.1 hm with hm | hm
              · exact q1 id hm
              · exact q2 id hm
          · cases h
        · cases h
      · cases h
    · cases h
end

end Go.Proofs.Fr

/- What comes back across a border is laid: the objects that it is, by names of their own. -/
namespace Go.Proofs.Fr
open Go Go.RowKit

variable {P : Program} {B : Bs} {nt : Nat} {fr : Nat → Prop} {s : S} {g : Nat → Value} {a : Act} {w w' : World} {R : Type} {H : Nat → Ob} {ok ok' : Nat → Prop}

def ownB (o : Ob) (v : Value) : Option Nat :=
  match o with
  | .box .. => blkOf v
  | .row .. => blkOf v
  | _ => none

theorem owned_eq (g : Nat → Value) (H : Nat → Ob) (i : Nat) : owned g H i = ownB (H i) (g i) := by
  unfold owned ownB
  cases H i <;> rfl

def ownsL : List Ob → List Value → List Nat
  | o :: os, v :: vs => (ownB o v).toList ++ ownsL os vs
  | _, _ => []

theorem ownsL_app : ∀ {os os' : List Ob} {vs vs' : List Value}, os.length = vs.length → ownsL (os ++ os') (vs ++ vs') = ownsL os vs ++ ownsL os' vs'
  | [], _, [], _, _ => rfl
  | o :: os, _, v :: vs, _, h => by
    simp only [List.cons_append, ownsL, List.append_assoc]
    rw [ownsL_app (by simpa using h)]
  | [], _, _ :: _, _, h => by simp at h
  | _ :: _, _, [], _, h => by simp at h

theorem ownsL_mem : ∀ {os : List Ob} {vs : List Value} {i : Nat} {o : Ob} {v : Value} {k : Nat}, os[i]? = some o → vs[i]? = some v → ownB o v = some k → k ∈ ownsL os vs
  | [], _, _, _, _, _, h, _, _ => by simp at h
  | _ :: _, [], _, _, _, _, _, h, _ => by simp at h
  | o0 :: os, v0 :: vs, 0, o, v, k, ho, hv, hk => by
    simp at ho hv; subst ho; subst hv
    simp [ownsL, hk]
  | o0 :: os, v0 :: vs, i + 1, o, v, k, ho, hv, hk => by
    simp only [ownsL, List.mem_append]
    exact .inr (ownsL_mem (by simpa using ho) (by simpa using hv) hk)

theorem ownsL_inj : ∀ {os : List Ob} {vs : List Value}, (ownsL os vs).Nodup → ∀ {i j : Nat} {o o' : Ob} {v v' : Value} {k : Nat}, os[i]? = some o → vs[i]? = some v → ownB o v = some k → os[j]? = some o' → vs[j]? = some v' → ownB o' v' = some k → i = j
  | [], _, _, _, _, _, _, _, _, _, h, _, _, _, _, _ => by simp at h
  | _ :: _, [], _, _, _, _, _, _, _, _, _, h, _, _, _, _ => by simp at h
  | o0 :: os, v0 :: vs, hn, i, j, o, o', v, v', k, h1, h2, h3, h4, h5, h6 => by
    simp only [ownsL, List.nodup_append] at hn
    obtain ⟨_, hn2, hn3⟩ := hn
    cases i with
    | zero =>
      simp at h1 h2; subst h1; subst h2
      cases j with
      | zero => rfl
      | succ j => exact absurd rfl (hn3 k (by simp [h3]) k (ownsL_mem (by simpa using h4) (by simpa using h5) h6))
    | succ i =>
      cases j with
      | zero =>
        simp at h4 h5; subst h4; subst h5
        exact absurd rfl (hn3 k (by simp [h6]) k (ownsL_mem (by simpa using h1) (by simpa using h2) h3))
      | succ j => rw [ownsL_inj hn2 (i := i) (j := j) (by simpa using h1) (by simpa using h2) h3 (by simpa using h4) (by simpa using h5) h6]

theorem isNil_eq {c : K} (h : c.isNil = true) : c = .nil := by cases c <;> first | rfl | cases h

theorem mkC_len : ∀ (k : K) (x : k.den) (n : Nat), (mkC k x n).2.length = k.nob
  | .v _, _, _ => rfl
  | .own _ _, _, _ => rfl
  | .io _ _, _, _ => rfl
  | .bx _ c, x, n => by simp only [mkC, List.length_cons, mkC_len c x (n + 1), K.nob]
  | .fn _ c, x, n => by
    simp only [mkC, K.nob]
    cases c.isNil
    · simp only [cond_false, List.length_cons, mkC_len c x (n + 1)]
    · rfl
  | .np, _, _ => rfl
  | .nl, _, _ => rfl
  | .mb .., _, _ => rfl
  | .nil, _, _ => rfl
  | .cons a b, x, n => by simp only [mkC, List.length_append, mkC_len a x.1 n, mkC_len b x.2 (n + a.nob), K.nob]

theorem mkC_ids : ∀ (k : K) (x : k.den) (n : Nat), (∀ l ∈ (mkC k x n).1, ∀ j ∈ l.ids, n ≤ j ∧ j < n + k.nob) ∧ (∀ o ∈ (mkC k x n).2, ∀ j ∈ o.kids, n ≤ j ∧ j < n + k.nob)
  | .v t, x, n => ⟨fun l hl j hj => (by rw [inj_ids t x l hl] at hj; cases hj), by simp [mkC]⟩
  | .own _ _, _, n => ⟨by simp [mkC, L.ids, K.nob], by simp [mkC, Ob.kids]⟩
  | .io _ _, _, n => ⟨by simp [mkC, L.ids, K.nob], by simp [mkC, Ob.kids]⟩
  | .bx T c, x, n => by
    obtain ⟨h1, h2⟩ := mkC_ids c x (n + 1)
    refine ⟨fun l hl j hj => ?_, fun o ho j hj => ?_⟩
    · simp only [mkC, List.mem_singleton] at hl; subst hl
      simp only [L.ids, List.mem_singleton] at hj; subst hj
      simp only [K.nob]; omega
    · simp only [K.nob]
      rcases List.mem_cons.1 ho with rfl | ho
      · obtain ⟨l, hl, hj⟩ := List.mem_flatMap.1 hj
        have := h1 l hl j hj; omega
      · have := h2 o ho j hj; omega
  | .fn f c, x, n => by
    obtain ⟨h1, h2⟩ := mkC_ids c x (n + 1)
    simp only [mkC, K.nob]
    cases c.isNil
    · simp only [cond_false]
      refine ⟨fun l hl j hj => ?_, fun o ho j hj => ?_⟩
      · simp only [List.mem_singleton] at hl; subst hl
        simp only [L.ids, List.mem_singleton] at hj; subst hj
        omega
      · rcases List.mem_cons.1 ho with rfl | ho
        · obtain ⟨l, hl, hj⟩ := List.mem_flatMap.1 hj
          have := h1 l hl j hj; omega
        · have := h2 o ho j hj; omega
    · exact ⟨by simp [L.ids], by simp⟩
  | .np, _, n => ⟨by simp [mkC, L.ids], by simp [mkC]⟩
  | .nl, _, n => ⟨by simp [mkC, L.ids], by simp [mkC]⟩
  | .mb .., _, n => ⟨by simp [mkC, L.ids], by simp [mkC]⟩
  | .nil, _, n => ⟨by simp [mkC], by simp [mkC]⟩
  | .cons a b, x, n => by
    obtain ⟨h1, h2⟩ := mkC_ids a x.1 n
    obtain ⟨h3, h4⟩ := mkC_ids b x.2 (n + a.nob)
    simp only [mkC, K.nob]
    refine ⟨fun l hl j hj => ?_, fun o ho j hj => ?_⟩
    · rcases List.mem_append.1 hl with hl | hl
      · have := h1 l hl j hj; omega
      · have := h3 l hl j hj; omega
    · rcases List.mem_append.1 ho with ho | ho
      · have := h2 o ho j hj; omega
      · have := h4 o ho j hj; omega

/-- What is laid is what was told. -/
theorem mkC_R : ∀ {k : K} {x : k.den} {cs : List Value} {bs : List Nat} (n : Nat), CR w ok k x cs bs → ∃ gs : List Value, gs.length = k.nob ∧ (ownsL (mkC k x n).2 gs).Sublist bs ∧ (∀ (i : Nat) o v, (mkC k x n).2[i]? = some o → gs[i]? = some v → ownB o v = blkOf v) ∧
    ∀ (G : Nat → Value) (H' : Nat → Ob), (∀ i v, gs[i]? = some v → G (n + i) = v) → (∀ i o, (mkC k x n).2[i]? = some o → H' (n + i) = o) →
      All2 (LR G H' w ok) (mkC k x n).1 cs ∧ ∀ i o, (mkC k x n).2[i]? = some o → OB G H' w ok (n + i) o
  | .v t, x, cs, bs, n, h => ⟨[], rfl, List.nil_sublist _, fun i o v _ hv => by simp at hv, fun G H' _ _ => ⟨inj_LR h.1, fun i o ho => by simp [mkC] at ho⟩⟩
  | .own E t, x, cs, bs, n, h => by
    obtain ⟨v, rfl, hr, rfl⟩ := h
    refine ⟨[v], rfl, by simp [mkC, ownsL, ownB], fun i o u ho hu => (by cases i with | zero => (simp [mkC] at ho hu; subst ho; rfl) | succ i => simp at hu), fun G H' hg hH => ?_⟩
    have h0 : G n = v := by simpa using hg 0 v rfl
    have h1 : H' n = .row E t x := by simpa [mkC] using hH 0 (.row E t x) rfl
    refine ⟨⟨⟨?_, fun _ _ _ => h0.symm⟩, trivial⟩, fun i o ho => ?_⟩
    · obtain ⟨A, c, hv, _⟩ := hr.slice_
      rw [hv]; rfl
    · cases i with
      | zero => simp [mkC] at ho; subst ho; show RowO w ok E t x (G (n + 0)); rw [Nat.add_zero, h0]; exact hr
      | succ i => simp [mkC] at ho
  | .io E t, x, cs, bs, n, h => by
    obtain ⟨v, rfl, hr, rfl⟩ := h
    refine ⟨[v], rfl, by simp [mkC, ownsL, ownB], fun i o u ho hu => (by cases i with | zero => (simp [mkC] at ho hu; subst ho; rfl) | succ i => simp at hu), fun G H' hg hH => ?_⟩
    have h0 : G n = v := by simpa using hg 0 v rfl
    refine ⟨⟨⟨?_, fun _ _ _ => h0.symm⟩, trivial⟩, fun i o ho => ?_⟩
    · obtain ⟨A, c, hv, _⟩ := hr.slice_
      rw [hv]; rfl
    · cases i with
      | zero => simp [mkC] at ho; subst ho; show RowO w ok E t x (G (n + 0)); rw [Nat.add_zero, h0]; exact hr
      | succ i => simp [mkC] at ho
  | .bx T c, x, cs, bs, n, h => by
    obtain ⟨kb, arr, bs', rfl, hh, hc, rfl⟩ := h
    obtain ⟨gs, h1, h2, h2b, h3⟩ := mkC_R (n + 1) hc
    refine ⟨.pointer (some ⟨kb, 0, none⟩) :: gs, by simp [h1, K.nob], by simp [mkC, ownsL, ownB, blkOf, h2], fun i o u ho hu => (by cases i with | zero => (simp [mkC] at ho hu; subst ho; rfl) | succ i => exact h2b i o u (by simpa [mkC] using ho) (by simpa using hu)), fun G H' hg hH => ?_⟩
    have h0 : G n = .pointer (some ⟨kb, 0, none⟩) := by simpa using hg 0 _ rfl
    obtain ⟨q1, q2⟩ := h3 G H' (fun i v hi => by have := hg (i + 1) v (by simpa using hi); rw [show n + 1 + i = n + (i + 1) by omega]; exact this)
      (fun i o hi => by have := hH (i + 1) o (by simpa [mkC] using hi); rw [show n + 1 + i = n + (i + 1) by omega]; exact this)
    refine ⟨⟨⟨⟨_, rfl⟩, fun q _ => ⟨kb, h0, rfl⟩⟩, trivial⟩, fun i o ho => ?_⟩
    cases i with
    | zero =>
      simp [mkC] at ho; subst ho
      exact ⟨kb, arr, by rw [Nat.add_zero]; exact h0, hh, q1⟩
    | succ i =>
      have := q2 i o (by simpa [mkC] using ho)
      rw [show n + (i + 1) = n + 1 + i by omega]; exact this
  | .fn f c, x, cs, bs, n, h => by
    obtain ⟨caps, rfl, hc⟩ := h
    cases hn : c.isNil with
    | true =>
      have := isNil_eq hn
      subst this
      obtain ⟨e1, e2⟩ := hc
      refine ⟨[], by simp [K.nob, K.isNil], by simp [mkC, K.isNil, ownsL], fun i o v _ hv => by simp at hv, fun G H' _ _ => ⟨?_, fun i o ho => by simp [mkC, K.isNil] at ho⟩⟩
      have : caps = #[] := by apply Array.ext'; simpa using e1
      subst this
      simp only [mkC, K.isNil, cond_true]
      exact ⟨rfl, trivial⟩
    | false =>
      obtain ⟨gs, h1, h2, h2b, h3⟩ := mkC_R (n + 1) hc
      refine ⟨.func (.func f) #[] caps :: gs, by simp [h1, K.nob, hn], by simp [mkC, hn, ownsL, ownB, h2], fun i o u ho hu => (by simp only [mkC, hn, cond_false] at ho; cases i with | zero => (simp at ho hu; subst ho; subst hu; rfl) | succ i => exact h2b i o u (by simpa using ho) (by simpa using hu)), fun G H' hg hH => ?_⟩
      have h0 : G n = .func (.func f) #[] caps := by simpa using hg 0 _ rfl
      simp only [mkC, hn, cond_false] at hH ⊢
      obtain ⟨q1, q2⟩ := h3 G H' (fun i v hi => by have := hg (i + 1) v (by simpa using hi); rw [show n + 1 + i = n + (i + 1) by omega]; exact this)
        (fun i o hi => by have := hH (i + 1) o (by simpa using hi); rw [show n + 1 + i = n + (i + 1) by omega]; exact this)
      refine ⟨⟨⟨rfl, fun _ _ _ => h0.symm⟩, trivial⟩, fun i o ho => ?_⟩
      cases i with
      | zero =>
        simp at ho; subst ho
        exact ⟨caps, by rw [Nat.add_zero]; exact h0, q1⟩
      | succ i =>
        have := q2 i o (by simpa using ho)
        rw [show n + (i + 1) = n + 1 + i by omega]; exact this
  | .np, x, cs, bs, n, h => ⟨[], rfl, List.nil_sublist _, fun i o v _ hv => by simp at hv, fun G H' _ _ => ⟨by rw [h.1]; exact ⟨rfl, trivial⟩, fun i o ho => by simp [mkC] at ho⟩⟩
  | .nl, x, cs, bs, n, h => ⟨[], rfl, List.nil_sublist _, fun i o v _ hv => by simp at hv, fun G H' _ _ => ⟨by rw [h.1]; exact ⟨rfl, trivial⟩, fun i o ho => by simp [mkC] at ho⟩⟩
  | .mb .., x, cs, bs, n, h => by
    have hl := h.len
    refine ⟨[], rfl, List.nil_sublist _, fun i o v _ hv => by simp at hv, fun G H' _ _ => ⟨?_, fun i o ho => by simp [mkC] at ho⟩⟩
    obtain ⟨c, rfl⟩ := List.length_eq_one_iff.1 hl
    exact ⟨trivial, trivial⟩
  | .nil, x, cs, bs, n, h => ⟨[], rfl, List.nil_sublist _, fun i o v _ hv => by simp at hv, fun G H' _ _ => ⟨by rw [h.1]; trivial, fun i o ho => by simp [mkC] at ho⟩⟩
  | .cons a b, x, cs, bs, n, h => by
    obtain ⟨c1, c2, b1, b2, rfl, rfl, ha, hb⟩ := h
    obtain ⟨g1, l1, o1, w1, f1⟩ := mkC_R n ha
    obtain ⟨g2, l2, o2, w2, f2⟩ := mkC_R (n + a.nob) hb
    have hl1 := mkC_len a x.1 n
    refine ⟨g1 ++ g2, by simp [l1, l2, K.nob], by simp only [mkC]; rw [ownsL_app (by rw [hl1, l1])]; exact o1.append o2, fun i o u ho hu => (by
      simp only [mkC] at ho
      by_cases hlt : i < (mkC a x.1 n).2.length
      · rw [List.getElem?_append_left hlt] at ho; rw [List.getElem?_append_left (by omega)] at hu; exact w1 i o u ho hu
      · rw [List.getElem?_append_right (by omega)] at ho; rw [List.getElem?_append_right (by omega)] at hu; exact w2 _ o u ho (by rw [hl1, ← l1]; exact hu)), fun G H' hg hH => ?_⟩
    obtain ⟨p1, p2⟩ := f1 G H' (fun i v hi => hg i v (by rw [List.getElem?_append_left (List.getElem?_eq_some_iff.1 hi).1]; exact hi))
      (fun i o hi => hH i o (by simp only [mkC]; rw [List.getElem?_append_left (List.getElem?_eq_some_iff.1 hi).1]; exact hi))
    obtain ⟨q1, q2⟩ := f2 G H' (fun i v hi => by
        have := hg (a.nob + i) v (by rw [List.getElem?_append_right (by omega), l1, Nat.add_sub_cancel_left]; exact hi)
        rw [Nat.add_assoc]; exact this)
      (fun i o hi => by
        have := hH (a.nob + i) o (by simp only [mkC]; rw [List.getElem?_append_right (by omega), hl1, Nat.add_sub_cancel_left]; exact hi)
        rw [Nat.add_assoc]; exact this)
    refine ⟨p1.app q1, fun i o ho => ?_⟩
    simp only [mkC] at ho
    by_cases hlt : i < (mkC a x.1 n).2.length
    · rw [List.getElem?_append_left hlt] at ho; exact p2 i o ho
    · rw [List.getElem?_append_right (by omega), hl1] at ho
      have := q2 (i - a.nob) o ho
      rw [show n + a.nob + (i - a.nob) = n + i by omega] at this
      exact this

theorem mkI_len (k : K) (x : k.den) (n : Nat) : (mkI k x n).2.length = k.nob := by
  cases k <;> first | rfl | exact mkC_len _ x n

theorem mkI_obs (k : K) (x : k.den) (n : Nat) : (mkI k x n).2 = (mkC k x n).2 := by cases k <;> rfl

theorem mkI_ids (k : K) (x : k.den) (n : Nat) : ∀ j ∈ (mkI k x n).1.ids, n ≤ j ∧ j < n + k.nob := by
  have key : ∀ ls : List L, (∀ l ∈ ls, ∀ j ∈ l.ids, n ≤ j ∧ j < n + k.nob) → ∀ j ∈ (D0.one (headL ls)).ids, n ≤ j ∧ j < n + k.nob := by
    intro ls h j hj
    cases ls with
    | nil => simp [headL, D0.ids, D0.ls, L.ids] at hj
    | cons l r => exact h l (.head _) j (by simpa [headL, D0.ids, D0.ls] using hj)
  cases k with
  | v t => intro j hj; have : (injD t x).ids = [] := injD_ids t x; rw [show (mkI (.v t) x n).1 = injD t x from rfl, this] at hj; cases hj
  | cons a b =>
    intro j hj
    have hj' : j ∈ (D0.agg (mkC (.cons a b) x n).1).ids := hj
    simp only [D0.ids, D0.ls, List.mem_flatMap] at hj'
    obtain ⟨l, hl, hj'⟩ := hj'
    exact (mkC_ids (.cons a b) x n).1 l hl j hj'
  | _ => exact key _ (mkC_ids _ x n).1

/-- The same of a whole value; mkV: how it stands in a slot. -/
theorem mkI_R {k : K} {x : k.den} {cs : List Value} {bs : List Nat} (n : Nat) (h : CR w ok k x cs bs) : ∃ gs : List Value, gs.length = k.nob ∧ (ownsL (mkC k x n).2 gs).Sublist bs ∧ (∀ (i : Nat) o v, (mkC k x n).2[i]? = some o → gs[i]? = some v → ownB o v = blkOf v) ∧
    ∀ (G : Nat → Value) (H' : Nat → Ob), (∀ i v, gs[i]? = some v → G (n + i) = v) → (∀ i o, (mkC k x n).2[i]? = some o → H' (n + i) = o) →
      D0R G H' w ok (mkI k x n).1 (mkV k.isAgg cs) ∧ ∀ i o, (mkC k x n).2[i]? = some o → OB G H' w ok (n + i) o := by
  obtain ⟨gs, h1, h2, h2b, h3⟩ := mkC_R n h
  refine ⟨gs, h1, h2, h2b, fun G H' hg hH => ?_⟩
  obtain ⟨q1, q2⟩ := h3 G H' hg hH
  refine ⟨?_, q2⟩
  have one : ∀ (ls : List L) (cs : List Value), All2 (LR G H' w ok) ls cs → D0R G H' w ok (.one (headL ls)) (mkV false cs) := by
    intro ls cs h
    match ls, cs, h with
    | [], [], _ => exact trivial
    | l :: ls, c :: cs, h => exact h.1
    | [], _ :: _, h => exact h.elim
    | _ :: _, [], h => exact h.elim
  cases k with
  | v t => exact injD_R h.1
  | cons a b => exact ⟨cs.toArray, rfl, q1⟩
  | _ => exact one _ _ q1

theorem mkA_R : ∀ {ks : List K} {x : dens ks} {vs : List Value} {bs : List Nat} (n : Nat), AR w ok ks x vs bs → ∃ gs : List Value, gs.length = (mkA ks x n).2.length ∧ (ownsL (mkA ks x n).2 gs).Sublist bs ∧ (∀ (i : Nat) o v, (mkA ks x n).2[i]? = some o → gs[i]? = some v → ownB o v = blkOf v) ∧
    (∀ (G : Nat → Value) (H' : Nat → Ob), (∀ i v, gs[i]? = some v → G (n + i) = v) → (∀ i o, (mkA ks x n).2[i]? = some o → H' (n + i) = o) →
      All2 (D0R G H' w ok) (mkA ks x n).1 vs ∧ ∀ i o, (mkA ks x n).2[i]? = some o → OB G H' w ok (n + i) o) ∧
    (∀ d ∈ (mkA ks x n).1, ∀ j ∈ d.ids, n ≤ j ∧ j < n + (mkA ks x n).2.length) ∧ ∀ o ∈ (mkA ks x n).2, ∀ j ∈ o.kids, n ≤ j ∧ j < n + (mkA ks x n).2.length
  | [], x, vs, bs, n, h => by
    obtain ⟨rfl, rfl⟩ := h
    exact ⟨[], rfl, List.nil_sublist _, fun i o v _ hv => by simp at hv, fun G H' _ _ => ⟨trivial, fun i o ho => by simp [mkA] at ho⟩, by simp [mkA], by simp [mkA]⟩
  | k :: r, x, vs, bs, n, h => by
    obtain ⟨cs, rest, b1, b2, rfl, rfl, hc, hr⟩ := h
    obtain ⟨g1, l1, o1, w1, f1⟩ := mkI_R n hc
    obtain ⟨g2, l2, o2, w2, f2, i2, j2⟩ := mkA_R (n + k.nob) hr
    have hl1 : (mkC k x.1 n).2.length = k.nob := mkC_len k x.1 n
    have e1 : (mkA (k :: r) x n).2 = (mkC k x.1 n).2 ++ (mkA r x.2 (n + k.nob)).2 := by simp only [mkA, mkI_obs]
    have e0 : (mkA (k :: r) x n).1 = (mkI k x.1 n).1 :: (mkA r x.2 (n + k.nob)).1 := rfl
    rw [e1, e0]
    refine ⟨g1 ++ g2, by simp [l1, l2, hl1], by rw [ownsL_app (by rw [hl1, l1])]; exact o1.append o2, fun i o u ho hu => ?_, fun G H' hg hH => ?_, fun d hd j hj => ?_, fun o ho j hj => ?_⟩
    · by_cases hlt : i < (mkC k x.1 n).2.length
      · rw [List.getElem?_append_left hlt] at ho; rw [List.getElem?_append_left (by omega)] at hu; exact w1 i o u ho hu
      · rw [List.getElem?_append_right (by omega)] at ho; rw [List.getElem?_append_right (by omega)] at hu; exact w2 _ o u ho (by rw [hl1, ← l1]; exact hu)
    · obtain ⟨p1, p2⟩ := f1 G H' (fun i v hi => hg i v (by rw [List.getElem?_append_left (List.getElem?_eq_some_iff.1 hi).1]; exact hi))
        (fun i o hi => hH i o (by rw [List.getElem?_append_left (List.getElem?_eq_some_iff.1 hi).1]; exact hi))
      obtain ⟨q1, q2⟩ := f2 G H' (fun i v hi => by
          have := hg (k.nob + i) v (by rw [List.getElem?_append_right (by omega), l1, Nat.add_sub_cancel_left]; exact hi)
          rw [Nat.add_assoc]; exact this)
        (fun i o hi => by
          have := hH (k.nob + i) o (by rw [List.getElem?_append_right (by omega), hl1, Nat.add_sub_cancel_left]; exact hi)
          rw [Nat.add_assoc]; exact this)
      refine ⟨⟨p1, q1⟩, fun i o ho => ?_⟩
      by_cases hlt : i < (mkC k x.1 n).2.length
      · rw [List.getElem?_append_left hlt] at ho; exact p2 i o ho
      · rw [List.getElem?_append_right (by omega), hl1] at ho
        have := q2 (i - k.nob) o ho
        rw [show n + k.nob + (i - k.nob) = n + i by omega] at this
        exact this
    · rw [List.length_append, hl1]
      rcases List.mem_cons.1 hd with rfl | hd
      · have := mkI_ids k x.1 n j hj; omega
      · have := i2 d hd j hj; omega
    · rw [List.length_append, hl1]
      rcases List.mem_append.1 ho with ho | ho
      · have := (mkC_ids k x.1 n).2 o ho j hj; omega
      · have := j2 o ho j hj; omega

end Go.Proofs.Fr

/- Slots and objects, filled with what comes back. -/
namespace Go.Proofs.Fr
open Go Go.RowKit

variable {P : Program} {B : Bs} {nt : Nat} {fr : Nat → Prop} {s : S} {g : Nat → Value} {a : Act} {w w' : World} {R : Type} {H : Nat → Ob} {ok ok' : Nat → Prop}

def objT (tgs : List Tg) : List Nat := tgs.filterMap fun
  | .obj id => some id
  | .slot _ => none

theorem objT_slot (t : Nat) (tgs : List Tg) : objT (.slot t :: tgs) = objT tgs := rfl
theorem objT_obj (id : Nat) (tgs : List Tg) : objT (.obj id :: tgs) = id :: objT tgs := rfl

/-- An object is of a kind. -/
def fits (k : K) (o : Ob) : Prop :=
  match k with
  | .own E t => ∃ xs : List t.den, o = .row E t xs
  | .io E t => ∃ xs : List t.den, o = .row E t xs
  | .bx T _ => ∃ ls, o = .box T ls
  | _ => False

theorem fits_sh {k : K} {o o' : Ob} {g g' : Nat → Value} {H H' : Nat → Ob} {w w' : World} {ok ok' : Nat → Prop} {id : Nat} (h : fits k o) (h' : fits k o') (hg : g' id = g id) (hO : OB g H w ok id o) (hO' : OB g' H' w' ok' id o') : shO o' = shO o := by
  unfold fits at h h'
  have key : ∀ (E : Nat) (t : Ty) (xs ys : List t.den), o = .row E t xs → o' = .row E t ys → shO o' = shO o := by
    rintro E t xs ys rfl rfl
    obtain ⟨A, c, h1, _⟩ := RowO.slice_ hO
    obtain ⟨A', c', h2, _⟩ := RowO.slice_ hO'
    rw [hg, h1] at h2
    simp only [Value.slice.injEq] at h2
    simp only [shO, h2.2.1]
  cases k with
  | own E t => obtain ⟨xs, e⟩ := h; obtain ⟨ys, e'⟩ := h'; exact key E t xs ys e e'
  | io E t => obtain ⟨xs, e⟩ := h; obtain ⟨ys, e'⟩ := h'; exact key E t xs ys e e'
  | bx T c => obtain ⟨xs, rfl⟩ := h; obtain ⟨ys, rfl⟩ := h'; rfl
  | _ => exact h.elim

theorem fill_keep : ∀ {tgs : List Tg} {ks : List K} {x : dens ks} (e : Nat → D) (H : Nat → Ob) (nx id : Nat), (id < nx ∨ nx + nobP tgs ks ≤ id) → id ∉ objT tgs → (fillS e H nx tgs ks x).2 id = H id
  | [], [], _, _, _, _, _, _, _ => rfl
  | [], _ :: _, _, _, _, _, _, _, _ => rfl
  | .slot _ :: _, [], _, _, _, _, _, _, _ => rfl
  | .obj _ :: _, [], _, _, _, _, _, _, _ => rfl
  | .slot t :: tgs, k :: r, x, e, H, nx, id, h, hn => by
    simp only [nobP] at h
    simp only [fillS]
    rw [fill_keep _ _ _ _ (by omega) (by simpa [objT_slot] using hn)]
    exact (setObs_at _ H nx id).2 (by rw [mkI_len]; omega)
  | .obj q :: tgs, k :: r, x, e, H, nx, id, h, hn => by
    simp only [objT_obj, List.mem_cons, not_or] at hn
    cases k with
    | own E t =>
      simp only [nobP] at h
      simp only [fillS]
      rw [fill_keep _ _ _ _ h hn.2, upd_ne _ _ hn.1]
    | bx T c =>
      simp only [nobP] at h
      simp only [fillS]
      rw [fill_keep _ _ _ _ (by omega) hn.2, upd_ne _ _ hn.1]
      exact (setObs_at _ H nx id).2 (by rw [mkC_len]; omega)
    | _ =>
      simp only [nobP] at h
      simp only [fillS]
      exact fill_keep _ _ _ _ h hn.2

theorem fill_slot : ∀ {tgs : List Tg} {ks : List K} {x : dens ks} (e : Nat → D) (H : Nat → Ob) (nx t : Nat), (Tg.slot t ∉ tgs) → (fillS e H nx tgs ks x).1 t = e t
  | [], [], _, _, _, _, _, _ => rfl
  | [], _ :: _, _, _, _, _, _, _ => rfl
  | .slot _ :: _, [], _, _, _, _, _, _ => rfl
  | .obj _ :: _, [], _, _, _, _, _, _ => rfl
  | .slot q :: tgs, k :: r, x, e, H, nx, t, hn => by
    simp only [List.mem_cons, not_or] at hn
    simp only [fillS]
    rw [fill_slot _ _ _ _ hn.2, upd_ne _ _ fun e => hn.1 (by rw [e])]
  | .obj q :: tgs, k :: r, x, e, H, nx, t, hn => by
    simp only [List.mem_cons, not_or] at hn
    cases k <;> simp only [fillS] <;> exact fill_slot _ _ _ _ hn.2

def tch (tgs : List Tg) (ks : List K) (nx id : Nat) : Prop := (nx ≤ id ∧ id < nx + nobP tgs ks) ∨ id ∈ objT tgs

structure Filled (G : Nat → Value) (tm : Nat → Value) (w : World) (ok : Nat → Prop) (e : Nat → D) (nx : Nat) (tgs : List Tg) (ks : List K) (bs : List Nat) (F : (Nat → D) × (Nat → Ob)) : Prop where
  slot : ∀ t, (F.1 t = e t ∧ Tg.slot t ∉ tgs) ∨ (DR G F.2 w ok (F.1 t) (tm t) ∧ ∀ j ∈ (F.1 t).ids, nx ≤ j ∧ j < nx + nobP tgs ks)
  ob : ∀ id, tch tgs ks nx id → OB G F.2 w ok id (F.2 id) ∧ ∀ j ∈ (F.2 id).kids, nx ≤ j ∧ j < nx + nobP tgs ks
  own : ∀ i k, tch tgs ks nx i → owned G F.2 i = some k → k ∈ bs
  inj : bs.Nodup → ∀ i j k, tch tgs ks nx i → tch tgs ks nx j → owned G F.2 i = some k → owned G F.2 j = some k → i = j
  fit : ∀ (j : Nat) (id : Nat) (k : K), tgs[j]? = some (Tg.obj id) → ks[j]? = some k → fits k (F.2 id)

/-- One more in front. -/
theorem Filled.cons {G tm : Nat → Value} {e e1 : Nat → D} {nx n1 : Nat} {tg : Tg} {tgs : List Tg} {k : K} {ks : List K} {b1 b2 : List Nat} {F : (Nat → D) × (Nat → Ob)} (h : Filled G tm w ok e1 (nx + n1) tgs ks b2 F)
    (hnob : nobP (tg :: tgs) (k :: ks) = n1 + nobP tgs ks)
    (hslot : ∀ t, (e1 t = e t ∧ tg ≠ .slot t) ∨ (DR G F.2 w ok (e1 t) (tm t) ∧ ∀ j ∈ (e1 t).ids, nx ≤ j ∧ j < nx + n1))
    
    (hob : ∀ id, (nx ≤ id ∧ id < nx + n1) ∨ id ∈ objT [tg] → OB G F.2 w ok id (F.2 id) ∧ ∀ j ∈ (F.2 id).kids, nx ≤ j ∧ j < nx + n1)
    (hown : ∀ i q, (nx ≤ i ∧ i < nx + n1) ∨ i ∈ objT [tg] → owned G F.2 i = some q → q ∈ b1)
    (hinj : b1.Nodup → ∀ i j q, ((nx ≤ i ∧ i < nx + n1) ∨ i ∈ objT [tg]) → ((nx ≤ j ∧ j < nx + n1) ∨ j ∈ objT [tg]) → owned G F.2 i = some q → owned G F.2 j = some q → i = j)
    (hfit : ∀ id, tg = .obj id → fits k (F.2 id)) : Filled G tm w ok e nx (tg :: tgs) (k :: ks) (b1 ++ b2) F := by
  have hobj : ∀ id, id ∈ objT (tg :: tgs) ↔ id ∈ objT [tg] ∨ id ∈ objT tgs := by
    intro id
    cases tg with
    | slot t => simp [objT]
    | obj q => simp [objT]
  have split : ∀ id, tch (tg :: tgs) (k :: ks) nx id → ((nx ≤ id ∧ id < nx + n1) ∨ id ∈ objT [tg]) ∨ tch tgs ks (nx + n1) id := by
    intro id hid
    unfold tch at hid ⊢
    rw [hnob, hobj] at hid
    rcases hid with h | h | h
    · by_cases hl : id < nx + n1
      · exact .inl (.inl ⟨h.1, hl⟩)
      · exact .inr (.inl ⟨by omega, by omega⟩)
    · exact .inl (.inr h)
    · exact .inr (.inr h)
  refine ⟨fun t => ?_, fun id hid => ?_, fun i q hi ho => ?_, fun hn i j q hi hj hio hjo => ?_, fun j id k' hj hk => ?_⟩
  · rw [hnob]
    rcases h.slot t with ⟨h1, h1'⟩ | ⟨h1, h2⟩
    · rcases hslot t with ⟨h3, h3'⟩ | ⟨h3, h4⟩
      · exact .inl ⟨h1.trans h3, fun hm => by rcases List.mem_cons.1 hm with h | h; exact h3' h.symm; exact h1' h⟩
      · refine .inr ⟨by rw [h1]; exact h3, fun j hj => ?_⟩
        rw [h1] at hj
        have := h4 j hj; omega
    · refine .inr ⟨h1, fun j hj => ?_⟩
      have := h2 j hj; omega
  · rw [hnob]
    rcases split id hid with h1 | h1
    · obtain ⟨h2, h3⟩ := hob id h1
      exact ⟨h2, fun j hj => by have := h3 j hj; omega⟩
    · obtain ⟨h2, h3⟩ := h.ob id h1
      exact ⟨h2, fun j hj => by have := h3 j hj; omega⟩
  · rcases split i hi with h1 | h1
    · exact List.mem_append.2 (.inl (hown i q h1 ho))
    · exact List.mem_append.2 (.inr (h.own i q h1 ho))
  · obtain ⟨n1', n2', n3'⟩ := List.nodup_append.1 hn
    rcases split i hi with h1 | h1 <;> rcases split j hj with h2 | h2
    · exact hinj n1' i j q h1 h2 hio hjo
    · exact absurd rfl (n3' q (hown i q h1 hio) q (h.own j q h2 hjo))
    · exact absurd rfl (n3' q (hown j q h2 hjo) q (h.own i q h1 hio))
    · exact h.inj n2' i j q h1 h2 hio hjo
  · cases j with
    | zero =>
      simp at hj hk; subst hk
      exact hfit id hj
    | succ j => exact h.fit j id k' (by simpa using hj) (by simpa using hk)

theorem fillS_R : ∀ {tgs : List Tg} {ks : List K} {x : dens ks} {vs : List Value} {bs : List Nat} (e : Nat → D) (H : Nat → Ob) (nx : Nat), AR w ok ks x vs bs → tgs.length = ks.length → (∀ id ∈ objT tgs, id < nx ∨ nx + nobP tgs ks ≤ id) → (objT tgs).Nodup →
    (∀ (j : Nat) id k, tgs[j]? = some (.obj id) → ks[j]? = some k → k.isOb = true) → ∃ gs : List Value, gs.length = nobP tgs ks ∧
    ∀ (G : Nat → Value) (tm : Nat → Value), (∀ i v, gs[i]? = some v → G (nx + i) = v) → (∀ (j : Nat) t v, tgs[j]? = some (.slot t) → vs[j]? = some v → tm t = v) → (∀ (j : Nat) id v, tgs[j]? = some (.obj id) → vs[j]? = some v → G id = v) →
      Filled G tm w ok e nx tgs ks bs (fillS e H nx tgs ks x)
  | [], [], x, vs, bs, e, H, nx, h, _, _, _, _ => by
    refine ⟨[], rfl, fun G tm _ _ _ => ?_⟩
    have hno : ∀ id, ¬ tch [] [] nx id := by
      rintro id (h | h)
      · simp only [nobP] at h; omega
      · cases h
    exact ⟨fun t => .inl ⟨rfl, by simp⟩, fun id hid => absurd hid (hno id), fun i k hi => absurd hi (hno i), fun _ i j k hi => absurd hi (hno i), fun j id k hj => by simp at hj⟩
  | [], _ :: _, _, _, _, _, _, _, _, hl, _, _, _ => by simp at hl
  | _ :: _, [], _, _, _, _, _, _, _, hl, _, _, _ => by simp at hl
  | .slot t :: tgs, k :: r, x, vs, bs, e, H, nx, h, hl, hT, hnd, hk => by
    obtain ⟨cs, rest, b1, b2, rfl, rfl, hc, hr⟩ := h
    obtain ⟨g1, l1, o1, _, f1⟩ := mkI_R nx hc
    obtain ⟨g2, l2, f2⟩ := fillS_R (tgs := tgs) (ks := r) (x := x.2) (upd e t (.v (mkI k x.1 nx).1)) (setObs H nx (mkI k x.1 nx).2) (nx + k.nob) hr (by simpa using hl) (fun id hid => by have := hT id hid; simp only [nobP] at this; omega) hnd (fun j id k' h1 h2 => hk (j + 1) id k' (by simpa using h1) (by simpa using h2))
    refine ⟨g1 ++ g2, by simp [l1, l2, nobP], fun G tm hg ht ho => ?_⟩
    have hG2 : ∀ i v, g2[i]? = some v → G (nx + k.nob + i) = v := fun i v hi => by
      have := hg (k.nob + i) v (by rw [List.getElem?_append_right (by omega), l1, Nat.add_sub_cancel_left]; exact hi)
      rw [Nat.add_assoc]; exact this
    have hG1 : ∀ i v, g1[i]? = some v → G (nx + i) = v := fun i v hi => hg i v (by rw [List.getElem?_append_left (List.getElem?_eq_some_iff.1 hi).1]; exact hi)
    have IH := f2 G tm hG2 (fun j t v h1 h2 => ht (j + 1) t v (by simpa using h1) (by simpa using h2)) (fun j id v h1 h2 => ho (j + 1) id v (by simpa using h1) (by simpa using h2))
    simp only [fillS]
    have hml : (mkC k x.1 nx).2.length = k.nob := mkC_len k x.1 nx
    have hF : ∀ i o, (mkC k x.1 nx).2[i]? = some o → (fillS (upd e t (.v (mkI k x.1 nx).1)) (setObs H nx (mkI k x.1 nx).2) (nx + k.nob) tgs r x.2).2 (nx + i) = o := by
      intro i o hi
      have hlt : i < k.nob := by rw [← hml]; exact (List.getElem?_eq_some_iff.1 hi).1
      rw [fill_keep _ _ _ _ (.inl (by omega)) (fun hm => by have := hT _ hm; simp only [nobP] at this; omega)]
      exact (setObs_at _ H nx (nx + i)).1 i o (by rw [mkI_obs]; exact hi) rfl
    obtain ⟨q1, q2⟩ := f1 G _ hG1 hF
    have at_ : ∀ id, (nx ≤ id ∧ id < nx + k.nob) → ∃ i o v, id = nx + i ∧ (mkC k x.1 nx).2[i]? = some o ∧ g1[i]? = some v ∧ (fillS (upd e t (.v (mkI k x.1 nx).1)) (setObs H nx (mkI k x.1 nx).2) (nx + k.nob) tgs r x.2).2 id = o ∧ G id = v := by
      intro id hid
      have h1 : id - nx < (mkC k x.1 nx).2.length := by omega
      have h2 : id - nx < g1.length := by omega
      have e0 : id = nx + (id - nx) := by omega
      refine ⟨id - nx, _, _, e0, List.getElem?_eq_getElem h1, List.getElem?_eq_getElem h2, ?_, ?_⟩
      · have := hF _ _ (List.getElem?_eq_getElem h1); rw [← e0] at this; exact this
      · have := hG1 _ _ (List.getElem?_eq_getElem h2); rw [← e0] at this; exact this
    refine IH.cons (n1 := k.nob) rfl (fun t' => ?_) (fun id hid => ?_) (fun i q hi ho => ?_) (fun hn i j q hi hj hio hjo => ?_) (fun id hid => by cases hid)
    · by_cases htt : t' = t
      · subst htt
        rw [upd_same]
        refine .inr ⟨?_, mkI_ids k x.1 nx⟩
        rw [ht 0 t' _ rfl rfl]
        exact q1
      · exact .inl ⟨upd_ne _ _ htt, fun e => htt (by cases e; rfl)⟩
    · rcases hid with hid | hid
      · obtain ⟨i, o, v, rfl, h1, h2, h3, h4⟩ := at_ id hid
        rw [h3]
        exact ⟨q2 i o h1, (mkC_ids k x.1 nx).2 o (List.mem_of_getElem? h1)⟩
      · exact absurd hid (by simp [objT])
    · rcases hi with hi | hi
      · obtain ⟨i', o, v, rfl, h1, h2, h3, h4⟩ := at_ i hi
        rw [owned_eq, h3, h4] at ho
        exact o1.subset (ownsL_mem h1 h2 ho)
      · exact absurd hi (by simp [objT])
    · rcases hi with hi | hi
      · rcases hj with hj | hj
        · obtain ⟨i', o, v, rfl, h1, h2, h3, h4⟩ := at_ i hi
          obtain ⟨j', o', v', rfl, h1', h2', h3', h4'⟩ := at_ j hj
          rw [owned_eq, h3, h4] at hio
          rw [owned_eq, h3', h4'] at hjo
          rw [ownsL_inj (hn.sublist o1) h1 h2 hio h1' h2' hjo]
        · exact absurd hj (by simp [objT])
      · exact absurd hi (by simp [objT])
  | .obj id :: tgs, .own E t :: r, x, vs, bs, e, H, nx, h, hl, hT, hnd, hk => by
    obtain ⟨cs, rest, b1, b2, rfl, rfl, hc, hr⟩ := h
    obtain ⟨v, rfl, hrow, rfl⟩ := hc
    have hid : id < nx ∨ nx + nobP tgs r ≤ id := hT id (.head _)
    obtain ⟨hni, hnd'⟩ := List.nodup_cons.1 hnd
    obtain ⟨g2, l2, f2⟩ := fillS_R (tgs := tgs) (ks := r) (x := x.2) e (upd H id (.row E t x.1)) nx hr (by simpa using hl) (fun j hj => hT j (.tail _ hj)) hnd' (fun j id k' h1 h2 => hk (j + 1) id k' (by simpa using h1) (by simpa using h2))
    refine ⟨g2, by simpa [nobP] using l2, fun G tm hg ht ho => ?_⟩
    have IH := f2 G tm hg (fun j t v h1 h2 => ht (j + 1) t v (by simpa using h1) (by simpa using h2)) (fun j id v h1 h2 => ho (j + 1) id v (by simpa using h1) (by simpa using h2))
    simp only [fillS]
    have hF : (fillS e (upd H id (.row E t x.1)) nx tgs r x.2).2 id = .row E t x.1 := by rw [fill_keep _ _ _ _ hid hni, upd_same]
    have hG : G id = v := ho 0 id _ rfl rfl
    refine Filled.cons (n1 := 0) (e1 := e) (by simpa using IH) (by simp [nobP]) (fun t' => .inl ⟨rfl, by simp⟩) (fun j hj => ?_) (fun i q hi ho => ?_) (fun hn i j q hi hj hio hjo => ?_) (fun j hj => ?_)
    · have : j = id := by rcases hj with hj | hj; omega; simpa [objT] using hj
      subst this
      rw [hF]
      exact ⟨by show RowO w ok E t x.1 (G j); rw [hG]; exact hrow, by simp [Ob.kids]⟩
    · have : i = id := by rcases hi with hi | hi; omega; simpa [objT] using hi
      subst this
      rw [owned_eq, hF, hG] at ho
      simpa [ownB] using ho
    · have e1 : i = id := by rcases hi with hi | hi; omega; simpa [objT] using hi
      have e2 : j = id := by rcases hj with hj | hj; omega; simpa [objT] using hj
      rw [e1, e2]
    · cases hj
      exact ⟨x.1, hF⟩
  | .obj id :: tgs, .bx T c :: r, x, vs, bs, e, H, nx, h, hl, hT, hnd, hk => by
    obtain ⟨cs, rest, b1, b2, rfl, rfl, hc, hr⟩ := h
    obtain ⟨kb, arr, b1', rfl, hh, hc, rfl⟩ := hc
    obtain ⟨g1, l1, o1, _, f1⟩ := mkC_R nx hc
    have hid : id < nx ∨ nx + (c.nob + nobP tgs r) ≤ id := hT id (.head _)
    obtain ⟨hni, hnd'⟩ := List.nodup_cons.1 hnd
    obtain ⟨g2, l2, f2⟩ := fillS_R (tgs := tgs) (ks := r) (x := x.2) e (upd (setObs H nx (mkC c x.1 nx).2) id (.box T (mkC c x.1 nx).1)) (nx + c.nob) hr (by simpa using hl) (fun j hj => by have := hT j (.tail _ hj); simp only [nobP] at this; omega) hnd' (fun j id k' h1 h2 => hk (j + 1) id k' (by simpa using h1) (by simpa using h2))
    refine ⟨g1 ++ g2, by simp [l1, l2, nobP], fun G tm hg ht ho => ?_⟩
    have hG2 : ∀ i v, g2[i]? = some v → G (nx + c.nob + i) = v := fun i v hi => by
      have := hg (c.nob + i) v (by rw [List.getElem?_append_right (by omega), l1, Nat.add_sub_cancel_left]; exact hi)
      rw [Nat.add_assoc]; exact this
    have hG1 : ∀ i v, g1[i]? = some v → G (nx + i) = v := fun i v hi => hg i v (by rw [List.getElem?_append_left (List.getElem?_eq_some_iff.1 hi).1]; exact hi)
    have IH := f2 G tm hG2 (fun j t v h1 h2 => ht (j + 1) t v (by simpa using h1) (by simpa using h2)) (fun j id v h1 h2 => ho (j + 1) id v (by simpa using h1) (by simpa using h2))
    simp only [fillS]
    have hml : (mkC c x.1 nx).2.length = c.nob := mkC_len c x.1 nx
    have hFid : (fillS e (upd (setObs H nx (mkC c x.1 nx).2) id (.box T (mkC c x.1 nx).1)) (nx + c.nob) tgs r x.2).2 id = .box T (mkC c x.1 nx).1 := by
      rw [fill_keep _ _ _ _ (by omega) hni, upd_same]
    have hGid : G id = .pointer (some ⟨kb, 0, none⟩) := ho 0 id _ rfl rfl
    have hF : ∀ i o, (mkC c x.1 nx).2[i]? = some o → (fillS e (upd (setObs H nx (mkC c x.1 nx).2) id (.box T (mkC c x.1 nx).1)) (nx + c.nob) tgs r x.2).2 (nx + i) = o := by
      intro i o hi
      have hlt : i < c.nob := by rw [← hml]; exact (List.getElem?_eq_some_iff.1 hi).1
      rw [fill_keep _ _ _ _ (.inl (by omega)) (fun hm => by have := hT _ (.tail _ hm); simp only [nobP] at this; omega), upd_ne _ _ (by omega)]
      exact (setObs_at _ H nx (nx + i)).1 i o hi rfl
    obtain ⟨q1, q2⟩ := f1 G _ hG1 hF
    have at_ : ∀ j, (nx ≤ j ∧ j < nx + c.nob) → ∃ i o v, j = nx + i ∧ (mkC c x.1 nx).2[i]? = some o ∧ g1[i]? = some v ∧ (fillS e (upd (setObs H nx (mkC c x.1 nx).2) id (.box T (mkC c x.1 nx).1)) (nx + c.nob) tgs r x.2).2 j = o ∧ G j = v := by
      intro j hj
      have h1 : j - nx < (mkC c x.1 nx).2.length := by omega
      have h2 : j - nx < g1.length := by omega
      have e0 : j = nx + (j - nx) := by omega
      refine ⟨j - nx, _, _, e0, List.getElem?_eq_getElem h1, List.getElem?_eq_getElem h2, ?_, ?_⟩
      · have := hF _ _ (List.getElem?_eq_getElem h1); rw [← e0] at this; exact this
      · have := hG1 _ _ (List.getElem?_eq_getElem h2); rw [← e0] at this; exact this
    have hmo : ∀ j, j ∈ objT [.obj id] ↔ j = id := by simp [objT]
    have hoid : owned G (fillS e (upd (setObs H nx (mkC c x.1 nx).2) id (.box T (mkC c x.1 nx).1)) (nx + c.nob) tgs r x.2).2 id = some kb := by
      rw [owned_eq, hFid, hGid]; rfl
    refine IH.cons (n1 := c.nob) (e := e) rfl (fun t' => .inl ⟨rfl, by simp⟩) (fun j hj => ?_) (fun i q hi ho => ?_) (fun hn i j q hi hj hio hjo => ?_) (fun j hj => ?_)
    · rcases hj with hj | hj
      · obtain ⟨i, o, v, rfl, h1, h2, h3, h4⟩ := at_ j hj
        rw [h3]
        exact ⟨q2 i o h1, (mkC_ids c x.1 nx).2 o (List.mem_of_getElem? h1)⟩
      · have := (hmo j).1 hj
        subst this
        rw [hFid]
        refine ⟨⟨kb, arr, hGid, hh, q1⟩, fun q hq => ?_⟩
        obtain ⟨l, hl, hq⟩ := List.mem_flatMap.1 hq
        exact (mkC_ids c x.1 nx).1 l hl q hq
    · rcases hi with hi | hi
      · obtain ⟨i', o, v, rfl, h1, h2, h3, h4⟩ := at_ i hi
        rw [owned_eq, h3, h4] at ho
        exact .tail _ (o1.subset (ownsL_mem h1 h2 ho))
      · have := (hmo i).1 hi
        subst this
        rw [hoid] at ho; cases ho; exact .head _
    · obtain ⟨hn1, hn2⟩ := List.nodup_cons.1 hn
      rcases hi with hi | hi <;> rcases hj with hj | hj
      · obtain ⟨i', o, v, rfl, h1, h2, h3, h4⟩ := at_ i hi
        obtain ⟨j', o', v', rfl, h1', h2', h3', h4'⟩ := at_ j hj
        rw [owned_eq, h3, h4] at hio
        rw [owned_eq, h3', h4'] at hjo
        rw [ownsL_inj (hn2.sublist o1) h1 h2 hio h1' h2' hjo]
      · exfalso
        have := (hmo j).1 hj
        subst this
        rw [hoid] at hjo; cases hjo
        obtain ⟨i', o, v, rfl, h1, h2, h3, h4⟩ := at_ i hi
        rw [owned_eq, h3, h4] at hio
        exact hn1 (o1.subset (ownsL_mem h1 h2 hio))
      · exfalso
        have := (hmo i).1 hi
        subst this
        rw [hoid] at hio; cases hio
        obtain ⟨i', o, v, rfl, h1, h2, h3, h4⟩ := at_ j hj
        rw [owned_eq, h3, h4] at hjo
        exact hn1 (o1.subset (ownsL_mem h1 h2 hjo))
      · rw [(hmo i).1 hi, (hmo j).1 hj]
    · cases hj
      exact ⟨_, hFid⟩
  | .obj id :: tgs, .v t :: r, x, vs, bs, e, H, nx, h, hl, hT, hnd, hk => by have := hk 0 id _ rfl rfl; cases this
  | .obj id :: tgs, .io E t :: r, x, vs, bs, e, H, nx, h, hl, hT, hnd, hk => by have := hk 0 id _ rfl rfl; cases this
  | .obj id :: tgs, .fn f c :: r, x, vs, bs, e, H, nx, h, hl, hT, hnd, hk => by have := hk 0 id _ rfl rfl; cases this
  | .obj id :: tgs, .np :: r, x, vs, bs, e, H, nx, h, hl, hT, hnd, hk => by have := hk 0 id _ rfl rfl; cases this
  | .obj id :: tgs, .nl :: r, x, vs, bs, e, H, nx, h, hl, hT, hnd, hk => by have := hk 0 id _ rfl rfl; cases this
  | .obj id :: tgs, .mb T c :: r, x, vs, bs, e, H, nx, h, hl, hT, hnd, hk => by have := hk 0 id _ rfl rfl; cases this
  | .obj id :: tgs, .nil :: r, x, vs, bs, e, H, nx, h, hl, hT, hnd, hk => by have := hk 0 id _ rfl rfl; cases this
  | .obj id :: tgs, .cons a b :: r, x, vs, bs, e, H, nx, h, hl, hT, hnd, hk => by have := hk 0 id _ rfl rfl; cases this

end Go.Proofs.Fr

/- Calls: what a contract says, and what it is good for. -/
namespace Go.Proofs.Fr
open Go Go.RowKit

variable {P : Program} {B : Bs} {nt : Nat} {fr : Nat → Prop} {s : S} {g : Nat → Value} {a : Act} {w w' : World} {R : Type} {H : Nat → Ob} {ok ok' : Nat → Prop}

def retV (rs : List Value) : Value := match rs with
  | [v] => v
  | rs => .tuple rs.toArray

/-- The values that are lent. -/
def lvC : (k : K) → List Value → List Value
  | .io .., cs => match cs with
    | v :: _ => [v]
    | _ => []
  | .bx .., cs => match cs with
    | v :: _ => [v]
    | _ => []
  | .fn _ c, cs => match cs with
    | .func _ _ caps :: _ => lvC c caps.toList
    | _ => []
  | .cons a b, cs => lvC a cs ++ lvC b (cs.drop a.sz)
  | _, _ => []

/-- The cells of an argument. -/
def argC (k : K) (v : Value) : List Value :=
  match k, v with
  | .cons .., .agg cs => cs.toList
  | _, v => [v]

def lvA : List K → List Value → List Value
  | k :: r, v :: vs => lvC k (argC k v) ++ lvA r vs
  | _, _ => []

structure Sound (P : Program) (f : Nat) (sp : Sp) : Prop where
  ent : ∀ args w, (callFunc f args).run P w = .ok (.enter f args) w
  run : ∀ x y, sp.sem x = some y → ∀ (w : World) (vs : List Value) (ok : Nat → Prop) (bs : List Nat), (∀ k, ok k → k < w.heap.size) → AR w ok sp.ins x vs bs → bs.Nodup → (∀ b ∈ bs, ¬ ok b) →
    Calls P f vs.toArray w fun e w' => ∃ rs bs' ok', e = .returned (retV rs) ∧ rs.length = sp.outs.length ∧ AR w' ok' (sp.outs ++ backs sp.ins) y (rs ++ lvA sp.ins vs) bs' ∧ bs'.Nodup ∧ (∀ b ∈ bs', b ∈ bs ∨ w.heap.size ≤ b) ∧
      (∀ k, ok' k → (ok k ∨ k ∈ bs ∨ w.heap.size ≤ k) ∧ k < w'.heap.size ∧ k ∉ bs') ∧ BelowO (fun k => k ∈ bs ∨ w.heap.size ≤ k) w w'
  idn : ∀ n, sp.idN = some n → ∀ (w : World) (cs : Array Value), cs.size = n → (∀ u ∈ cs.toList, u.oneCell' = true) → Calls P f #[.agg cs] w fun e w' => e = .returned (.agg cs) ∧ Below w.heap.size w w'

theorem BelowO.below {n : Nat} {w w' : World} (hn : n = w.heap.size) (h : BelowO (fun k => k ∈ ([] : List Nat) ∨ n ≤ k) w w') : Below w.heap.size w w' :=
  ⟨h.os, h.tape, h.output, h.size, fun k hk => h.block k hk (by simp; omega)⟩

theorem lentC_nil (Hv : Nat → Ob) : ∀ c : K, lentC Hv c [] = []
  | .v _ => rfl
  | .own _ _ => rfl
  | .io _ _ => rfl
  | .bx _ _ => rfl
  | .fn _ _ => rfl
  | .np => rfl
  | .nl => rfl
  | .mb _ _ => rfl
  | .nil => rfl
  | .cons a b => by simp only [lentC, List.drop_nil, lentC_nil Hv a, lentC_nil Hv b, List.append_nil]

section lent
variable {Hv : Nat → Ob}
theorem lentC_R (hv : ∀ id, Hv id = .gone ∨ Hv id = H id) (hobj : ∀ id, OB g H w ok id (H id)) :
    ∀ {k : K} {ls r : List L} {x : k.den} {fro lent : List Nat} {cs : List Value}, pkC Hv k ls = some (x, r, fro, lent) → All2 (LR g H w ok) ls cs →
      (lentC Hv k ls).Sublist lent ∧ (lentC Hv k ls).length = k.bks.length ∧ lvC k cs = (lentC Hv k ls).map g ∧ ∀ (j : Nat) id k', (lentC Hv k ls)[j]? = some id → k.bks[j]? = some k' → fits k' (H id) ∧ k'.isOb = true := by
  have hvi : ∀ id o, Hv id = o → o ≠ .gone → H id = o := fun id o h hne => by rcases hv id with e | e; exact absurd (e.symm.trans h).symm hne; exact e.symm.trans h
  intro k
  induction k with
  | v t =>
    intro ls r x fro lent cs h ha
    exact ⟨List.nil_sublist _, rfl, rfl, fun j id k' h1 => by simp [lentC] at h1⟩
  | own E t =>
    intro ls r x fro lent cs h ha
    exact ⟨List.nil_sublist _, rfl, rfl, fun j id k' h1 => by simp [lentC] at h1⟩
  | io E t =>
    intro ls r x fro lent cs h ha
    simp only [pkC] at h
    split at h
    · rename_i id q'
      split at h
      · rename_i E' t' xs hH
        split at h
        · rename_i ht; subst ht
          split at h
          · rename_i hE; subst hE
            cases h
            obtain ⟨b, q, rfl, hb, hq⟩ := ha.cons_l
            have hHi := hvi _ _ hH (by simp)
            have hbg : b = g id := hb.2 t' xs.length (by rw [hHi]; rfl)
            refine ⟨List.Sublist.refl _, rfl, by simp [lvC, lentC, hbg], fun j i k' h1 h2 => ?_⟩
            cases j with
            | zero =>
              simp [lentC] at h1; subst h1
              simp [K.bks] at h2; subst h2
              exact ⟨⟨xs, hHi⟩, rfl⟩
            | succ j => simp [lentC] at h1
          · cases h
        · cases h
      · cases h
    · cases h
  | bx T c ih =>
    intro ls r x fro lent cs h ha
    simp only [pkC] at h
    split at h
    · rename_i id q'
      split at h
      · rename_i T' ls' hH
        split at h
        · rename_i hT; subst hT
          split at h
          · rename_i x' fro' lent' hp
            cases h
            obtain ⟨b, q, rfl, hb, hq⟩ := ha.cons_l
            have hHi := hvi _ _ hH (by simp)
            have ho := hobj id
            rw [hHi] at ho
            obtain ⟨kb, arr, hg, hh, hall⟩ := ho
            obtain ⟨kb', hg', hbv⟩ := hb.2 (.nil, 0) (by rw [hHi]; rfl)
            refine ⟨by simp [lentC], rfl, ?_, fun j i k' h1 h2 => ?_⟩
            · simp only [lvC, lentC, List.map_cons, List.map_nil]
              rw [hbv, hg']
            · cases j with
              | zero =>
                simp [lentC] at h1; subst h1
                simp [K.bks] at h2; subst h2
                exact ⟨⟨ls', hHi⟩, rfl⟩
              | succ j => simp [lentC] at h1
          · cases h
        · cases h
      · cases h
    · cases h
  | fn f c ih =>
    intro ls r x fro lent cs h ha
    simp only [pkC] at h
    split at h
    · rename_i f' q'
      split at h
      · rename_i hff; subst hff
        split at h
        · rename_i x' fro' lent' hp
          cases h
          obtain ⟨b, q, rfl, hb, hq⟩ := ha.cons_l
          obtain ⟨h1, h2, h3, h4⟩ := ih (cs := []) hp trivial
          rw [lentC_nil] at h1 h2 h3 h4
          have e1 : lentC Hv (.fn f' c) (.fn f' :: r) = [] := rfl
          rw [e1]
          refine ⟨h1, h2, ?_, h4⟩
          rw [show b = _ from hb]
          exact h3
        · cases h
      · cases h
    · rename_i id q'
      split at h
      · rename_i f' ls' hH
        split at h
        · rename_i hff; subst hff
          split at h
          · rename_i x' fro' lent' hp
            cases h
            obtain ⟨b, q, rfl, hb, hq⟩ := ha.cons_l
            have hHi := hvi _ _ hH (by simp)
            have ho := hobj id
            rw [hHi] at ho
            obtain ⟨caps, hg, hall⟩ := ho
            have hbg : b = g id := hb.2 .nil 0 (by rw [hHi]; rfl)
            obtain ⟨h1, h2, h3, h4⟩ := ih hp hall
            have e1 : lentC Hv (.fn f' c) (.cl id :: r) = lentC Hv c ls' := by simp only [lentC, hH]
            rw [e1]
            refine ⟨h1, h2, ?_, h4⟩
            simp only [lvC, hbg, hg]
            exact h3
          · cases h
        · cases h
      · cases h
    · cases h
  | np =>
    intro ls r x fro lent cs h ha
    exact ⟨List.nil_sublist _, rfl, rfl, fun j id k' h1 => by simp [lentC] at h1⟩
  | nl =>
    intro ls r x fro lent cs h ha
    exact ⟨List.nil_sublist _, rfl, rfl, fun j id k' h1 => by simp [lentC] at h1⟩
  | mb T c =>
    intro ls r x fro lent cs h ha
    exact ⟨List.nil_sublist _, rfl, rfl, fun j id k' h1 => by simp [lentC] at h1⟩
  | nil =>
    intro ls r x fro lent cs h ha
    exact ⟨List.nil_sublist _, rfl, rfl, fun j id k' h1 => by simp [lentC] at h1⟩
  | cons a b iha ihb =>
    intro ls r x fro lent cs h ha
    simp only [pkC] at h
    split at h
    · rename_i x1 r1 f1 l1 h1
      split at h
      · rename_i y r2 f2 l2 h2
        cases h
        obtain ⟨c1, c2, m1, rfl, rfl, e1, a1⟩ := pkC_R (ok' := fun _ => True) hv hobj (fun _ _ => trivial) h1 ha (fun _ _ _ _ => trivial)
        obtain ⟨p1, p2, p3, p4⟩ := iha h1 ha
        obtain ⟨q1, q2, q3, q4⟩ := ihb h2 a1
        have hm : m1.length = a.sz := by
          have h5 := ha.len
          have h6 := a1.len
          have h7 := e1.len
          simp only [List.length_append] at h5
          omega
        have hd1 : (m1 ++ r1).drop a.sz = r1 := by rw [← hm, List.drop_left]
        have hd2 : (c1 ++ c2).drop a.sz = c2 := by rw [← e1.len, List.drop_left]
        simp only [lentC, lvC, hd1, hd2, K.bks]
        refine ⟨p1.append q1, by simp [p2, q2], by rw [p3, q3, List.map_append], fun j id k' h3 h4 => ?_⟩
        by_cases hj : j < (lentC Hv a (m1 ++ r1)).length
        · rw [List.getElem?_append_left hj] at h3
          rw [List.getElem?_append_left (by omega)] at h4
          exact p4 j id k' h3 h4
        · rw [List.getElem?_append_right (by omega)] at h3
          rw [List.getElem?_append_right (by omega)] at h4
          exact q4 _ id k' h3 (by rw [p2]; exact h4)
      · cases h
    · cases h

theorem lentA_R (hv : ∀ id, Hv id = .gone ∨ Hv id = H id) (hobj : ∀ id, OB g H w ok id (H id)) :
    ∀ {ks : List K} {ds : List D} {vs : List Value} {x : dens ks} {fro lent : List Nat}, pkA Hv ks ds = some (x, fro, lent) → All2 (DR g H w ok) ds vs →
      (lentA Hv ks ds).Sublist lent ∧ (lentA Hv ks ds).length = (backs ks).length ∧ lvA ks vs = (lentA Hv ks ds).map g ∧ ∀ (j : Nat) id k', (lentA Hv ks ds)[j]? = some id → (backs ks)[j]? = some k' → fits k' (H id) ∧ k'.isOb = true
  | [], ds, vs, x, fro, lent, h, ha => by
    simp only [pkA] at h
    split at h
    · cases h
      exact ⟨List.nil_sublist _, rfl, rfl, fun j id k' h1 => by simp [lentA] at h1⟩
    · cases h
  | k :: r, ds, vs, x, fro, lent, h, ha => by
    simp only [pkA] at h
    split at h
    · rename_i d ds
      split at h
      · rename_i hagg
        split at h
        · rename_i x1 f1 l1 h1
          split at h
          · rename_i y f2 l2 h2
            cases h
            obtain ⟨v, rest, rfl, hd, hrest⟩ := ha.cons_l
            have key : ∃ cs, All2 (LR g H w ok) d.ls cs ∧ lvC k (argC k v) = lvC k cs := by
              cases d with
              | one l =>
                refine ⟨[v], ⟨hd, trivial⟩, ?_⟩
                cases k with
                | cons a b => cases hagg
                | _ => rfl
              | agg ls =>
                obtain ⟨cs, hcv, hcs⟩ := (show D0R g H w ok (.agg ls) v from hd)
                refine ⟨cs.toList, hcs, ?_⟩
                cases k with
                | v t => rfl
                | cons a b => rw [hcv]; rfl
                | _ => cases hagg
            obtain ⟨cs, hcs, hcl⟩ := key
            obtain ⟨p1, p2, p3, p4⟩ := lentC_R hv hobj h1 hcs
            obtain ⟨q1, q2, q3, q4⟩ := lentA_R hv hobj h2 hrest
            simp only [lentA, lvA, backs, List.flatMap_cons]
            have hb2 : List.flatMap K.bks r = backs r := rfl
            rw [hb2]
            refine ⟨p1.append q1, by simp [p2, q2], by rw [hcl, p3, q3, List.map_append], fun j id k' h3 h4 => ?_⟩
            by_cases hj : j < (lentC Hv k d.ls).length
            · rw [List.getElem?_append_left hj] at h3
              rw [List.getElem?_append_left (by omega)] at h4
              exact p4 j id k' h3 h4
            · rw [List.getElem?_append_right (by omega)] at h3
              rw [List.getElem?_append_right (by omega)] at h4
              exact q4 _ id k' h3 (by rw [p2]; exact h4)
          · cases h
        · cases h
      · cases h
    · cases h
end lent
end Go.Proofs.Fr

/- Calls of any kind, of what may be lent; calls of plain values alone. -/
namespace Go.Proofs.Fr
open Go Go.RowKit

variable {P : Program} {B : Bs} {nt : Nat} {fr : Nat → Prop} {s : S} {g : Nat → Value} {a : Act} {w w' : World} {R : Type} {H : Nat → Ob} {ok ok' : Nat → Prop}

theorem goneAll_at : ∀ (l : List Nat) (H : Nat → Ob) (id : Nat), (id ∈ l → goneAll H l id = .gone) ∧ (id ∉ l → goneAll H l id = H id)
  | [], _, _ => ⟨fun h => absurd h (by simp), fun _ => rfl⟩
  | i :: r, H, id => by
    have h := goneAll_at r (upd H i .gone) id
    simp only [goneAll]
    constructor
    · intro hm
      by_cases hr : id ∈ r
      · exact h.1 hr
      · rw [h.2 hr]
        have e : id = i := by simpa [hr] using hm
        subst e; exact upd_same _ _ _
    · intro hm
      have e1 : id ≠ i := fun e => hm (by rw [e]; exact .head _)
      rw [h.2 fun h' => hm (.tail _ h'), upd_ne _ _ e1]

theorem nodupB_spec : ∀ {l : List Nat}, nodupB l = true → l.Nodup
  | [], _ => List.nodup_nil
  | a :: r, h => by
    simp only [nodupB, Bool.and_eq_true, Bool.not_eq_true'] at h
    exact List.nodup_cons.2 ⟨fun hm => by have := h.1; simp [hm] at this, nodupB_spec h.2⟩

theorem lentOk_spec {fro lent : List Nat} (h : lentOk fro lent = true) : lent.Nodup ∧ ∀ id ∈ lent, id ∉ fro := by
  unfold lentOk at h
  simp only [Bool.and_eq_true] at h
  refine ⟨nodupB_spec h.1, fun id hid hf => ?_⟩
  have := List.all_eq_true.1 h.2 id hid
  simp [hf] at this

/-- Rows and boxes that stay as they are from now on. -/
theorem Rel.freeze (hr : Rel B nt fr s g a w) {ids : List Nat} (hids : ∀ id ∈ ids, ¬ fr id) (hrow : ∀ id ∈ ids, (s.H id).rb = true) (dt : List Nat) :
    Rel B nt fr { s with H := frz s.H ids, dt := dt } g a w ∧ (∀ k, okB B g s.H w k → okB B g (frz s.H ids) w k) ∧ (∀ id ∈ ids, ∀ k, owned g s.H id = some k → okB B g (frz s.H ids) w k) := by
  have hown : ∀ id k, owned g (frz s.H ids) id = some k → owned g s.H id = some k ∧ id ∉ ids := by
    intro id k h
    by_cases hi : id ∈ ids
    · rw [owned_eq, (frz_at ids s.H id).1 hi] at h
      have := hrow id hi
      cases e : s.H id <;> rw [e] at h this <;> first | (cases h; done) | (cases this; done)
    · exact ⟨by simpa only [owned, (frz_at ids s.H id).2 hi] using h, hi⟩
  have ok1 : ∀ k, okB B g s.H w k → okB B g (frz s.H ids) w k := fun k hk => ⟨hk.1, fun i hi => hk.2.1 i (hown i k hi).1, hk.2.2⟩
  have ok2 : ∀ id ∈ ids, ∀ k, owned g s.H id = some k → okB B g (frz s.H ids) w k := by
    intro id hi k hk
    refine ⟨OB.lt (hr.objs id) rfl hk, fun i h => ?_, B.al k (hr.base id k hk)⟩
    obtain ⟨h1, h2⟩ := hown i k h
    exact h2 (hr.disj i id k h1 hk ▸ hi)
  have hsh : ∀ id, shO (frz s.H ids id) = shO (s.H id) := by
    intro id
    by_cases hi : id ∈ ids
    · rw [(frz_at ids s.H id).1 hi]; cases s.H id <;> rfl
    · rw [(frz_at ids s.H id).2 hi]
  refine ⟨?_, ok1, ok2⟩
  refine Rel.step hr (fun id => id ∈ ids) rfl (fun _ h => h) (fun id h => ⟨(frz_at ids s.H id).2 h, rfl⟩) (fun id _ _ => .inr ⟨hsh id, rfl⟩) (fun id k h1 h2 => .inr ⟨id, h1, (hown id k h2).1⟩) (fun i j k hi _ h _ => absurd hi (hown i k h).2)
    (fun _ _ _ => rfl) rfl rfl rfl (Nat.le_refl _) (fun hk hcm id ht => ?_) (fun id ht j hj hf => ?_) (fun id hf => ?_)
  · show OB _ _ _ _ id (frz s.H ids id)
    have ho := hr.objs id
    rw [(frz_at ids s.H id).1 ht]
    cases e : s.H id with
    | gone => trivial
    | box T ls =>
      rw [e] at ho
      obtain ⟨q, arr, hg', hh, ha⟩ := ho
      have hoq : owned g s.H id = some q := by simp [owned, e, hg', blkOf]
      refine ⟨q, arr, hg', hh, ok2 id ht q hoq, ha.mono_mem fun l v hl hlr => LR.mono hk (fun j hj => hcm j (hr.kold id j ?_)) hlr⟩
      rw [e]; exact List.mem_flatMap.2 ⟨l, hl, hj⟩
    | fbx T ls =>
      rw [e] at ho
      obtain ⟨q, arr, hg', hh, hq, ha⟩ := ho
      refine ⟨q, arr, hg', hh, ok1 q hq, ha.mono_mem fun l v hl hlr => LR.mono hk (fun j hj => hcm j (hr.kold id j ?_)) hlr⟩
      rw [e]; exact List.mem_flatMap.2 ⟨l, hl, hj⟩
    | row E t xs =>
      rw [e] at ho
      exact En.mono (t := .sl E t) (ok := fun k => okB B g s.H w k ∨ owned g s.H id = some k) (fun k hk' => by
        rcases hk' with hk' | hk'
        · exact ⟨ok1 k hk', rfl⟩
        · exact ⟨ok2 id ht k hk', rfl⟩) (RowO.en ho (fun _ => .inl) fun k hk' => .inr (by simpa [owned, e] using hk'))
    | fr E t xs =>
      rw [e] at ho
      exact En.mono (t := .sl E t) hk ho
    | clo f ls => have := hrow id ht; rw [e] at this; cases this
  · have hj' : j ∈ (frz s.H ids id).kids := hj
    rw [(frz_at ids s.H id).1 ht] at hj'
    refine hr.kold id j ?_ hf
    cases e : s.H id <;> rw [e] at hj' <;> exact hj'
  · show frz s.H ids id = .gone
    have h0 := hr.fresh id hf
    rw [(frz_at ids s.H id).2 (fun h => hids id h hf)]
    exact h0

theorem tgSlots_get (n j : Nat) (tg : Tg) (l : List Nat) (h : (retTg n l)[j]? = some tg) : (j < n ∧ tg = .slot j) ∨ (n ≤ j ∧ ∃ id, l[j - n]? = some id ∧ tg = .obj id) := by
  unfold retTg tgSlots at h
  by_cases hj : j < n
  · rw [List.getElem?_append_left (by simpa using hj)] at h
    simp [hj] at h
    exact .inl ⟨hj, h.symm⟩
  · rw [List.getElem?_append_right (by simp; omega)] at h
    simp only [List.length_map, List.length_range, List.getElem?_map] at h
    cases e : l[j - n]? with
    | none => rw [e] at h; simp at h
    | some id => rw [e] at h; simp at h; exact .inr ⟨by omega, id, rfl, h.symm⟩

theorem objT_app (a b : List Tg) : objT (a ++ b) = objT a ++ objT b := by unfold objT; exact List.filterMap_append
theorem objT_slots : ∀ l : List Nat, objT (l.map .slot) = []
  | [] => rfl
  | a :: l => by rw [List.map_cons, objT_slot, objT_slots l]
theorem objT_objs : ∀ l : List Nat, objT (l.map .obj) = l
  | [] => rfl
  | a :: l => by rw [List.map_cons, objT_obj, objT_objs l]
theorem objT_retTg (n : Nat) (l : List Nat) : objT (retTg n l) = l := by
  unfold retTg tgSlots
  rw [objT_app, objT_slots, objT_objs, List.nil_append]

def WExt (id0 : Nat) (s s1 : S) : Prop := s1.e = s.e ∧ s1.nx = s.nx ∧ ∃ new, s1.dt = new ++ s.dt ∧ ∀ id, id < id0 → id ∉ new → s1.H id = s.H id

def WGoal (P : Program) (B : Bs) (nt : Nat) (fr : Nat → Prop) (id0 : Nat) (s : S) (a : Act) (w : World) (o : Oper) (k : S → D → Option R) (r : R) : Prop :=
  ∃ s1 d, k s1 d = some r ∧ WExt id0 s s1 ∧ ∀ (next : Act → World → Prop) (Q : Exit → Act → World → Prop), (∀ g' a' w', Rel B nt (less fr id0) (s1.put o.dst d) g' a' w' → next a' w') → o.wp P a w next Q

theorem resD_R {G : Nat → Value} {H' : Nat → Ob} {ds : List D0} {rs : List Value} (h : All2 (D0R G H' w ok) ds rs) : DR G H' w ok (resD ds) (retV rs) ∧ ∀ id ∈ (resD ds).ids, ∃ d ∈ ds, id ∈ d.ids := by
  match ds, rs, h with
  | [], [], _ => exact ⟨⟨#[], rfl, trivial⟩, by simp [resD, D.ids]⟩
  | [d], [v], h => exact ⟨h.1, fun id hi => ⟨d, .head _, hi⟩⟩
  | d1 :: d2 :: ds, v1 :: v2 :: vs, h => exact ⟨⟨_, rfl, by simpa using h⟩, fun id hi => by simpa [resD, D.ids] using hi⟩
  | [], _ :: _, h => exact h.elim
  | _ :: _, [], h => exact h.elim
  | [_], _ :: _ :: _, h => exact h.2.elim
  | _ :: _ :: _, [_], h => exact h.2.elim

theorem args_R (hr : Rel B nt fr s g a w) : ∀ (xs : List Operand), All2 (DR g s.H w (okB B g s.H w)) (xs.map (evD s.e)) (xs.map a.eval) ∧ ∀ d ∈ xs.map (evD s.e), ∀ id ∈ d.ids, ¬ fr id
  | [] => ⟨trivial, by simp⟩
  | x :: xs => by
    obtain ⟨h1, h2⟩ := ev_R hr x
    obtain ⟨h3, h4⟩ := args_R hr xs
    refine ⟨⟨h1, h3⟩, fun d hd => ?_⟩
    rcases List.mem_cons.1 hd with rfl | hd
    · exact h2
    · exact h4 d hd

section
variable {o : Oper} {id0 : Nat} {k : S → D → Option R} {r : R} {hb : Nat → Ob}

/-- A call, by its contract. -/
theorem w_call1 (hhb : ∀ id, hb id = .gone ∨ hb id = s.H id) (hr : Rel B nt fr s g a w) (hfr : ∀ j, id0 ≤ j → j < id0 + 8 → fr j) (hd : dstOk nt o.dst = true) {gf : Nat} {vs : List Value}
    (hrun : (execOp a.eval o).run P w = .ok (.enter gf vs.toArray) w) {ds : List D} (hds : All2 (DR g s.H w (okB B g s.H w)) ds vs) (hdi : ∀ d ∈ ds, ∀ id ∈ d.ids, ¬ fr id) {sp : Sp} (hsp : Sound P gf sp)
    {x : dens sp.ins} {fro lent : List Nat} (hx : pkA hb sp.ins ds = some (x, fro, lent)) (hlo : lentOk fro lent = true)
    {y : dens (sp.outs ++ backs sp.ins)} (hy : sp.sem x = some y) {ks : List K} {z : dens ks} (hks : ks.length = (sp.outs ++ backs sp.ins).length) (hsp2 : ∀ (w : World) ok vs bs, AR w ok (sp.outs ++ backs sp.ins) y vs bs → AR w ok ks z vs bs)
    (hbk : ∀ (j : Nat) k, (backs sp.ins)[j]? = some k → k.isOb = true → ks[sp.outs.length + j]? = some k) (h8 : nobP (retTg sp.outs.length (lentA hb sp.ins ds)) ks ≤ 8)
    (hv : k { s with H := (fillS (fun _ => .one .skip) (goneAll (frz s.H fro) lent) id0 (retTg sp.outs.length (lentA hb sp.ins ds)) ks z).2, dt := lent ++ fro ++ s.dt }
      (resD ((List.range sp.outs.length).map fun i => d0Of ((fillS (fun _ => .one .skip) (goneAll (frz s.H fro) lent) id0 (retTg sp.outs.length (lentA hb sp.ins ds)) ks z).1 i))) = some r) : WGoal P B nt fr id0 s a w o k r := by
  obtain ⟨hln, hlf⟩ := lentOk_spec hlo
  obtain ⟨i1, i2⟩ := pkA_ids hhb hr.kold hx hdi
  obtain ⟨hrF, okF1, okF2⟩ := hr.freeze (ids := fro) (fun id h => (i1 id h).1) (fun id h => (i1 id h).2) (lent ++ fro ++ s.dt)
  obtain ⟨la1, la2, la3, la4⟩ := lentA_R hhb hr.objs hx hds
  let okc : Nat → Prop := okB B g (frz s.H fro) w
  have hargs : AR w okc sp.ins x vs (lent.filterMap (owned g s.H)) := pkA_R hhb hr.objs okF1 hx hds okF2
  have hfl : ∀ id ∈ lent, frz s.H fro id = s.H id := fun id h => (frz_at fro s.H id).2 (hlf id h)
  have hbn : ∀ {l : List Nat}, l.Nodup → (l.filterMap (owned g s.H)).Nodup := by
    intro l
    induction l with
    | nil => intro _; exact List.nodup_nil
    | cons i l ih =>
      intro hn
      obtain ⟨n1, n2⟩ := List.nodup_cons.1 hn
      rw [List.filterMap_cons]
      cases e : owned g s.H i with
      | none => exact ih n2
      | some b =>
        refine List.nodup_cons.2 ⟨fun hm => ?_, ih n2⟩
        obtain ⟨j, hj, e'⟩ := List.mem_filterMap.1 hm
        exact n1 ((hr.disj i j b e e') ▸ hj)
  have hbs : ∀ b ∈ lent.filterMap (owned g s.H), ∃ id ∈ lent, owned g (frz s.H fro) id = some b := by
    intro b hb'
    obtain ⟨id, hid, e⟩ := List.mem_filterMap.1 hb'
    exact ⟨id, hid, by simpa only [owned, hfl id hid] using e⟩
  have hcall := hsp.run x y hy w vs okc _ (fun k hk => hk.1) hargs (hbn hln) (fun b hb' hk => by
    obtain ⟨id, _, e⟩ := hbs b hb'
    exact hk.2.1 id e)
  refine ⟨_, _, hv, ⟨rfl, rfl, lent ++ fro, rfl, fun id hid hn => ?_⟩, fun next Q hn => ?_⟩
  · show (fillS _ _ _ _ _ _).2 id = s.H id
    simp only [List.mem_append, not_or] at hn
    rw [fill_keep _ _ _ _ (.inl hid) (by rw [objT_retTg]; exact fun h => hn.1 (la1.subset h)), (goneAll_at lent _ id).2 hn.1, (frz_at fro s.H id).2 hn.2]
  unfold Oper.wp
  rw [hrun]
  refine hcall.mono fun e w' hpost => ?_
  obtain ⟨rs, bs', ok', rfl, hrl, hAR0, hnd', hge, hok', hbel⟩ := hpost
  have hAR := hsp2 _ _ _ _ hAR0
  show next (a.put o.dst (retV rs)) w'
  generalize hbsd : lent.filterMap (owned g s.H) = bs at *
  have hlid : ∀ id ∈ lentA hb sp.ins ds, id ∈ lent := fun id h => la1.subset h
  have hlnr : ∀ id ∈ lent, ¬ (id0 ≤ id ∧ id < id0 + 8) := fun id h hc => (i2 id h).1 (hfr id hc.1 hc.2)
  obtain ⟨gs, hgl, hfill⟩ := fillS_R (tgs := retTg sp.outs.length (lentA hb sp.ins ds)) (x := z) (fun _ => .one .skip) (goneAll (frz s.H fro) lent) id0 hAR (by simp [retTg, tgSlots, la2, hks])
    (fun id hid => by
      rw [objT_retTg] at hid
      have := hlnr id (hlid id hid)
      omega) (by rw [objT_retTg]; exact hln.sublist la1) (fun j id k' h1 h2 => by
      rcases tgSlots_get _ _ _ _ h1 with ⟨_, e⟩ | ⟨hj, id', h3, e⟩
      · cases e
      · cases e
        obtain ⟨kb, hkb⟩ : ∃ kb, (backs sp.ins)[j - sp.outs.length]? = some kb := ⟨_, List.getElem?_eq_getElem (by rw [← la2]; exact (List.getElem?_eq_some_iff.1 h3).1)⟩
        have hq := hbk _ kb hkb (la4 _ id kb h3 hkb).2
        rw [show sp.outs.length + (j - sp.outs.length) = j by omega] at hq
        rw [hq] at h2
        have e2 : kb = k' := by simpa using h2
        rw [← e2]
        exact (la4 _ id kb h3 hkb).2)
  have hF := hfill (newG g id0 gs) (fun t => rs.getD t undef) (fun i v hi => by
      have hlt := (List.getElem?_eq_some_iff.1 hi).1
      unfold newG
      rw [if_pos ⟨by omega, by omega⟩, List.getD_eq_getElem?_getD, Nat.add_sub_cancel_left, hi]; rfl)
    (fun j t v h1 h2 => by
      rcases tgSlots_get _ _ _ _ h1 with ⟨hj, e⟩ | ⟨hj, id', h3, e⟩
      · cases e
        rw [List.getElem?_append_left (by omega)] at h2
        simp [List.getD_eq_getElem?_getD, h2]
      · cases e)
    (fun j id v h1 h2 => by
      rcases tgSlots_get _ _ _ _ h1 with ⟨hj, e⟩ | ⟨hj, id', h3, e⟩
      · cases e
      · cases e
        rw [List.getElem?_append_right (by omega), hrl, la3, List.getElem?_map, h3] at h2
        simp at h2
        have := hlnr id (hlid id (List.mem_of_getElem? h3))
        unfold newG
        rw [if_neg (by rw [hgl]; omega)]; exact h2)
  generalize hq : fillS (fun _ => .one .skip) (goneAll (frz s.H fro) lent) id0 (retTg sp.outs.length (lentA hb sp.ins ds)) ks z = q at *
  generalize hN : nobP (retTg sp.outs.length (lentA hb sp.ins ds)) ks = N at *
  let G := newG g id0 gs
  -- which are touched
  have htch : ∀ id, tch (retTg sp.outs.length (lentA hb sp.ins ds)) ks id0 id ↔ ((id0 ≤ id ∧ id < id0 + N) ∨ id ∈ lentA hb sp.ins ds) := by
    intro id; unfold tch; rw [hN, objT_retTg]
  have hkeep : ∀ id, ¬ (id0 ≤ id ∧ id < id0 + N) → id ∉ lentA hb sp.ins ds → q.2 id = goneAll (frz s.H fro) lent id := by
    intro id h1 h2
    rw [← hq]
    exact fill_keep _ _ _ _ (by rw [hN]; omega) (by rw [objT_retTg]; exact h2)
  have hGold : ∀ id, ¬ (id0 ≤ id ∧ id < id0 + N) → G id = g id := fun id h => if_neg (by rw [hgl]; exact h)
  let tc : Nat → Prop := fun id => id ∈ lent ∨ (id0 ≤ id ∧ id < id0 + N)
  have hown : ∀ id k, tc id → owned G q.2 id = some k → k ∈ bs' := by
    intro id k ht ho
    by_cases hf : tch (retTg sp.outs.length (lentA hb sp.ins ds)) ks id0 id
    · exact hF.own id k hf ho
    · rw [htch] at hf
      simp only [not_or] at hf
      rw [owned_eq, hkeep id hf.1 hf.2, (goneAll_at lent _ id).1 (ht.resolve_right hf.1)] at ho
      cases ho
  have hbsl : ∀ b ∈ bs, ∃ id ∈ lent, owned g (frz s.H fro) id = some b := hbs
  have hbs' : ∀ b ∈ bs', w.heap.size ≤ b ∨ ∃ id ∈ lent, owned g (frz s.H fro) id = some b := fun b hb' => by
    rcases hge b hb' with h | h
    · exact .inr (hbsl b h)
    · exact .inl h
  have hokn : ∀ k, ok' k → okB B G q.2 w' k := by
    intro k hk
    obtain ⟨h1, h2, h3⟩ := hok' k hk
    refine ⟨h2, fun i hi => ?_, ?_⟩
    · by_cases ht : tc i
      · exact h3 (hown i k ht hi)
      · have ht1 : i ∉ lent := fun h => ht (.inl h)
        have ht2 : ¬ (id0 ≤ i ∧ i < id0 + N) := fun h => ht (.inr h)
        have hi2 : owned g (frz s.H fro) i = some k := by
          rw [owned_eq, hkeep i ht2 (fun h => ht1 (hlid i h)), (goneAll_at lent _ i).2 ht1, hGold i ht2] at hi
          rw [owned_eq]; exact hi
        rcases h1 with h1 | h1 | h1
        · exact h1.2.1 i hi2
        · obtain ⟨id, hid, e⟩ := hbsl k h1
          exact ht1 (hrF.disj i id k hi2 e ▸ hid)
        · have := OB.lt (hrF.objs i) rfl hi2; omega
    · rcases h1 with h1 | h1 | h1
      · exact h1.2.2
      · obtain ⟨id, hid, e⟩ := hbsl k h1
        exact B.al k (hrF.base id k e)
      · exact B.al k (B.on k (Nat.le_trans hr.frm.size h1))
  have hrel : Rel B nt (less fr id0) { s with H := q.2, dt := lent ++ fro ++ s.dt } G a w' := by
    refine Rel.gen (s' := { s with H := q.2, dt := lent ++ fro ++ s.dt }) hrF tc (fun id => ¬ fr id) (fun id ht => ?_) (fun id hf => ?_) (fun id _ => hrF.kold id) (fun id k ht ho => ?_) (fun i j k hi hj hik hjk => ?_) (fun k hk hno => ?_) hbel.os hbel.tape hbel.output hbel.size
      (fun _ t => .inl ⟨rfl, rfl, hrF.sold t⟩) (fun t id hid hf => hrF.sold t id hid hf.1) (fun hk id ht => ?_) (fun id j hj hf => ?_) (fun id hf => ?_) (fun id hid => ⟨(hr.kp id hid).1, fun h => (hr.kp id hid).1 h.1⟩) hr.size hr.dfr
    · have ht1 : id ∉ lent := fun h => ht (.inl h)
      have ht2 : ¬ (id0 ≤ id ∧ id < id0 + N) := fun h => ht (.inr h)
      exact ⟨(hkeep id ht2 (fun h => ht1 (hlid id h))).trans ((goneAll_at lent _ id).2 ht1), hGold id ht2⟩
    · have ht2 : ¬ (id0 ≤ id ∧ id < id0 + N) := fun h => hf (hfr id h.1 (by omega))
      by_cases hl : id ∈ lentA hb sp.ins ds
      · obtain ⟨j, hj, rfl⟩ := List.getElem_of_mem hl
        have hj2 : j < (backs sp.ins).length := by rw [← la2]; exact hj
        obtain ⟨hfit, hiob⟩ := la4 j _ _ (List.getElem?_eq_getElem hj) (List.getElem?_eq_getElem hj2)
        have hfit2 := hF.fit (sp.outs.length + j) ((lentA hb sp.ins ds)[j]) ((backs sp.ins)[j]) (by
            unfold retTg tgSlots
            rw [List.getElem?_append_right (by simp)]
            simp [List.getElem?_eq_getElem hj]) (by
            exact hbk j _ (List.getElem?_eq_getElem hj2) hiob)
        refine .inr ⟨?_, hGold _ ht2⟩
        have hfz : frz s.H fro ((lentA hb sp.ins ds)[j]) = s.H ((lentA hb sp.ins ds)[j]) := hfl _ (hlid _ hl)
        show shO (q.2 _) = shO (frz s.H fro _)
        rw [hfz]
        exact fits_sh hfit hfit2 (hGold _ ht2) (hr.objs _) ((hF.ob _ ((htch _).2 (.inr hl))).1)
      · have e := hkeep id ht2 hl
        by_cases hl2 : id ∈ lent
        · left
          show shO (q.2 id) = none
          rw [e, (goneAll_at lent _ id).1 hl2]; rfl
        · right
          refine ⟨?_, hGold id ht2⟩
          show shO (q.2 id) = shO (frz s.H fro id)
          rw [e, (goneAll_at lent _ id).2 hl2]
    · rcases hbs' k (hown id k ht ho) with h | ⟨j, hj, e⟩
      · exact .inl h
      · exact .inr ⟨j, .inl hj, e⟩
    · have tt : ∀ i k, tc i → owned G q.2 i = some k → tch (retTg sp.outs.length (lentA hb sp.ins ds)) ks id0 i := by
        intro i k hi hik
        rw [htch]
        by_cases h1 : id0 ≤ i ∧ i < id0 + N
        · exact .inl h1
        · by_cases h2 : i ∈ lentA hb sp.ins ds
          · exact .inr h2
          · exfalso
            rw [owned_eq, hkeep i h1 h2, (goneAll_at lent _ i).1 (hi.resolve_right h1)] at hik
            cases hik
      exact hF.inj hnd' i j k (tt i k hi hik) (tt j k hj hjk) hik hjk
    · refine hbel.block k hk fun h => ?_
      rcases h with h | h
      · obtain ⟨id, hid, e⟩ := hbsl k h
        exact hno id (.inl hid) e
      · omega
    · by_cases h1 : (id0 ≤ id ∧ id < id0 + N) ∨ id ∈ lentA hb sp.ins ds
      · have := (hF.ob id ((htch id).2 h1)).1
        show OB _ _ _ _ id (q.2 id)
        have hmono : OB G q.2 w' (okB B G q.2 w') id (q.2 id) := OB.mono (g := G) (H := q.2) (w := w') (ok := ok') (fun k hk' => ⟨hokn k hk', rfl⟩) rfl rfl (fun _ _ => rfl) (fun j _ => .inr ⟨rfl, rfl⟩) this
        exact hmono
      · simp only [not_or] at h1
        show OB _ _ _ _ id (q.2 id)
        rw [hkeep id h1.1 h1.2, (goneAll_at lent _ id).1 (ht.resolve_right h1.1)]
        trivial
    · have hj' : j ∈ (q.2 id).kids := hj
      by_cases h1 : (id0 ≤ id ∧ id < id0 + N) ∨ id ∈ lentA hb sp.ins ds
      · have := (hF.ob id ((htch id).2 h1)).2 j hj'
        rw [hN] at this
        exact hf.2 ⟨this.1, by omega⟩
      · simp only [not_or] at h1
        rw [hkeep id h1.1 h1.2] at hj'
        by_cases h2 : id ∈ lent
        · rw [(goneAll_at lent _ id).1 h2] at hj'; cases hj'
        · rw [(goneAll_at lent _ id).2 h2] at hj'
          exact hrF.kold id j hj' hf.1
    · show q.2 id = .gone
      have h1 : ¬ (id0 ≤ id ∧ id < id0 + N) := fun h => hf.2 ⟨h.1, by omega⟩
      have h2 : id ∉ lent := fun h => (i2 id h).1 hf.1
      rw [hkeep id h1 (fun h => h2 (hlid id h)), (goneAll_at lent _ id).2 h2]
      exact hrF.fresh id hf.1
  -- the results
  have hres : All2 (D0R G q.2 w' ok') ((List.range sp.outs.length).map fun i => d0Of (q.1 i)) rs ∧ ∀ d ∈ ((List.range sp.outs.length).map fun i => d0Of (q.1 i)), ∀ j ∈ d.ids, id0 ≤ j ∧ j < id0 + N := by
    have one : ∀ i (hi : i < sp.outs.length), D0R G q.2 w' ok' (d0Of (q.1 i)) (rs.getD i undef) ∧ ∀ j ∈ (d0Of (q.1 i)).ids, id0 ≤ j ∧ j < id0 + N := by
      intro i hi
      rcases hF.slot i with ⟨_, h⟩ | ⟨h1, h2⟩
      · exfalso
        refine h ?_
        unfold retTg tgSlots
        exact List.mem_append.2 (.inl (List.mem_map.2 ⟨i, List.mem_range.2 hi, rfl⟩))
      · rw [hN] at h2
        cases e : q.1 i with
        | v d => rw [e] at h1 h2; exact ⟨h1, h2⟩
        | tup _ => exact ⟨trivial, by simp [d0Of, D0.ids, D0.ls, L.ids]⟩
    refine ⟨All2.of_get (by simp [hrl]) fun i hi hi' => ?_, fun d hd j hj => ?_⟩
    · simp only [List.length_map, List.length_range] at hi
      have := (one i hi).1
      simp only [List.getElem_map, List.getElem_range]
      rw [List.getD_eq_getElem?_getD, List.getElem?_eq_getElem hi'] at this
      exact this
    · obtain ⟨i, hi, rfl⟩ := List.mem_map.1 hd
      exact (one i (List.mem_range.1 hi)).2 j hj
  obtain ⟨q1, q2⟩ := resD_R (G := G) (H' := q.2) hres.1
  refine hn G _ _ (hrel.put_ hd ?_ fun id hi hl => ?_)
  · exact DR.mono (fun k hk => ⟨hokn k hk, rfl⟩) (fun _ _ => .inr ⟨rfl, rfl⟩) q1
  · obtain ⟨d', hd', hi'⟩ := q2 id hi
    have := hres.2 d' hd' id hi'
    exact hl.2 ⟨this.1, by omega⟩

theorem split_R {R : Type} {ns : Nat} : ∀ {ks : List K} {y : dens ks} {k : (ks : List K) → dens ks → Option R} {r : R}, splitK ks y k = some r →
    ∃ (ks' : List K) (z : dens ks'), k ks' z = some r ∧ ks'.length = ks.length ∧ (∀ (w : World) ok vs bs, AR w ok ks y vs bs → AR w ok ks' z vs bs) ∧ ∀ (j : Nat) q, ks[j]? = some q → q.isOb = true → ks'[j]? = some q
  | [], y, k, r, h => ⟨[], (), h, rfl, fun _ _ _ _ h => h, fun j q h => by simp at h⟩
  | q :: rest, y, k, r, h => by
    have one : ∀ (q' : K) (y1 : q'.den) (f : ∀ (w : World) ok cs bs, CR w ok q y.1 cs bs → CR w ok q' y1 cs bs) (hag : q'.isAgg = q.isAgg) (hob : q.isOb = true → q' = q), splitK rest y.2 (fun ks z => k (q' :: ks) (y1, z)) = some r →
        ∃ (ks' : List K) (z : dens ks'), k ks' z = some r ∧ ks'.length = (q :: rest).length ∧ (∀ (w : World) ok vs bs, AR w ok (q :: rest) y vs bs → AR w ok ks' z vs bs) ∧ ∀ (j : Nat) x, (q :: rest)[j]? = some x → x.isOb = true → ks'[j]? = some x := by
      intro q' y1 f hag hob h
      obtain ⟨ks', z, h1, h2, h3, h4⟩ := split_R (ns := ns) h
      refine ⟨q' :: ks', (y1, z), h1, by simp [h2], fun w ok vs bs hA => ?_, fun j x hj hx => ?_⟩
      · obtain ⟨cs, rs, b1, b2, e1, e2, hc, hr⟩ := hA
        exact ⟨cs, rs, b1, b2, by rw [hag]; exact e1, e2, f _ _ _ _ hc, h3 _ _ _ _ hr⟩
      · cases j with
        | zero => simp at hj; subst hj; simp [hob hx]
        | succ j => simpa using h4 j x (by simpa using hj) hx
    cases q with
    | mb T c =>
      simp only [splitK] at h
      split at h
      · rename_i hy
        exact one .np () (fun w ok cs bs hc => by rw [hy] at hc; exact hc) rfl (fun h => by cases h) h
      · rename_i v hy
        exact one (.bx T c) v (fun w ok cs bs hc => by rw [hy] at hc; exact hc) rfl (fun h => by cases h) h
    | _ => exact one _ y.1 (fun _ _ _ _ h => h) rfl (fun _ => rfl) (by simpa only [splitK] using h)

theorem w_callK (hhb : ∀ id, hb id = .gone ∨ hb id = s.H id) (hr : Rel B nt fr s g a w) (hfr : ∀ j, id0 ≤ j → j < id0 + 8 → fr j) (hd : dstOk nt o.dst = true) {gf : Nat} {vs : List Value}
    (hrun : (∀ args w, (callFunc gf args).run P w = .ok (.enter gf args) w) → (execOp a.eval o).run P w = .ok (.enter gf vs.toArray) w) {ds : List D} (hds : All2 (DR g s.H w (okB B g s.H w)) ds vs) (hdi : ∀ d ∈ ds, ∀ id ∈ d.ids, ¬ fr id) :
    ∀ {sps : List Sp}, (∀ sp ∈ sps, Sound P gf sp) → callK id0 hb ds s k sps = some r → WGoal P B nt fr id0 s a w o k r
  | [], _, h => by simp only [callK] at h; cases h
  | sp :: rest, hsp, h => by
    simp only [callK] at h
    split at h
    · exact w_callK hhb hr hfr hd hrun hds hdi (fun sp h => hsp sp (.tail _ h)) h
    · rename_i x fro lent hx
      cases hc : lentOk fro lent with
      | false => rw [hc] at h; cases h
      | true =>
        rw [hc] at h
        simp only [cond_true] at h
        cases hy : sp.sem x with
        | none => rw [hy] at h; cases h
        | some y =>
          rw [hy] at h
          simp only [Option.bind_some] at h
          obtain ⟨ks', z, h1, h2, h3, h4⟩ := split_R (ns := 0) h
          cases h8 : Nat.ble (nobP (retTg sp.outs.length (lentA hb sp.ins ds)) ks') 8 with
          | false => rw [h8] at h1; cases h1
          | true =>
            rw [h8] at h1
            simp only [cond_true] at h1
            exact w_call1 hhb hr hfr hd (hrun (hsp sp (.head _)).ent) hds hdi (hsp sp (.head _)) hx hc hy h2 h3 (fun j q hj hq => h4 _ q (by rw [List.getElem?_append_right (by omega), Nat.add_sub_cancel_left]; exact hj) hq) (Nat.le_of_ble_eq_true h8) h1

end
end Go.Proofs.Fr

/- Calls of plain values alone. -/
namespace Go.Proofs.Fr
open Go Go.RowKit

variable {P : Program} {B : Bs} {nt : Nat} {fr : Nat → Prop} {s : S} {g : Nat → Value} {a : Act} {w w' : World} {R : Type} {H : Nat → Ob} {ok ok' : Nat → Prop}

theorem mkV_of {t : Ty} {d : D0} {v : Value} {x : t.den} {ids : List Nat} {vw : Nat → Vw} (hvw : ∀ id E t xs, vw id = .row E t xs → (H id).vw = .row E t xs) (hobj : ∀ id, OB g H w ok id (H id)) (hok : ∀ k, ok k → ok' k) (ha : d.isAgg = t.isAgg)
    (hp : pjAll vw t d.ls = some (x, ids)) (hd : D0R g H w ok d v) (hid : ∀ id ∈ ids, ∀ k, owned g H id = some k → ok' k) : ∃ cs, v = mkV t.isAgg cs ∧ En w ok' t x cs := by
  cases d with
  | one l =>
    have hagg : t.isAgg = false := ha.symm
    exact ⟨[v], by rw [hagg]; rfl, pjAll_En hvw hobj hok hp (show All2 _ [l] [v] from ⟨hd, trivial⟩) hid⟩
  | agg ls =>
    have hagg : t.isAgg = true := ha.symm
    obtain ⟨cs, rfl, hc⟩ := hd
    exact ⟨cs.toList, by rw [hagg]; simp [mkV], pjAll_En hvw hobj hok hp hc hid⟩

theorem pkArgs_R {vw : Nat → Vw} (hvw : ∀ id E t xs, vw id = .row E t xs → (H id).vw = .row E t xs) (hobj : ∀ id, OB g H w ok id (H id)) (hok : ∀ k, ok k → ok' k) :
    ∀ {ks : List K} {ds : List D} {vs : List Value} {x : dens ks} {ids : List Nat}, pkArgs vw ks ds = some (x, ids) → All2 (DR g H w ok) ds vs → (∀ id ∈ ids, ∀ k, owned g H id = some k → ok' k) →
      AR w ok' ks x vs [] ∧ backs ks = [] ∧ lvA ks vs = []
  | [], ds, vs, x, ids, h, ha, _ => by
    simp only [pkArgs] at h
    split at h
    · exact ⟨⟨All2.nil_l ha, rfl⟩, rfl, rfl⟩
    · cases h
  | .v t :: r, ds, vs, x, ids, h, ha, hid => by
    simp only [pkArgs] at h
    split at h
    · rename_i d ds
      split at h
      · rename_i hagg
        split at h
        · rename_i x1 i1 h1
          split at h
          · rename_i y i2 h2
            cases h
            obtain ⟨v, rest, rfl, hd, hrest⟩ := ha.cons_l
            obtain ⟨cs, rfl, hen⟩ := mkV_of hvw hobj hok hagg h1 hd (fun id hm => hid id (List.mem_append.2 (.inl hm)))
            obtain ⟨q1, q2, q3⟩ := pkArgs_R hvw hobj hok h2 hrest (fun id hm => hid id (List.mem_append.2 (.inr hm)))
            exact ⟨⟨cs, rest, [], [], rfl, rfl, ⟨hen, rfl⟩, q1⟩, q2, q3⟩
          · cases h
        · cases h
      · cases h
    · cases h
  | .own .. :: _, _, _, _, _, h, _, _ => by simp only [pkArgs] at h; cases h
  | .io .. :: _, _, _, _, _, h, _, _ => by simp only [pkArgs] at h; cases h
  | .bx .. :: _, _, _, _, _, h, _, _ => by simp only [pkArgs] at h; cases h
  | .fn .. :: _, _, _, _, _, h, _, _ => by simp only [pkArgs] at h; cases h
  | .np :: _, _, _, _, _, h, _, _ => by simp only [pkArgs] at h; cases h
  | .nl :: _, _, _, _, _, h, _, _ => by simp only [pkArgs] at h; cases h
  | .mb .. :: _, _, _, _, _, h, _, _ => by simp only [pkArgs] at h; cases h
  | .nil :: _, _, _, _, _, h, _, _ => by simp only [pkArgs] at h; cases h
  | .cons .. :: _, _, _, _, _, h, _, _ => by simp only [pkArgs] at h; cases h

theorem pkArgs_ids {vw : Nat → Vw} : ∀ {ks : List K} {ds : List D} {x : dens ks} {ids : List Nat}, pkArgs vw ks ds = some (x, ids) → ∀ id ∈ ids, (∃ d ∈ ds, id ∈ d.ids) ∧ ∃ E t xs, vw id = .row E t xs
  | [], ds, x, ids, h => by
    simp only [pkArgs] at h
    split at h
    · cases h; simp
    · cases h
  | .v t :: r, ds, x, ids, h => by
    simp only [pkArgs] at h
    split at h
    · rename_i d ds
      split at h
      · split at h
        · rename_i x1 i1 h1
          split at h
          · rename_i y i2 h2
            cases h
            intro id hm
            rcases List.mem_append.1 hm with hm | hm
            · obtain ⟨l, hl, hi⟩ := pjAll_ids h1 id hm
              refine ⟨⟨_, .head _, by simp only [D.ids, D0.ids, List.mem_flatMap]; exact ⟨l, hl, hi⟩⟩, ?_⟩
              unfold pjAll at h1
              split at h1
              · rename_i h3; cases h1; exact pj_rows h3 id hm
              · cases h1
            · obtain ⟨⟨d', hd', hi⟩, h3⟩ := pkArgs_ids h2 id hm
              exact ⟨⟨d', .tail _ hd', hi⟩, h3⟩
          · cases h
        · cases h
      · cases h
    · cases h
  | .own .. :: _, _, _, _, h => by simp only [pkArgs] at h; cases h
  | .io .. :: _, _, _, _, h => by simp only [pkArgs] at h; cases h
  | .bx .. :: _, _, _, _, h => by simp only [pkArgs] at h; cases h
  | .fn .. :: _, _, _, _, h => by simp only [pkArgs] at h; cases h
  | .np :: _, _, _, _, h => by simp only [pkArgs] at h; cases h
  | .nl :: _, _, _, _, h => by simp only [pkArgs] at h; cases h
  | .mb .. :: _, _, _, _, h => by simp only [pkArgs] at h; cases h
  | .nil :: _, _, _, _, h => by simp only [pkArgs] at h; cases h
  | .cons .. :: _, _, _, _, h => by simp only [pkArgs] at h; cases h

theorem mkA_nob : ∀ (ks : List K) (x : dens ks) (n : Nat), (mkA ks x n).2.length = nobA ks
  | [], _, _ => rfl
  | k :: r, x, n => by simp only [mkA, List.length_append, mkI_len, mkA_nob r x.2 (n + k.nob), nobA]

theorem En_noSl : ∀ {t : Ty} {x : t.den} {cs : List Value}, t.hasSl = false → En w ok t x cs → En w ok' t x cs
  | .int _, _, _, _, h => h
  | .bool, _, _, _, h => h
  | .str, _, _, _, h => h
  | .sl _ _, _, _, hs, _ => by simp [Ty.hasSl] at hs
  | .nil, _, _, _, h => h
  | .cons a b, _, _, hs, h => by
    simp only [Ty.hasSl, Bool.or_eq_false_iff] at hs
    obtain ⟨c1, c2, rfl, h1, h2⟩ := h
    exact ⟨c1, c2, rfl, En_noSl hs.1 h1, En_noSl hs.2 h2⟩

theorem CR_noSl : ∀ {k : K} {x : k.den} {cs : List Value} {bs : List Nat}, k.ret = false → CR w ok k x cs bs → CR w ok' k x cs bs
  | .v _, _, _, _, hs, h => ⟨En_noSl hs h.1, h.2⟩
  | .own _ _, _, _, _, hs, h => by
    obtain ⟨v, e, ⟨css, hc, ho⟩, hb⟩ := h
    exact ⟨v, e, ⟨css, hc.mono fun _ _ h => En_noSl hs h, ho⟩, hb⟩
  | .io _ _, _, _, _, hs, _ => by cases hs
  | .bx _ _, _, _, _, hs, _ => by cases hs
  | .fn _ _, _, _, _, hs, _ => by cases hs
  | .np, _, _, _, hs, _ => by cases hs
  | .nl, _, _, _, hs, _ => by cases hs
  | .mb _ _, _, _, _, hs, _ => by cases hs
  | .nil, _, _, _, _, h => h
  | .cons a b, _, _, _, hs, h => by
    simp only [K.ret, Bool.or_eq_false_iff] at hs
    obtain ⟨c1, c2, b1, b2, e1, e2, h1, h2⟩ := h
    exact ⟨c1, c2, b1, b2, e1, e2, CR_noSl hs.1 h1, CR_noSl hs.2 h2⟩

theorem AR_noSl : ∀ {ks : List K} {y : dens ks} {vs : List Value} {bs : List Nat}, retains ks = false → AR w ok ks y vs bs → AR w ok' ks y vs bs
  | [], _, _, _, _, h => h
  | k :: r, y, vs, bs, hs, h => by
    have hs' : k.ret = false ∧ retains r = false := by
      unfold retains at hs ⊢
      simpa only [List.any_cons, Bool.or_eq_false_iff] using hs
    obtain ⟨cs, rest, b1, b2, e1, e2, he, h⟩ := h
    exact ⟨cs, rest, b1, b2, e1, e2, CR_noSl hs'.1 he, AR_noSl hs'.2 h⟩

section
variable {o : Oper} {id0 : Nat} {k : D → List Ob → List Nat → Option R} {r : R} {vw : Nat → Vw}

theorem v_call (hvw : ∀ id, vw id = .no ∨ vw id = (s.H id).vw) (hr : Rel B nt fr s g a w) (hfr : ∀ j, id0 ≤ j → j < id0 + 8 → fr j) (hd : dstOk nt o.dst = true) {f : Operand} {args : Array Operand} {tys : Array TypeId}
    (ho : o.op = .call { callee := .value f, args := args, argTypes := tys }) {gf : Nat} (hf : evD s.e f = .one (.fn gf)) {sp : Sp} (hsp : Sound P gf sp) {x : dens sp.ins} {ids : List Nat}
    (hx : pkArgs vw sp.ins (args.toList.map (evD s.e)) = some (x, ids)) (h8 : nobA (sp.outs ++ backs sp.ins) ≤ 8) {y : dens (sp.outs ++ backs sp.ins)} (hy : sp.sem x = some y)
    (hv : k (resD (mkA (sp.outs ++ backs sp.ins) y id0).1) (mkA (sp.outs ++ backs sp.ins) y id0).2 (bif retains sp.outs then ids else []) = some r) : Goal P B nt fr id0 s a w o k r := by
  obtain ⟨hfv, _⟩ := ev_R hr f
  rw [hf] at hfv
  have vf : a.eval f = .func (.func gf) #[] #[] := hfv
  obtain ⟨ha1, ha2⟩ := args_R hr args.toList
  have hids : ∀ id ∈ ids, ¬ fr id ∧ (s.H id).rb = true := by
    intro id hi
    obtain ⟨⟨d, hd', hi'⟩, E, t, xs, hvr⟩ := pkArgs_ids hx id hi
    exact ⟨ha2 d hd' id hi', rb_row ⟨E, t, xs, vw_row hvw _ _ _ _ hvr⟩⟩
  let okc : Nat → Prop := fun k => okB B g s.H w k ∨ ∃ id ∈ ids, owned g s.H id = some k
  have hokc : ∀ k, okc k → k < w.heap.size := by
    rintro k (h | ⟨id, _, h⟩)
    · exact h.1
    · exact OB.lt (hr.objs id) rfl h
  obtain ⟨hargs, hbk, hlv⟩ := pkArgs_R (vw_row hvw) hr.objs (ok' := okc) (fun _ => .inl) hx ha1 fun id hi k hk => .inr ⟨id, hi, hk⟩
  have hcall := hsp.run x y hy w _ okc [] hokc hargs List.nodup_nil (by simp)
  refine ⟨_, _, _, hv, ?_⟩
  intro next Q hn
  have hrun : (execOp a.eval o).run P w = .ok (.enter gf (args.toList.map a.eval).toArray) w := by
    have : (args.map a.eval) = (args.toList.map a.eval).toArray := by
      apply Array.ext'
      simp only [Array.toList_map]
    simp only [execOp, ho, resolve, vf, Deferred.ofValue, Sem.run_bind, Sem.run_pure, Result.andThen_ok, invoke, Array.empty_append, Array.append_empty, hsp.ent, this]
  unfold Oper.wp
  rw [hrun]
  refine hcall.mono fun e w' hpost => ?_
  obtain ⟨rs, bs, ok', rfl, hrl, houts, hnd, hge0, hok', hbelO⟩ := hpost
  have hbel : Below w.heap.size w w' := hbelO.below rfl
  have hge : ∀ b ∈ bs, w.heap.size ≤ b := fun b hb => by rcases hge0 b hb with h | h; cases h; exact h
  show next (a.put o.dst (retV rs)) w'
  rw [hlv, List.append_nil] at houts
  let ids' := bif retains sp.outs then ids else []
  have hids' : ∀ id ∈ ids', id ∈ ids := by
    intro id hi
    simp only [ids'] at hi
    cases hh : retains sp.outs <;> rw [hh] at hi
    · cases hi
    · exact hi
  have hret : retains sp.outs = false → retains (sp.outs ++ backs sp.ins) = false := fun h => by rw [hbk, List.append_nil]; exact h
  obtain ⟨okz, hz0, houtz⟩ : ∃ okz : Nat → Prop, (∀ k, okz k → ok' k ∧ retains sp.outs = true) ∧ AR w' okz (sp.outs ++ backs sp.ins) y rs bs := by
    cases hany : retains sp.outs with
    | true => exact ⟨ok', fun k h => ⟨h, rfl⟩, houts⟩
    | false => exact ⟨fun _ => False, fun _ h => h.elim, AR_noSl (hret hany) houts⟩
  obtain ⟨gs, hg1, hg2, hg3, hg4, hg5, hg6⟩ := mkA_R (x := y) id0 houtz
  have hl8 : (mkA (sp.outs ++ backs sp.ins) y id0).2.length ≤ 8 := by rw [mkA_nob]; exact h8
  have hmem : ∀ (i : Nat) v k, gs[i]? = some v → blkOf v = some k → k ∈ bs := by
    intro i v k hv' hk
    have hlt : i < (mkA (sp.outs ++ backs sp.ins) y id0).2.length := by rw [← hg1]; exact (List.getElem?_eq_some_iff.1 hv').1
    exact hg2.subset (ownsL_mem (List.getElem?_eq_getElem hlt) hv' ((hg3 i _ v (List.getElem?_eq_getElem hlt) hv').trans hk))
  have hblk : ∀ (i : Nat) v k, gs[i]? = some v → blkOf v = some k → w.heap.size ≤ k := fun i v k h1 h2 => hge k (hmem i v k h1 h2)
  have hdis : ∀ (i j : Nat) v u k, gs[i]? = some v → gs[j]? = some u → blkOf v = some k → blkOf u = some k → i = j := by
    intro i j v u k h1 h2 h3 h4
    have hi : i < (mkA (sp.outs ++ backs sp.ins) y id0).2.length := by rw [← hg1]; exact (List.getElem?_eq_some_iff.1 h1).1
    have hj : j < (mkA (sp.outs ++ backs sp.ins) y id0).2.length := by rw [← hg1]; exact (List.getElem?_eq_some_iff.1 h2).1
    exact ownsL_inj (hnd.sublist hg2) (List.getElem?_eq_getElem hi) h1 ((hg3 i _ v (List.getElem?_eq_getElem hi) h1).trans h3) (List.getElem?_eq_getElem hj) h2 ((hg3 j _ u (List.getElem?_eq_getElem hj) h2).trans h4)
  have hrow' : ∀ id ∈ ids', (s.H id).rb = true := fun id hi => (hids id (hids' id hi)).2
  have hfr' : ∀ id ∈ ids', ¬ fr id := fun id hi => (hids id (hids' id hi)).1
  obtain ⟨ok1, ok2, ok3, ok4⟩ := commit_ok hr id0 (mkA (sp.outs ++ backs sp.ins) y id0).2 ids' gs hg1 hl8 hfr hrow' hbel hblk
  have hG : ∀ (i : Nat) v, gs[i]? = some v → newG g id0 gs (id0 + i) = v := by
    intro i v hv'
    have hlt := (List.getElem?_eq_some_iff.1 hv').1
    unfold newG
    rw [if_pos ⟨by omega, by omega⟩, List.getD_eq_getElem?_getD, Nat.add_sub_cancel_left, hv']; rfl
  have hH : ∀ (i : Nat) o, (mkA (sp.outs ++ backs sp.ins) y id0).2[i]? = some o → setObs (frz s.H ids') id0 (mkA (sp.outs ++ backs sp.ins) y id0).2 (id0 + i) = o := fun i o ho => (setObs_at _ _ id0 _).1 i o ho rfl
  have hz1 : ∀ k, okz k → okB B (newG g id0 gs) (setObs (frz s.H ids') id0 (mkA (sp.outs ++ backs sp.ins) y id0).2) w' k := by
    intro k hk0
    obtain ⟨hk, hany⟩ := hz0 k hk0
    obtain ⟨h1, h2, h3⟩ := hok' k hk
    have hidseq : ids' = ids := by simp only [ids', hany, cond_true]
    rcases h1 with (h1 | ⟨id, hi, h1⟩) | h1 | h1
    · exact ok1 k h1
    · exact ok3 id (hidseq ▸ hi) k h1
    · cases h1
    · refine ok2 k h1 h2 fun v hv' hb => ?_
      obtain ⟨i, hi, e⟩ := List.getElem_of_mem hv'
      exact h3 (hmem i v k (by rw [List.getElem?_eq_getElem hi, e]) hb)
  obtain ⟨r1, r2⟩ := hg4 (newG g id0 gs) (setObs (frz s.H ids') id0 (mkA (sp.outs ++ backs sp.ins) y id0).2) hG hH
  have hrel := Rel.commit hr id0 (mkA (sp.outs ++ backs sp.ins) y id0).2 ids' gs hg1 hl8 hfr hfr' hrow' hbel hblk hdis (fun o ho j hj hf => by
    have := hg6 o ho j hj
    exact hf.2 ⟨this.1, by omega⟩) (fun i o ho => OB.mono (fun k hk => ⟨hz1 k hk, rfl⟩) rfl (hH i o ho) (fun _ _ => rfl) (fun _ _ => .inr ⟨rfl, rfl⟩) (r2 i o ho))
  obtain ⟨q1, q2⟩ := resD_R r1
  have hput := hrel.put_ (dst := o.dst) hd (DR.mono (fun k hk => ⟨hz1 k hk, rfl⟩) (fun _ _ => .inr ⟨rfl, rfl⟩) q1) (fun id hi hl => by
    obtain ⟨d', hd', hi'⟩ := q2 id hi
    have := hg5 d' hd' id hi'
    exact hl.2 ⟨this.1, by omega⟩)
  refine hn (newG g id0 gs) _ _ ?_
  have e : s.commit o.dst id0 (resD (mkA (sp.outs ++ backs sp.ins) y id0).1) (mkA (sp.outs ++ backs sp.ins) y id0).2 ids' = ({ s with H := setObs (frz s.H ids') id0 (mkA (sp.outs ++ backs sp.ins) y id0).2, dt := ids' ++ s.dt } : S).put o.dst (resD (mkA (sp.outs ++ backs sp.ins) y id0).1) := by
    unfold S.commit S.put
    cases o.dst <;> rfl
  show Rel B nt (less fr id0) (s.commit o.dst id0 (resD (mkA (sp.outs ++ backs sp.ins) y id0).1) (mkA (sp.outs ++ backs sp.ins) y id0).2 ids') _ _ _
  rw [e]; exact hput

theorem LR_one : ∀ {ls : List L} {cs : List Value}, ls.all L.solid = true → All2 (LR g H w ok) ls cs → ∀ u ∈ cs, u.oneCell' = true
  | [], [], _, _, u, hu => by cases hu
  | l :: ls, c :: cs, hs, h, u, hu => by
    simp only [List.all_cons, Bool.and_eq_true] at hs
    rcases List.mem_cons.1 hu with rfl | hu
    · exact solid_one hs.1 h.1
    · exact LR_one hs.2 h.2 u hu
  | [], _ :: _, _, h, _, _ => h.elim
  | _ :: _, [], _, h, _, _ => h.elim

theorem v_idn (hr : Rel B nt fr s g a w) (hfr : ∀ j, id0 ≤ j → j < id0 + 8 → fr j) (hd : dstOk nt o.dst = true) {f : Operand} {args : Array Operand} {tys : Array TypeId}
    (ho : o.op = .call { callee := .value f, args := args, argTypes := tys }) {gf : Nat} (hf : evD s.e f = .one (.fn gf)) {sp : Sp} (hsp : Sound P gf sp) {n : Nat} (hi : sp.idN = some n) {ls : List L} (hn0 : ls.length = n ∧ ls.all L.solid = true)
    (ha : args.toList.map (evD s.e) = [.v (.agg ls)]) (hv : k (.v (.agg ls)) [] [] = some r) : Goal P B nt fr id0 s a w o k r := by
  obtain ⟨hfv, _⟩ := ev_R hr f
  rw [hf] at hfv
  have vf : a.eval f = .func (.func gf) #[] #[] := hfv
  obtain ⟨ha1, ha2⟩ := args_R hr args.toList
  rw [ha] at ha1 ha2
  obtain ⟨v, rest, hvs, hd0, hrest⟩ := ha1.cons_l
  have hrest0 : rest = [] := All2.nil_l hrest
  subst hrest0
  obtain ⟨cs, rfl, hcs⟩ := (show D0R g s.H w (okB B g s.H w) (.agg ls) v from hd0)
  refine ⟨_, _, _, hv, ?_⟩
  intro next Q hn
  have hrun : (execOp a.eval o).run P w = .ok (.enter gf #[.agg cs]) w := by
    have : (args.map a.eval) = #[.agg cs] := by
      apply Array.ext'
      simp only [Array.toList_map, hvs]
    simp only [execOp, ho, resolve, vf, Deferred.ofValue, Sem.run_bind, Sem.run_pure, Result.andThen_ok, invoke, Array.empty_append, Array.append_empty, hsp.ent, this]
  unfold Oper.wp
  rw [hrun]
  have hsz : cs.size = n := by rw [← hn0.1, hcs.len]; simp
  refine (hsp.idn n hi w cs hsz (LR_one hn0.2 hcs)).mono fun e w' hpost => ?_
  obtain ⟨rfl, hbel⟩ := hpost
  show next (a.put o.dst (.agg cs)) w'
  obtain ⟨ok1, _, _, ok4⟩ := commit_ok hr id0 [] [] [] rfl (by simp) hfr (by simp) hbel (by simp)
  have hrel := Rel.commit hr id0 [] [] [] rfl (by simp) hfr (by simp) (by simp) hbel (by simp) (by simp) (by simp) (by simp)
  have hput := hrel.put_ (dst := o.dst) (d := .v (.agg ls)) (v := .agg cs) hd (DR.mono (fun k hk => ⟨ok1 k hk, hbel.block k hk.1⟩) (fun id hi => ok4 id (ha2 _ (.head _) id hi)) (show DR g s.H w (okB B g s.H w) (.v (.agg ls)) (.agg cs) from ⟨cs, rfl, hcs⟩)) (fun id hi hl => ha2 _ (.head _) id hi hl.1)
  refine hn (newG g id0 []) _ _ ?_
  have e : s.commit o.dst id0 (.v (.agg ls)) [] [] = ({ s with H := setObs (frz s.H []) id0 [], dt := [] ++ s.dt } : S).put o.dst (.v (.agg ls)) := by
    unfold S.commit S.put
    cases o.dst <;> rfl
  rw [e]; exact hput

end
end Go.Proofs.Fr

/- Each operation that writes nothing does what its plain form says. -/
namespace Go.Proofs.Fr
open Go Go.RowKit

variable {P : Program} {B : Bs} {nt : Nat} {fr : Nat → Prop} {s : S} {g : Nat → Value} {a : Act} {w w' : World} {R : Type} {H : Nat → Ob} {ok ok' : Nat → Prop}
section
variable {o : Oper} {T : Nat → List Sp} {id0 : Nat} {k : D → List Ob → List Nat → Option R} {r : R} {vw : Nat → Vw}

theorem v_makeSlice (hr : Rel B nt fr s g a w) (hfr : ∀ j, id0 ≤ j → j < id0 + 8 → fr j) (hd : dstOk nt o.dst = true) {T e : TypeId} {x y : Operand} (ho : o.op = .makeSlice T x y) {l c : Int} (hx : evD s.e x = .one (.int .i64 l)) (hy : evD s.e y = .one (.int .i64 c))
    (hT : P.underlying T = some (.slice e)) {ti : TI} (hti : tinfo P e = some ti) {t : Ty} {zl : List L} (hz : lits ti.zero.cells.toList = some zl) {z : t.den} (hp : pjAll (fun _ => .no) t zl = some (z, []))
    (h2 : ti.size = t.sz) (h3 : 0 < t.sz) (h4 : 0 < ti.bytes) (h0 : 0 ≤ l) (h1 : l ≤ c) (h5 : c ≤ ((maxBytes / ti.bytes : Nat) : Int)) (hv : k (.one (.own id0)) [.row e t (List.replicate l.toNat z)] [] = some r) : Goal P B nt fr id0 s a w o k r := by
  obtain ⟨a1, _⟩ := ev_R hr x
  obtain ⟨a2, _⟩ := ev_R hr y
  rw [hx] at a1
  rw [hy] at a2
  have vx : a.eval x = .int .i64 l := a1
  have vy : a.eval y = .int .i64 c := a2
  obtain ⟨hu, it, hit, hz', hsz, hby⟩ := tinfo_facts hti
  obtain ⟨z1, z2⟩ := lits_LR (g := g) (H := fun _ => .gone) (w := w) (ok := fun _ => False) hz
  have hen : En w (fun _ => False) t z ti.zero.cells.toList := pjAll_En (H := fun _ => .gone) (ok' := fun _ => False) (by intro _ _ _ _ h; cases h) (fun _ => trivial) (fun _ h => h) hp z1 (by simp)
  have hc0 : 0 ≤ c := Int.le_trans h0 h1
  have hcb : c.toNat ≤ maxBytes / ti.bytes := by omega
  have hmul : c.toNat * ti.bytes ≤ maxBytes := (Nat.le_div_iff_mul_le h4).1 hcb
  have hm : c.toNat ≤ maxBytes := Nat.le_trans (Nat.le_mul_of_pos_right _ h4) hmul
  have hbytes : (it.bytes : Int) * c ≤ 281474976710656 := by
    have h6 : ((ti.bytes * c.toNat : Nat) : Int) ≤ maxBytes := by rw [Nat.mul_comm]; omega
    have h7 : (c.toNat : Int) = c := by omega
    rw [Int.natCast_mul, h7, ← hby] at h6
    unfold maxBytes at h6
    omega
  have hrun := run_make (P := P) w T e it ti.zero hT hit hz' .i64 .i64 l c h0 h1 hbytes (by unfold maxBytes at hm; omega)
  have hcs : ti.zero.cells.size = t.sz := by rw [← Array.length_toList]; exact hen.len
  refine ⟨_, _, _, hv, row_eff (cells := madeCells ti.zero.cells (c.toNat * it.size)) (cap := c.toNat) hd hr hfr (ids := []) (by simp) (by simp) (by rw [List.length_replicate]; omega) (by unfold maxBytes at hm; unfold maxLen; omega) (by rw [size_madeCells, hsz, h2]) (fun ok' ho1 _ => ?_) ?_⟩
  · refine ⟨List.replicate l.toNat ti.zero.cells.toList, All2.of_get (by simp) fun i hi hi' => ?_, ?_⟩
    · simp only [List.getElem_replicate]
      exact En.mono (fun k hk => hk.elim) hen
    · rw [List.length_replicate, hsz, h2]
      apply List.ext_getElem?
      intro i
      have fl : ∀ (n : Nat) (q : List Value) (sz : Nat), q.length = sz → 0 < sz → ∀ i, i < n * sz → (List.replicate n q).flatten[i]? = q[i % sz]? := by
        intro n q sz hq hpos
        induction n with
        | zero => intro i hi; simp at hi
        | succ n ih =>
          intro i hi
          rw [List.replicate_succ, List.flatten_cons]
          by_cases hlt : i < q.length
          · rw [List.getElem?_append_left hlt, Nat.mod_eq_of_lt (hq ▸ hlt)]
          · rw [List.getElem?_append_right (by omega), ih (i - q.length) (by rw [Nat.add_mul] at hi; omega), hq, ← Nat.mod_eq_sub_mod (by omega)]
      by_cases hi : i < l.toNat * t.sz
      · have hle : l.toNat * t.sz ≤ c.toNat * t.sz := Nat.mul_le_mul_right _ (by omega)
        rw [List.getElem?_take_of_lt hi, fl l.toNat ti.zero.cells.toList t.sz (by rw [Array.length_toList, hcs]) h3 i hi]
        have hmod : i % t.sz < ti.zero.cells.size := by rw [hcs]; exact Nat.mod_lt _ h3
        have hi2 : i < c.toNat * t.sz := by omega
        simp only [madeCells, Array.toList_map, Array.toList_range, List.getElem?_map, List.getElem?_range hi2, Option.map_some, hcs]
        rw [getElem!_pos ti.zero.cells _ hmod]
        simp [hmod]
      · rw [List.getElem?_eq_none (by simp only [List.length_take]; omega), List.getElem?_eq_none]
        have : (List.replicate l.toNat ti.zero.cells.toList).flatten.length = l.toNat * t.sz := by simp [hcs]
        omega
  · rw [List.length_replicate]
    simp only [execOp, ho, vx, vy, Sem.run_bind, hrun, Result.andThen_ok, Sem.run_pure]
    simp

theorem nums_en {E : Nat} {xs : List Int} {A : Option Addr} {n c : Nat} (h : En w ok (.sl E (.int .u8)) xs [.slice A n c]) : n = xs.length ∧ ((∃ kb oo, A = some ⟨kb, oo, none⟩ ∧ ∀ i, i < n → w.cell? ⟨kb, oo + i, none⟩ = some (.int .u8 (xs.getD i 0))) ∨ xs = []) := by
  obtain ⟨A', c', he, _, hr⟩ := h
  simp only [List.cons.injEq, Value.slice.injEq, and_true] at he
  obtain ⟨rfl, rfl, rfl⟩ := he
  refine ⟨rfl, ?_⟩
  cases xs with
  | nil => exact .inr rfl
  | cons x xs =>
    obtain ⟨kb, oo, _, hA, _⟩ := hr 0 (by simp)
    refine .inl ⟨kb, oo, hA, fun i hi => ?_⟩
    obtain ⟨kb', oo', cs, hA', _, hen, hcell⟩ := hr i hi
    rw [hA] at hA'; cases hA'
    have hcs : cs = [.int .u8 ((x :: xs)[i]'hi)] := hen
    have := hcell 0 (by rw [hcs]; simp)
    simp only [hcs, Ty.sz, Nat.mul_one, Nat.add_zero, List.getElem_cons_zero] at this
    rw [this, List.getD_eq_getElem?_getD, List.getElem?_eq_getElem hi]; rfl

theorem conv_str {src dst e : TypeId} (hs : P.underlying src = some (.slice e)) (hd : P.underlying dst = some .string) (he : P.underlying e = some (.int .u8)) {E : Nat} {xs : List Int} {A : Option Addr} {n c : Nat}
    (h : En w ok (.sl E (.int .u8)) xs [.slice A n c]) : (convert src dst (.slice A n c)).run P w = .ok (.string (strOfNums xs)) w := by
  obtain ⟨hn, h | h⟩ := nums_en h
  · obtain ⟨kb, oo, rfl, hc⟩ := h
    exact run_convert_bytes_arg w src e hs he kb oo n c xs hn.symm hc dst hd
  · subst h
    have : n = 0 := hn
    subst this
    cases A with
    | none => rw [run_convert_bytes_nil w src e hs he 0 c dst hd]; rfl
    | some ad =>
      rw [run_convert_bytes_string w src dst e _ 0 c hs he hd]
      simp [Conv.bytesToString, loadCells, loadCellsFrom]
      rfl

theorem v_conv (hvw : ∀ id, vw id = .no ∨ vw id = (s.H id).vw) (hr : Rel B nt fr s g a w) (hfr : ∀ j, id0 ≤ j → j < id0 + 8 → fr j) (hd : dstOk nt o.dst = true) {src dst : TypeId} {x : Operand} (ho : o.op = .convert src dst x)
    (hv : convK P src dst vw (evD s.e x) (fun l => k (.one l) [] []) = some r) : Goal P B nt fr id0 s a w o k r := by
  obtain ⟨a1, _⟩ := ev_R hr x
  have fin : ∀ (l : L), l.simple = true → (convert src dst (a.eval x)).run P w = .ok (valOf l) w → k (.one l) [] [] = some r → Goal P B nt fr id0 s a w o k r :=
    fun l hs hb hk => ⟨.one l, [], [], hk, eff_pure hd hr (by simp [execOp, ho, hb]) (simple_LR hs).1 (one_ids (simple_LR (g := g) (H := s.H) (w := w) (ok := fun _ => True) hs).2)⟩
  unfold convK at hv
  split at hv
  · rename_i d1 kk kx n e1 e2 e3
    rw [e3] at a1
    rw [show a.eval x = .int kx n from a1] at fin
    refine fin _ rfl ?_ hv
    simp only [convert, Sem.run_bind, run_underlying e1, run_underlying e2, Result.andThen_ok]
    cases d1 <;> rfl
  · rename_i d1 st e1 e2 e3
    rw [e3] at a1
    rw [show a.eval x = .string st from a1] at fin
    refine fin _ rfl ?_ hv
    simp only [convert, Sem.run_bind, run_underlying e1, run_underlying e2, Result.andThen_ok]
    cases d1 <;> rfl
  · rename_i d1 e st e1 e2 e3
    split at hv
    · rename_i he
      split at hv
      · rename_i hsz
        rw [e3] at a1
        have vx : a.eval x = .string st := a1
        refine ⟨_, _, _, hv, ?_⟩
        have hbel : Below w.heap.size w (Lib.bytesWorld w e st) := ⟨rfl, rfl, rfl, by rw [Lib.bytesWorld_size]; omega, fun i hi => Lib.bytesWorld_at_old w e st i hi⟩
        obtain ⟨ok1, ok2, ok3, ok4⟩ := commit_ok hr id0 [] [] [] rfl (by simp) hfr (by simp) hbel (by simp)
        have hrel := Rel.commit hr id0 [] [] [] rfl (by simp) hfr (by simp) (by simp) hbel (by simp) (by simp) (by simp) (by simp)
        rw [newG_nil] at ok1 ok2 ok3 ok4 hrel
        refine eff_val (g' := g) (v := .slice (some ⟨w.heap.size, 0, none⟩) st.size (grownCap w st.size 0 e)) hd ?_ hrel ?_ (fun id h => by simp [D.ids, D0.ids, D0.ls, L.ids] at h)
        · have := Lib.run_convert_string_bytes w src dst e st e1 e2 he
          simp [execOp, ho, vx, this]
        · have hlen : (bytesS st).length = st.size := by unfold bytesS; rw [List.length_map, Array.length_toList]; rfl
          refine ⟨_, _, by rw [hlen], by rw [hlen]; exact grownCap_ge _ _ _ _, fun i hi => ?_⟩
          have hi' : i < st.size := hlen ▸ hi
          refine ⟨w.heap.size, 0, [.int .u8 ((bytesS st)[i]'hi)], rfl, ok2 _ (Nat.le_refl _) (by rw [Lib.bytesWorld_size]; omega) (by simp), rfl, fun j hj => ?_⟩
          have hj0 : j = 0 := by simpa using hj
          subst hj0
          have := Lib.bytesWorld_cell w e st i hi'
          simp only [Ty.sz, Nat.mul_one, Nat.zero_add, Nat.add_zero, List.getElem_cons_zero]
          rw [this]
          have hil : i < st.data.toList.length := by rw [Array.length_toList]; exact hi'
          simp only [bytesS, List.getElem_map, List.getD_eq_getElem?_getD, List.getElem?_eq_getElem hil, Option.getD_some]
      · cases hv
    · cases hv
  · rename_i e l e1 e2 e3
    split at hv
    · rename_i he
      split at hv
      · rename_i xs hn
        rw [e3] at a1
        refine fin _ rfl ?_ hv
        unfold numsOf at hn
        split at hn
        · rename_i E t ys
          split at hn
          · rename_i ht; subst ht; cases hn
            obtain ⟨A, c, hva, hc, hrr⟩ := a1
            simp only [List.cons.injEq, and_true] at hva
            rw [hva]
            exact conv_str e1 e2 he (show En w (okB B g s.H w) (.sl E (.int .u8)) ys [.slice A ys.length c] from ⟨A, c, rfl, hc, hrr⟩)
          · cases hn
        · cases hn
          rw [show a.eval x = .slice none 0 0 from a1, run_convert_bytes_nil w src _ e1 he 0 0 dst e2]; rfl
        · rename_i id
          split at hn
          · rename_i E t ys hvi
            split at hn
            · rename_i ht; subst ht; cases hn
              obtain ⟨hva, hv', A, c, hsl⟩ := own_len hvw hr hvi a1
              have hen : En w (fun _ => True) (.sl E (.int .u8)) ys [g id] := OB.en (ok' := fun _ => True) (hr.objs id) hv' (fun _ _ => trivial) (fun _ _ => trivial)
              rw [← hva, hsl] at hen
              rw [hsl]
              exact conv_str e1 e2 he hen
            · cases hn
          · cases hn
        · rename_i id m
          split at hn
          · rename_i E t ys hvi
            split at hn
            · rename_i ht; subst ht; cases hn
              obtain ⟨hv', hn', A, c, hg, hva⟩ := cut_len hvw hr hvi a1
              have hen : En w (fun _ => True) (.sl E (.int .u8)) ys [g id] := OB.en (ok' := fun _ => True) (hr.objs id) hv' (fun _ _ => trivial) (fun _ _ => trivial)
              rw [hg] at hen
              rw [hva]
              exact conv_str e1 e2 he (hen.take_ hn')
            · cases hn
          · cases hn
        · rename_i id lo hi
          split at hn
          · rename_i E t ys hvi
            split at hn
            · rename_i ht; subst ht; cases hn
              obtain ⟨hv', hn', _, A, c, hg, hva, _⟩ := vi_len hvw hr hvi a1
              have hen0 : En w (fun _ => True) (.sl E (.int .u8)) ys [g id] := OB.en (ok' := fun _ => True) (hr.objs id) hv' (fun _ _ => trivial) (fun _ _ => trivial)
              have hen := vi_en (ok := okB B g s.H w) hen0 (sh_of_vw hv') a1
              rw [hva] at hen ⊢
              exact conv_str e1 e2 he hen
            · cases hn
          · cases hn
        · cases hn
      · cases hv
    · cases hv
  · cases hv

theorem bndOf_R (hr : Rel B nt fr s g a w) {x : Operand} {n : Int} (h : bndOf (evD s.e x) = some n) : ∃ kk, a.eval x = .int kk n := by
  obtain ⟨h1, _⟩ := ev_R hr x
  unfold bndOf at h
  split at h
  · rename_i kk m e
    cases h
    rw [e] at h1
    exact ⟨kk, h1⟩
  · cases h

theorem lhOf_R (hr : Rel B nt fr s g a w) {lo hi : Option Operand} {l : Int} {h? : Option Int} (h : lhOf lo hi ((lo.toList ++ hi.toList).map (evD s.e)) = some (l, h?)) (len : Nat) :
    ((lo.map a.eval = none ∧ l = 0) ∨ ∃ kk, lo.map a.eval = some (.int kk l)) ∧ ((hi.map a.eval = none ∧ h?.getD (len : Int) = len) ∨ ∃ kk, hi.map a.eval = some (.int kk (h?.getD (len : Int)))) := by
  cases lo with
  | none =>
    cases hi with
    | none => simp only [lhOf] at h; cases h; exact ⟨.inl ⟨rfl, rfl⟩, .inl ⟨rfl, rfl⟩⟩
    | some y =>
      simp only [lhOf, Option.toList_none, Option.toList_some, List.nil_append, List.map_cons, List.map_nil] at h
      split at h
      · rename_i n hn
        cases h
        obtain ⟨kk, e⟩ := bndOf_R hr hn
        exact ⟨.inl ⟨rfl, rfl⟩, .inr ⟨kk, by simp [e]⟩⟩
      · cases h
  | some x =>
    cases hi with
    | none =>
      simp only [lhOf, Option.toList_none, Option.toList_some, List.append_nil, List.map_cons, List.map_nil] at h
      split at h
      · rename_i n hn
        cases h
        obtain ⟨kk, e⟩ := bndOf_R hr hn
        exact ⟨.inr ⟨kk, by simp [e]⟩, .inl ⟨rfl, rfl⟩⟩
      · cases h
    | some y =>
      simp only [lhOf, Option.toList_some, List.cons_append, List.nil_append, List.map_cons, List.map_nil] at h
      split at h
      · rename_i m n hm hn
        cases h
        obtain ⟨kk, e⟩ := bndOf_R hr hm
        obtain ⟨kk', e'⟩ := bndOf_R hr hn
        exact ⟨.inr ⟨kk, by simp [e]⟩, .inr ⟨kk', by simp [e']⟩⟩
      · cases h

end
end Go.Proofs.Fr

/- All operations that write nothing. -/
namespace Go.Proofs.Fr
open Go Go.RowKit

variable {P : Program} {B : Bs} {nt : Nat} {fr : Nat → Prop} {s : S} {g : Nat → Value} {a : Act} {w w' : World} {R : Type} {H : Nat → Ob} {ok ok' : Nat → Prop}
section
variable {o : Oper} {T : Nat → List Sp} {id0 : Nat} {k : D → List Ob → List Nat → Option R} {r : R} {vw : Nat → Vw}

theorem lhmOf_R (hr : Rel B nt fr s g a w) {lo hi : Option Operand} {mx : Operand} {l h m : Int} (e : lhmOf lo hi ((lo.toList ++ hi.toList ++ [mx]).map (evD s.e)) = some (l, h, m)) :
    ((lo.map a.eval = none ∧ l = 0) ∨ ∃ kk, lo.map a.eval = some (.int kk l)) ∧ (∃ kk, hi.map a.eval = some (.int kk h)) ∧ ∃ kk, a.eval mx = .int kk m := by
  cases hi with
  | none => cases lo <;> simp only [lhmOf] at e <;> cases e
  | some y =>
    cases lo with
    | none =>
      simp only [lhmOf, Option.toList_none, Option.toList_some, List.nil_append, List.cons_append, List.map_cons, List.map_nil] at e
      split at e
      · rename_i n n' hn hn'
        cases e
        obtain ⟨kk, e1⟩ := bndOf_R hr hn
        obtain ⟨kk', e2⟩ := bndOf_R hr hn'
        exact ⟨.inl ⟨rfl, rfl⟩, ⟨kk, by simp [e1]⟩, kk', e2⟩
      · cases e
    | some x =>
      simp only [lhmOf, Option.toList_some, List.nil_append, List.cons_append, List.map_cons, List.map_nil] at e
      split at e
      · rename_i n n' n'' hn hn' hn''
        cases e
        obtain ⟨kk, e1⟩ := bndOf_R hr hn
        obtain ⟨kk', e2⟩ := bndOf_R hr hn'
        obtain ⟨kk'', e3⟩ := bndOf_R hr hn''
        exact ⟨.inr ⟨kk, by simp [e1]⟩, ⟨kk', by simp [e2]⟩, kk'', e3⟩
      · cases e

theorem v_slice (hvw : ∀ id, vw id = .no ∨ vw id = (s.H id).vw) (hr : Rel B nt fr s g a w) (hfr : ∀ j, id0 ≤ j → j < id0 + 8 → fr j) (hd : dstOk nt o.dst = true) {T0 : TypeId} {x : Operand} {lo hi mx : Option Operand} (ho : o.op = .slice T0 x lo hi mx)
    (hv : valK P T id0 vw (.slice T0 x lo hi mx) (evD s.e x :: (lo.toList ++ hi.toList ++ mx.toList).map (evD s.e)) k = some r) : Goal P B nt fr id0 s a w o k r := by
  cases hx : evD s.e x with
  | tup q => rw [hx] at hv; simp only [valK] at hv; cases hv
  | v d => cases d with
    | agg ls => rw [hx] at hv; simp only [valK] at hv; cases hv
    | one l0 =>
      rw [hx] at hv
      cases mx with
      | some m =>
        simp only [valK] at hv
        split at hv
        · rename_i l h mm e n h1 h2 h3
          split at hv
          · rename_i hc
            split at hv
            · rename_i hb
              obtain ⟨q1, q2, q3⟩ := lhmOf_R hr h1
              exact v_slice3 hvw hr hd ho hx h2 h3 hc.1 hc.2 q1 q2 q3 hb.1 hb.2.1 hb.2.2.1 hb.2.2.2 hv
            · cases hv
          · cases hv
        · cases hv
      | none =>
        simp only [valK, Option.toList_none, List.append_nil] at hv
        split at hv
        · cases hv
        · rename_i l h? hlh
          split at hv
          · rename_i st e1
            split at hv
            · rename_i hb
              obtain ⟨hb0, hb1, hb2⟩ := hb
              obtain ⟨h1, h2⟩ := lhOf_R hr hlh st.size
              exact v_sliceStr hr hd ho hx e1 h1 h2 hb0 hb1 hb2 hv
            · cases hv
          · rename_i e E t xs e1
            split at hv
            · rename_i hs
              split at hv
              · rename_i hb
                obtain ⟨hb0, hb1, hb2⟩ := hb
                obtain ⟨h1, h2⟩ := lhOf_R hr hlh xs.length
                exact v_sliceRow hr hd ho e1 hx hs h1 h2 hb0 hb1 hb2 hv
              · cases hv
            · cases hv
          · rename_i e id e1
            split at hv
            · rename_i E t xs hvi
              split at hv
              · rename_i hs
                obtain ⟨h1, h2⟩ := lhOf_R hr hlh xs.length
                cases lo with
                | none =>
                  simp only [Option.isNone_none, cond_true] at hv
                  split at hv
                  · rename_i hb
                    exact v_sliceCut (m := xs.length) hvw hr hd ho hx e1 hs h2 hb.1 hb.2 (.inl ⟨rfl, rfl⟩) hvi hv
                  · cases hv
                | some lo =>
                  simp only [Option.isNone_some, cond_false] at hv
                  split at hv
                  · rename_i hb
                    obtain ⟨hb0, hb1, hb2⟩ := hb
                    exact v_sliceVi (m := xs.length) (b0 := 0) hvw hr hd ho hx e1 hs h1 h2 hb0 hb1 (.inl ⟨rfl, rfl, rfl, hb2⟩) hvi (by rw [Nat.zero_add, Nat.zero_add]; exact hv)
                  · cases hv
              · cases hv
            · cases hv
          · rename_i e id m e1
            split at hv
            · rename_i E t xs hvi
              split at hv
              · rename_i hs
                obtain ⟨h1, h2⟩ := lhOf_R hr hlh m
                cases lo with
                | none =>
                  simp only [Option.isNone_none, cond_true] at hv
                  split at hv
                  · rename_i hb
                    exact v_sliceCut (m := m) hvw hr hd ho hx e1 hs h2 hb.1 hb.2 (.inr rfl) hvi hv
                  · cases hv
                | some lo =>
                  simp only [Option.isNone_some, cond_false] at hv
                  split at hv
                  · rename_i hb
                    obtain ⟨hb0, hb1, hb2⟩ := hb
                    exact v_sliceVi (m := m) (b0 := 0) hvw hr hd ho hx e1 hs h1 h2 hb0 hb1 (.inr (.inl ⟨rfl, rfl, hb2⟩)) hvi (by rw [Nat.zero_add, Nat.zero_add]; exact hv)
                  · cases hv
              · cases hv
            · cases hv
          · rename_i e id b0 hi0 e1
            split at hv
            · rename_i E t xs hvi
              split at hv
              · rename_i hs
                obtain ⟨h1, h2⟩ := lhOf_R hr hlh (hi0 - b0)
                split at hv
                · rename_i hb
                  obtain ⟨hb0, hb1, hb2⟩ := hb
                  exact v_sliceVi (m := hi0 - b0) (b0 := b0) hvw hr hd ho hx e1 hs h1 h2 hb0 hb1 (.inr (.inr ⟨hi0, rfl, rfl, hb2⟩)) hvi hv
                · cases hv
              · cases hv
            · cases hv
          · rename_i n e id off e1
            split at hv
            · rename_i Tb ls ti t hvb hti ht
              split at hv
              · rename_i hc
                obtain ⟨h1, h2⟩ := lhOf_R hr hlh n
                split at hv
                · rename_i hb
                  obtain ⟨hb0, hb1, hb2⟩ := hb
                  split at hv
                  · rename_i q hq
                    split at hv
                    · rename_i xs ids hp
                      exact v_sliceArr hvw hr hfr hd ho hx e1 hvb hti hc.1 hc.2 h1 h2 hb0 hb1 hb2 hq hp hv
                    · cases hv
                  · cases hv
                · cases hv
              · cases hv
            · cases hv
          · rename_i e e1
            split at hv
            · rename_i hti
              obtain ⟨ti, hti⟩ := Option.isSome_iff_exists.1 hti
              split at hv
              · rename_i hb
                obtain ⟨hb0, hb1, hb2⟩ := hb
                obtain ⟨h1, h2⟩ := lhOf_R hr hlh 0
                exact v_sliceNil hr hd ho hx e1 hti h1 h2 hb0 hb1 hb2 hv
              · cases hv
            · cases hv
          · cases hv

theorem valK_sound (hT : ∀ f sp, sp ∈ T f → Sound P f sp) (hvw : ∀ id, vw id = .no ∨ vw id = (s.H id).vw) (hr : Rel B nt fr s g a w) (hfr : ∀ j, id0 ≤ j → j < id0 + 8 → fr j) (hd : dstOk nt o.dst = true)
    (hv : valK P T id0 vw o.op (o.op.operands.toList.map (evD s.e)) k = some r) : Goal P B nt fr id0 s a w o k r := by
  generalize ho : o.op = op at hv
  cases op with
  | move x => exact v_move hr hd (.inl ho) hv
  | assign x => exact v_move hr hd (.inr ho) hv
  | pick c x y =>
    simp only [Op.operands, List.map_cons, List.map_nil] at hv
    cases hc : evD s.e c with
    | tup q => rw [hc] at hv; simp only [valK] at hv; cases hv
    | v d => cases d with
      | agg q => rw [hc] at hv; simp only [valK] at hv; cases hv
      | one l =>
        rw [hc] at hv
        cases l <;> first | (simp only [valK] at hv; cases hv; done) | skip
        exact v_pick hr hd ho hc hv
  | build T0 parts =>
    simp only [Op.operands, valK] at hv
    split at hv
    · rename_i ps hps
      split at hv
      · rename_i ls hl
        exact v_build hr hd ho hps hl hv
      · cases hv
    · cases hv
  | buildSlice T0 len parts =>
    simp only [Op.operands, valK] at hv
    split at hv
    · rename_i e ps hT0 hps
      split at hv
      · rename_i ti t hti ht
        split at hv
        · rename_i zl hz
          split at hv
          · rename_i hc
            obtain ⟨h1, h2, h3⟩ := hc
            split at hv
            · rename_i ls hf
              split at hv
              · rename_i xs ids hp
                exact v_buildSlice hvw hr hfr hd ho hps hT0 hti hz h1 h2 h3 hf hp hv
              · cases hv
            · cases hv
          · cases hv
        · cases hv
      · cases hv
    · cases hv
  | box T0 x =>
    simp only [Op.operands, List.map_cons, List.map_nil] at hv
    cases hx : evD s.e x with
    | tup q => rw [hx] at hv; simp only [valK] at hv; cases hv
    | v d =>
      rw [hx] at hv
      simp only [valK] at hv
      split at hv
      · split at hv
        · rename_i hc
          exact v_box hr hfr hd ho hx hc.2 hv
        · cases hv
      · cases hv
  | alloc T0 =>
    simp only [Op.operands, List.map_nil, valK] at hv
    split at hv
    · rename_i ti hti
      split at hv
      · rename_i zl hz
        exact v_alloc hr hfr hd ho hti hz hv
      · cases hv
    · cases hv
  | load T0 x =>
    simp only [Op.operands, List.map_cons, List.map_nil] at hv
    cases hx : evD s.e x with
    | tup q => rw [hx] at hv; simp only [valK] at hv; cases hv
    | v d => cases d with
      | agg q => rw [hx] at hv; simp only [valK] at hv; cases hv
      | one l =>
        rw [hx] at hv
        simp only [valK] at hv
        split at hv
        · rename_i ti ls off hti hc
          split at hv
          · rename_i q hq
            split at hv
            · rename_i d hm
              exact v_load hvw hr hd ho hx hti hc hq hm hv
            · cases hv
          · split at hv
            · rename_i E t xs i
              cases hag : isAggD ti.desc with
              | false => rw [hag] at hv; simp only [Bool.false_and, cond_false] at hv; cases hv
              | true =>
                cases h1 : Nat.beq t.sz 1 with
                | false => rw [hag, h1] at hv; simp only [Bool.and_false, cond_false] at hv; cases hv
                | true =>
                  rw [hag, h1] at hv
                  simp only [Bool.and_self, cond_true] at hv
                  split at hv
                  · rename_i hn
                    exact v_loadRun hr hd ho hx hti hag (Nat.eq_of_beq_eq_true h1) hn hv
                  · cases hv
            · cases hv
        · cases hv
  | sliceToArrayPointer T0 x =>
    simp only [Op.operands, List.map_cons, List.map_nil] at hv
    cases hx : evD s.e x with
    | tup q => rw [hx] at hv; simp only [valK] at hv; cases hv
    | v d => cases d with
      | agg q => rw [hx] at hv; simp only [valK] at hv; cases hv
      | one l =>
        rw [hx] at hv
        cases l <;> first | (simp only [valK] at hv; cases hv; done) | skip
        rename_i E t xs
        simp only [valK] at hv
        split at hv
        · rename_i n e hT
          cases h0 : Nat.blt 0 n with
          | false => rw [h0] at hv; simp only [cond_false] at hv; cases hv
          | true =>
            rw [h0] at hv
            simp only [cond_true] at hv
            split at hv
            · rename_i hn
              exact v_arrPtr hr hd ho hx hT (by simpa [Nat.blt_eq] using h0) hn hv
            · cases hv
        · cases hv
  | nilCheck x =>
    simp only [Op.operands, List.map_cons, List.map_nil] at hv
    cases hx : evD s.e x with
    | tup q => rw [hx] at hv; simp only [valK] at hv; cases hv
    | v d => cases d with
      | agg q => rw [hx] at hv; simp only [valK] at hv; cases hv
      | one l =>
        rw [hx] at hv
        simp only [valK] at hv
        split at hv
        · rename_i hl
          exact v_nilCheck hvw hr hd ho hx (.inl hl) hv
        · split at hv
          · exact v_nilCheck hvw hr hd ho hx (.inr (.inl ⟨_, rfl⟩)) hv
          · rename_i id hnl
            split at hv
            · rename_i f ls hvc
              exact v_nilCheck hvw hr hd ho hx (.inr (.inr ⟨id, f, ls, rfl, hvc⟩)) hv
            · cases hv
          · cases hv
  | binOp op xT x y yT => exact v_bin hr hd ho hv
  | unOp op xT x => exact v_un hr hd ho hv
  | convert src dst x => exact v_conv hvw hr hfr hd ho hv
  | makeSlice T0 x y =>
    simp only [Op.operands, List.map_cons, List.map_nil] at hv
    cases e1 : evD s.e x with
    | tup q => rw [e1] at hv; simp only [valK] at hv; cases hv
    | v d => cases d with
      | agg q => rw [e1] at hv; simp only [valK] at hv; cases hv
      | one l =>
        rw [e1] at hv
        cases l <;> first | (simp only [valK] at hv; cases hv; done) | skip
        rename_i kl l
        cases kl <;> first | (simp only [valK] at hv; cases hv; done) | skip
        cases e2 : evD s.e y with
        | tup q => rw [e2] at hv; simp only [valK] at hv; cases hv
        | v d => cases d with
          | agg q => rw [e2] at hv; simp only [valK] at hv; cases hv
          | one q =>
            rw [e2] at hv
            cases q <;> first | (simp only [valK] at hv; cases hv; done) | skip
            rename_i kc c
            cases kc <;> first | (simp only [valK] at hv; cases hv; done) | skip
            simp only [valK] at hv
            split at hv
            · rename_i e hT0
              split at hv
              · rename_i ti t hti ht
                split at hv
                · rename_i zl hz
                  split at hv
                  · rename_i z hp
                    split at hv
                    · rename_i hc
                      split at hv
                      · rename_i hc2
                        exact v_makeSlice hr hfr hd ho e1 e2 hT0 hti hz hp hc.1 hc.2.1 hc.2.2 hc2.1 hc2.2.1 hc2.2.2 hv
                      · cases hv
                    · cases hv
                  · cases hv
                · cases hv
              · cases hv
            · cases hv
  | slice T0 x lo hi mx =>
    refine v_slice (T := T) hvw hr hfr hd ho ?_
    simpa [Op.operands] using hv
  | fieldAddr T0 x f =>
    simp only [Op.operands, List.map_cons, List.map_nil] at hv
    cases hx : evD s.e x with
    | tup q => rw [hx] at hv; simp only [valK] at hv; cases hv
    | v d => cases d with
      | agg q => rw [hx] at hv; simp only [valK] at hv; cases hv
      | one l =>
        rw [hx] at hv
        simp only [valK] at hv
        split at hv
        · rename_i fs hT0
          split at hv
          · rename_i fd hf
            split at hv
            · rename_i ti hti
              split at hv
              · cases hv
              · rename_i h0
                split at hv
                · rename_i hlv
                  split at hv
                  · rename_i l' hl
                    exact v_fieldAddr hr hd ho hx hT0 hf hti h0 hl hv hvw hlv
                  · cases hv
                · cases hv
            · cases hv
          · cases hv
        · cases hv
  | field T0 x f =>
    simp only [Op.operands, List.map_cons, List.map_nil] at hv
    cases hx : evD s.e x with
    | tup q => rw [hx] at hv; simp only [valK] at hv; cases hv
    | v d => cases d with
      | one q => rw [hx] at hv; simp only [valK] at hv; cases hv
      | agg ls =>
        rw [hx] at hv
        simp only [valK] at hv
        split at hv
        · rename_i fs hT0
          split at hv
          · rename_i fd hf
            split at hv
            · rename_i ti hti
              split at hv
              · rename_i q hq
                split at hv
                · rename_i d hm
                  exact v_field hr hd ho hx hT0 hf hti hq hm hv
                · cases hv
              · cases hv
            · cases hv
          · cases hv
        · cases hv
  | indexAddr T0 x y =>
    simp only [Op.operands, List.map_cons, List.map_nil] at hv
    cases e1 : evD s.e x with
    | tup q => rw [e1] at hv; simp only [valK] at hv; cases hv
    | v d => cases d with
      | agg q => rw [e1] at hv; simp only [valK] at hv; cases hv
      | one l =>
        rw [e1] at hv
        cases e2 : evD s.e y with
        | tup q => rw [e2] at hv; simp only [valK] at hv; cases hv
        | v d => cases d with
          | agg q => rw [e2] at hv; simp only [valK] at hv; cases hv
          | one q =>
            rw [e2] at hv
            cases q <;> first | (simp only [valK] at hv; cases hv; done) | skip
            rename_i kk n
            simp only [valK] at hv
            split at hv
            · rename_i e E t xs hT0
              split at hv
              · rename_i hs
                split at hv
                · rename_i hb
                  exact v_indexAddr hvw hr hd ho e1 e2 hT0 hs hb.1 hb.2 (.inl ⟨rfl, rfl, rfl⟩) hv
                · cases hv
              · cases hv
            · rename_i e id hT0
              split at hv
              · rename_i E t xs hvi
                split at hv
                · rename_i hs
                  split at hv
                  · rename_i hb
                    exact v_indexAddr hvw hr hd ho e1 e2 hT0 hs hb.1 hb.2 (.inr (.inl ⟨rfl, id, rfl, hvi, rfl⟩)) hv
                  · cases hv
                · cases hv
              · cases hv
            · rename_i e id m hT0
              split at hv
              · rename_i E t xs hvi
                split at hv
                · rename_i hs
                  split at hv
                  · rename_i hb
                    exact v_indexAddr hvw hr hd ho e1 e2 hT0 hs hb.1 hb.2 (.inr (.inr (.inl ⟨id, rfl, hvi, rfl⟩))) hv
                  · cases hv
                · cases hv
              · cases hv
            · rename_i e id lo hi hT0
              split at hv
              · rename_i E t xs hvi
                split at hv
                · rename_i hs
                  split at hv
                  · rename_i hb
                    exact v_indexAddr hvw hr hd ho e1 e2 hT0 hs hb.1 hb.2 (.inr (.inr (.inr ⟨id, lo, hi, rfl, rfl, hvi, rfl⟩))) hv
                  · cases hv
                · cases hv
              · cases hv
            · rename_i m e hT0
              split at hv
              · rename_i ti hti
                split at hv
                · cases hv
                · split at hv
                  · rename_i hlv
                    split at hv
                    · rename_i hb
                      rw [splitN_eq _ (by omega)] at hv
                      split at hv
                      · rename_i l' hl'
                        exact v_indexArr hvw hr hd ho e1 e2 hT0 hti hlv hb.1 hb.2 hl' hv
                      · cases hv
                    · cases hv
                  · cases hv
              · cases hv
            · cases hv
  | index T0 x y =>
    simp only [Op.operands, List.map_cons, List.map_nil] at hv
    cases e1 : evD s.e x with
    | tup q => rw [e1] at hv; simp only [valK] at hv; cases hv
    | v d => cases d with
      | agg q =>
        rw [e1] at hv
        cases e2 : evD s.e y with
        | tup q => rw [e2] at hv; simp only [valK] at hv; cases hv
        | v d => cases d with
          | agg q => rw [e2] at hv; simp only [valK] at hv; cases hv
          | one q =>
            rw [e2] at hv
            cases q <;> first | (simp only [valK] at hv; cases hv; done) | skip
            simp only [valK] at hv
            split at hv
            · rename_i m e hT0
              split at hv
              · rename_i ti hti
                split at hv
                · rename_i hc
                  obtain ⟨c1, c2, c3, c4, c5⟩ := hc
                  split at hv
                  · rename_i l hl
                    exact v_indexAgg hr hd ho e1 e2 hT0 hti c1 c2 c3 c4 c5 hl hv
                  · cases hv
                · cases hv
              · cases hv
            · cases hv
      | one l =>
        rw [e1] at hv
        cases l <;> first | (simp only [valK] at hv; cases hv; done) | skip
        cases e2 : evD s.e y with
        | tup q => rw [e2] at hv; simp only [valK] at hv; cases hv
        | v d => cases d with
          | agg q => rw [e2] at hv; simp only [valK] at hv; cases hv
          | one q =>
            rw [e2] at hv
            cases q <;> first | (simp only [valK] at hv; cases hv; done) | skip
            simp only [valK] at hv
            split at hv
            · rename_i hT0
              split at hv
              · rename_i hb
                exact v_index hr hd ho e1 e2 hT0 hb.1 hb.2 hv
              · cases hv
            · cases hv
  | extract x i =>
    simp only [Op.operands, List.map_cons, List.map_nil] at hv
    cases hx : evD s.e x with
    | v q => rw [hx] at hv; simp only [valK] at hv; cases hv
    | tup es =>
      rw [hx] at hv
      simp only [valK] at hv
      split at hv
      · rename_i d he
        exact v_extract hr hd ho hx he hv
      · cases hv
  | makeFunc fn first caps =>
    cases fn <;> first | (simp only [valK] at hv; cases hv; done) | skip
    rename_i f
    simp only [valK] at hv
    cases hfe : first.isEmpty with
    | false => rw [hfe] at hv; cases hv
    | true =>
      rw [hfe] at hv
      simp only [cond_true] at hv
      have e1 : first = #[] := by simpa using hfe
      subst e1
      split at hv
      · rename_i h1
        have e2 : caps = #[] := by
          have := (d0s_R h1).1
          simp only [Op.operands, List.length_nil] at this
          have h3 : ((#[] : Array Operand) ++ caps).toList.length = 0 := this.symm
          simpa using h3
        subst e2
        exact v_makeFunc hr hd ho hv
      · rename_i ps h1 h2
        split at hv
        · rename_i ls hls
          have hop : (Op.makeFunc (.func f) #[] caps).operands.toList = caps.toList := by simp [Op.operands]
          rw [hop] at h2
          exact v_makeClo hr hfr hd ho h2 hls hv
        · cases hv
      · cases hv
  | call c =>
    obtain ⟨callee, args, tys⟩ := c
    cases callee with
    | invoke q m => simp only [valK] at hv; cases hv
    | builtin b =>
      by_cases hlen : b = .len
      · subst hlen
        simp only [Op.operands, Call.operands, Array.empty_append] at hv
        cases hargs : args.toList with
        | nil => rw [hargs] at hv; simp only [List.map_nil, valK] at hv; cases hv
        | cons x rest =>
          rw [hargs] at hv
          cases rest with
          | cons y rest => simp only [List.map_cons] at hv; cases hx : evD s.e x with
            | tup q => rw [hx] at hv; simp only [valK] at hv; cases hv
            | v d => cases d <;> (rw [hx] at hv; simp only [valK] at hv; cases hv)
          | nil =>
            have ha : args = #[x] := by apply Array.ext'; rw [hargs]
            subst ha
            simp only [List.map_cons, List.map_nil] at hv
            cases hx : evD s.e x with
            | tup q => rw [hx] at hv; simp only [valK] at hv; cases hv
            | v d => cases d with
              | agg q => rw [hx] at hv; simp only [valK] at hv; cases hv
              | one l =>
                rw [hx] at hv
                simp only [valK] at hv
                split at hv
                · rename_i hT0
                  split at hv
                  · rename_i n hl
                    exact v_len hvw hr hd ho hx hl hT0 hv
                  · cases hv
                · cases hv
      by_cases hcap : b = .cap
      · subst hcap
        simp only [Op.operands, Call.operands, Array.empty_append] at hv
        cases hargs : args.toList with
        | nil => rw [hargs] at hv; simp only [List.map_nil, valK] at hv; cases hv
        | cons x rest =>
          rw [hargs] at hv
          cases rest with
          | cons y rest => simp only [List.map_cons] at hv; cases hx : evD s.e x with
            | tup q => rw [hx] at hv; simp only [valK] at hv; cases hv
            | v d => cases d with
              | agg q => rw [hx] at hv; simp only [valK] at hv; cases hv
              | one l => rw [hx] at hv; cases l <;> (simp only [valK] at hv; cases hv)
          | nil =>
            have ha : args = #[x] := by apply Array.ext'; rw [hargs]
            subst ha
            simp only [List.map_cons, List.map_nil] at hv
            cases hx : evD s.e x with
            | tup q => rw [hx] at hv; simp only [valK] at hv; cases hv
            | v d => cases d with
              | agg q => rw [hx] at hv; simp only [valK] at hv; cases hv
              | one l =>
                rw [hx] at hv
                cases l <;> first | (simp only [valK] at hv; cases hv; done) | skip
                simp only [valK] at hv
                split at hv
                · rename_i t ht
                  split at hv
                  · rename_i e hu
                    obtain ⟨a1, _⟩ := ev_R hr x
                    rw [hx] at a1
                    have vx : a.eval x = .slice none 0 0 := a1
                    refine ⟨_, _, _, hv, eff_pure hd hr (v := .int .i64 0) ?_ rfl (one_ids rfl)⟩
                    have : (Builtin.cap_ tys o.type #[a.eval x]).run P w = .ok (.int .i64 0) w := by
                      simp [Builtin.cap_, ht, run_underlying hu, vx, goInt]
                    simp [execOp, ho, resolve, invoke, builtin, this]
                  · cases hv
                · cases hv
      by_cases hmax : b = .max
      · subst hmax
        simp only [Op.operands, Call.operands, Array.empty_append] at hv
        rcases hargs : args.toList with _ | ⟨x, _ | ⟨y, _ | ⟨z, rest⟩⟩⟩
        · rw [hargs] at hv; simp only [List.map_nil, valK] at hv; cases hv
        · rw [hargs] at hv; simp only [List.map_cons, List.map_nil] at hv
          rcases hx : evD s.e x with ((l | q) | q) <;> rw [hx] at hv
          · cases l <;> (simp only [valK] at hv; cases hv)
          · simp only [valK] at hv; cases hv
          · simp only [valK] at hv; cases hv
        · rw [hargs] at hv
          have ha : args = #[x, y] := by apply Array.ext'; rw [hargs]
          subst ha
          simp only [List.map_cons, List.map_nil] at hv
          rcases hx : evD s.e x with ((l | q) | q)
          · rcases hy : evD s.e y with ((l' | q) | q)
            · rw [hx, hy] at hv
              cases l <;> first | (simp only [valK] at hv; cases hv; done) | skip
              cases l' <;> first | (simp only [valK] at hv; cases hv; done) | skip
              simp only [valK] at hv
              split at hv
              · rename_i hk; subst hk
                exact v_max hr hd ho hx hy hv
              · cases hv
            · rw [hx, hy] at hv; cases l <;> (simp only [valK] at hv; cases hv)
            · rw [hx, hy] at hv; cases l <;> (simp only [valK] at hv; cases hv)
          · rw [hx] at hv; simp only [valK] at hv; cases hv
          · rw [hx] at hv; simp only [valK] at hv; cases hv
        · rw [hargs] at hv; simp only [List.map_cons] at hv
          generalize evD s.e y = dy at hv
          generalize evD s.e z = dz at hv
          rcases hx : evD s.e x with ((l | q) | q) <;> rw [hx] at hv
          · rcases dy with ((l' | q) | q)
            · cases l <;> first | (simp only [valK] at hv; cases hv; done) | skip
            · cases l <;> (simp only [valK] at hv; cases hv)
            · cases l <;> (simp only [valK] at hv; cases hv)
          · simp only [valK] at hv; cases hv
          · simp only [valK] at hv; cases hv
      by_cases hmin : b = .min
      · subst hmin
        simp only [Op.operands, Call.operands, Array.empty_append] at hv
        rcases hargs : args.toList with _ | ⟨x, _ | ⟨y, _ | ⟨z, rest⟩⟩⟩
        · rw [hargs] at hv; simp only [List.map_nil, valK] at hv; cases hv
        · rw [hargs] at hv; simp only [List.map_cons, List.map_nil] at hv
          rcases hx : evD s.e x with ((l | q) | q) <;> rw [hx] at hv
          · cases l <;> (simp only [valK] at hv; cases hv)
          · simp only [valK] at hv; cases hv
          · simp only [valK] at hv; cases hv
        · rw [hargs] at hv
          have ha : args = #[x, y] := by apply Array.ext'; rw [hargs]
          subst ha
          simp only [List.map_cons, List.map_nil] at hv
          rcases hx : evD s.e x with ((l | q) | q)
          · rcases hy : evD s.e y with ((l' | q) | q)
            · rw [hx, hy] at hv
              cases l <;> first | (simp only [valK] at hv; cases hv; done) | skip
              cases l' <;> first | (simp only [valK] at hv; cases hv; done) | skip
              simp only [valK] at hv
              split at hv
              · rename_i hk; subst hk
                exact v_min hr hd ho hx hy hv
              · cases hv
            · rw [hx, hy] at hv; cases l <;> (simp only [valK] at hv; cases hv)
            · rw [hx, hy] at hv; cases l <;> (simp only [valK] at hv; cases hv)
          · rw [hx] at hv; simp only [valK] at hv; cases hv
          · rw [hx] at hv; simp only [valK] at hv; cases hv
        · rw [hargs] at hv; simp only [List.map_cons] at hv
          generalize evD s.e y = dy at hv
          generalize evD s.e z = dz at hv
          rcases hx : evD s.e x with ((l | q) | q) <;> rw [hx] at hv
          · rcases dy with ((l' | q) | q)
            · cases l <;> first | (simp only [valK] at hv; cases hv; done) | skip
            · cases l <;> (simp only [valK] at hv; cases hv)
            · cases l <;> (simp only [valK] at hv; cases hv)
          · simp only [valK] at hv; cases hv
          · simp only [valK] at hv; cases hv
      exfalso
      cases b <;> first | exact hlen rfl | exact hcap rfl | exact hmax rfl | exact hmin rfl | (simp only [valK] at hv; cases hv; done)
    | value f =>
      have hops : (Op.call { callee := .value f, args := args, argTypes := tys }).operands.toList = f :: args.toList := by
        simp [Op.operands, Call.operands]
      rw [hops, List.map_cons] at hv
      cases hf : evD s.e f with
      | tup q => rw [hf] at hv; simp only [valK] at hv; cases hv
      | v d => cases d with
        | agg q => rw [hf] at hv; simp only [valK] at hv; cases hv
        | one l =>
          rw [hf] at hv
          cases l <;> first | (simp only [valK] at hv; cases hv; done) | skip
          rename_i gf
          simp only [valK] at hv
          split at hv
          · rename_i sp hsp
            cases hid : sp.idN with
            | some n =>
              rw [hid] at hv
              simp only at hv
              split at hv
              · rename_i ls hls
                split at hv
                · rename_i hln
                  exact v_idn hr hfr hd ho hf (hT gf sp (by rw [hsp]; exact .head _)) hid hln hls hv
                · cases hv
              · cases hv
            | none =>
            rw [hid] at hv
            simp only at hv
            split at hv
            · rename_i x ids hx
              cases h8 : Nat.ble (nobA (sp.outs ++ backs sp.ins)) 8 with
              | false => rw [h8] at hv; cases hv
              | true =>
                rw [h8] at hv
                simp only [cond_true] at hv
                cases hy : sp.sem x with
                | none => rw [hy] at hv; cases hv
                | some y =>
                  rw [hy] at hv
                  exact v_call hvw hr hfr hd ho hf (hT gf sp (by rw [hsp]; exact .head _)) hx (Nat.le_of_ble_eq_true h8) hy hv
            · cases hv
          · cases hv
  | store => simp only [valK] at hv; cases hv
  | _ => simp only [valK] at hv; cases hv

end
end Go.Proofs.Fr

/- The operations that write: stores, appends. -/
namespace Go.Proofs.Fr
open Go Go.RowKit

variable {P : Program} {B : Bs} {nt : Nat} {fr : Nat → Prop} {s : S} {g : Nat → Value} {a : Act} {w w' : World} {R : Type} {H : Nat → Ob} {ok ok' : Nat → Prop}

section
variable {o : Oper} {id0 : Nat} {k : S → D → Option R} {r : R} {hb : Nat → Ob}

theorem take_put {α : Type} (l Z : List α) (a N : Nat) (h : a + Z.length ≤ N) (hN : N ≤ l.length) : (l.take a ++ Z ++ l.drop (a + Z.length)).take N = (l.take N).take a ++ Z ++ (l.take N).drop (a + Z.length) := by
  have e1 : (l.take N).take a = l.take a := by rw [List.take_take, Nat.min_eq_left (by omega)]
  have e2 : (l.take N).drop (a + Z.length) = (l.drop (a + Z.length)).take (N - (a + Z.length)) := List.drop_take
  have e3 : (l.take a ++ Z).length = a + Z.length := by rw [List.length_append, List.length_take, Nat.min_eq_left (by omega)]
  rw [e1, e2, List.take_append, e3, List.take_of_length_le (by rw [e3]; exact h)]

/-- What lies from a place on, when something is laid behind it. -/
theorem put_at {α : Type} (l Z : List α) (o a N : Nat) (h : a + Z.length ≤ N) (hN : o + N ≤ l.length) : ((l.take (o + a) ++ Z ++ l.drop (o + a + Z.length)).drop o).take N = ((l.drop o).take N).take a ++ Z ++ ((l.drop o).take N).drop (a + Z.length) := by
  have e : (l.take (o + a) ++ Z ++ l.drop (o + a + Z.length)).drop o = (l.drop o).take a ++ Z ++ (l.drop o).drop (a + Z.length) := by
    rw [List.append_assoc, List.drop_append_of_le_length (by rw [List.length_take]; omega), List.drop_take, Nat.add_sub_cancel_left, List.drop_drop, ← List.append_assoc, Nat.add_assoc]
  rw [e, take_put _ _ _ _ h (by rw [List.length_drop]; omega)]

theorem putTD_R {ls news : List L} {cs vs : List Value} (off : Nat) (h : All2 (LR g H w ok) ls cs) (h' : All2 (LR g H w ok) news vs) : All2 (LR g H w ok) (putTD ls off news) (cs.take off ++ vs ++ cs.drop (off + vs.length)) := by
  unfold putTD
  rw [h'.len]
  exact ((h.take off).app h').app (h.drop _)

theorem putTD_mem {ls news : List L} {off : Nat} : ∀ l ∈ putTD ls off news, l ∈ ls ∨ l ∈ news := by
  intro l hl
  simp only [putTD, List.mem_append] at hl
  rcases hl with (hl | hl) | hl
  · exact .inl (List.mem_of_mem_take hl)
  · exact .inr hl
  · exact .inl (List.mem_of_mem_drop hl)

theorem run_store_at {T : TypeId} {ti : TI} (hti : tinfo P T = some ti) {kb off : Nat} {arr : Array Value} {E : Nat} {v : Value} (hsz : v.cells.size = ti.size) (hh : w.heap[kb]? = some (.cells arr E (0, 0))) (hfit : off + v.cells.size ≤ arr.size)
    (h1 : ∀ u ∈ v.cells.toList, u.oneCell' = true) :
    (Instr.storeAt T (.pointer (some ⟨kb, off, none⟩)) v).run P w = .ok () (w.setRow kb (arr.toList.take off ++ v.cells.toList ++ arr.toList.drop (off + v.cells.toList.length)).toArray) := by
  have hs := run_storeCells_at (P := P) kb off E v.cells.toList 0 arr w hh (by simpa using hfit) h1
  simp only [Nat.add_zero] at hs
  simp only [Instr.storeAt, Instr.sureAddr, storeVar, Sem.run_bind, Sem.run_pure, Result.andThen_ok, run_sizeOf hti, hsz, ne_eq, not_true_eq_false, if_false]
  exact hs

theorem D0R_one {d : D0} {v : Value} (hs : d.ls.all L.solid = true) (h : D0R g H w ok d v) : ∀ u ∈ v.cells.toList, u.oneCell' = true := by
  have hc := D0R_cells hs h
  intro u hu
  obtain ⟨i, hi, rfl⟩ := List.getElem_of_mem hu
  have hi' : i < d.ls.length := by rw [hc.len]; exact hi
  exact solid_one (List.all_eq_true.1 hs _ (List.getElem_mem hi')) (hc.get i hi' hi)

theorem skip_wp {next : Act → World → Prop} {Q : Exit → Act → World → Prop} (hrun : (execOp a.eval o).run P w = .ok .skip w') (h : next (a.put o.dst undef) w') : o.wp P a w next Q := by
  unfold Oper.wp; rw [hrun]; exact h

theorem store_run {T : TypeId} {x y : Operand} (ho : o.op = .store T x y) {p v : Value} (hp : a.eval x = p) (hv : a.eval y = v) (h : (Instr.storeAt T p v).run P w = .ok () w') : (execOp a.eval o).run P w = .ok .skip w' := by
  subst hp; subst hv
  simp only [execOp, ho, Sem.run_bind, h, Result.andThen_ok, Sem.run_pure]

theorem w_storeBox (hhb : ∀ id, hb id = .gone ∨ hb id = s.H id) (hr : Rel B nt fr s g a w) (hd : dstOk nt o.dst = true) {T : TypeId} {x y : Operand} (ho : o.op = .store T x y) {id off : Nat} {d : D0} (hx : evD s.e x = .one (.ptr id off)) (hy : evD s.e y = .v d)
    {ti : TI} (hti : tinfo P T = some ti) (hsz : d.ls.length = ti.size) (hso : d.ls.all L.solid = true) {T0 : Nat} {ls : List L} (hb0 : hb id = .box T0 ls) (hfit : off + d.ls.length ≤ ls.length)
    (hv : k { s with H := upd s.H id (.box T0 (putTD ls off d.ls)), dt := id :: s.dt } (.one .undef) = some r) : WGoal P B nt fr id0 s a w o k r := by
  have hb1 : s.H id = .box T0 ls := by rcases hhb id with e | e <;> rw [e] at hb0; cases hb0; exact hb0
  obtain ⟨hx1, _⟩ := ev_R hr x
  obtain ⟨hy1, hyi⟩ := ev_R hr y
  rw [hx] at hx1
  rw [hy] at hy1 hyi
  have hob := hr.objs id
  rw [hb1] at hob
  obtain ⟨kb, arr, hg, hh, ha⟩ := hob
  obtain ⟨kb', hg', hva⟩ := hx1.2 (.nil, 0) (by rw [hb1]; rfl)
  rw [hg] at hg'; cases hg'
  have hcells := D0R_cells hso hy1
  have hvs : (a.eval y).cells.size = d.ls.length := by rw [← Array.length_toList]; exact hcells.len.symm
  have hal : arr.size = ls.length := by rw [← Array.length_toList]; exact ha.len.symm
  have hrun := run_store_at (P := P) hti (v := a.eval y) (by rw [hvs, hsz]) hh (by rw [hvs, hal]; exact hfit) (D0R_one hso hy1)
  refine ⟨_, _, hv, ⟨rfl, rfl, [id], rfl, fun j _ hj => upd_ne _ _ (by simpa using hj)⟩, fun next Q hn => ?_⟩
  refine skip_wp (store_run ho hva rfl hrun) (hn g _ _ ?_)
  refine Rel.put_ ?_ hd (d := .one .undef) (v := undef) trivial (by simp [D.ids, D0.ids, D0.ls, L.ids])
  have hown : owned g s.H id = some kb := by simp [owned, hb1, hg, blkOf]
  refine Rel.step hr (· = id) rfl (fun j h => h.1) ?_ ?_ ?_ ?_ ?_ rfl rfl rfl (by simp) ?_ ?_ ?_
  · intro j hj; exact ⟨upd_ne _ _ hj, rfl⟩
  · rintro j rfl _; exact .inr ⟨by simp only [upd_same, hb1]; rfl, rfl⟩
  · rintro j q rfl hq
    refine .inr ⟨j, rfl, ?_⟩
    simpa only [owned, upd_same, hb1] using hq
  · rintro i j q rfl rfl _ _; rfl
  · intro q hq hne
    exact setRow_other w kb q _ (fun e => hne id rfl (e ▸ hown))
  · intro hk hc j hj
    subst hj
    simp only [upd_same]
    refine ⟨kb, _, hg, setRow_heap w kb arr _ _ _ hh, ?_⟩
    rw [List.toList_toArray]
    refine (putTD_R off ha hcells).mono_mem fun l v hl h => LR.mono hk (fun q hq => hc q ?_) h
    rcases putTD_mem l hl with h' | h'
    · exact hr.bold j T0 ls hb1 l h' q hq
    · exact hyi q (by simp only [D.ids, D0.ids, List.mem_flatMap]; exact ⟨l, h', hq⟩)
  · intro j hj q hq0 hf
    subst hj
    have hq1 : q ∈ (Ob.box T0 (putTD ls off d.ls)).kids := by simpa only [upd_same] using hq0
    obtain ⟨l, hl, hq⟩ := List.mem_flatMap.1 hq1
    rcases putTD_mem l hl with h' | h'
    · exact hr.bold j T0 ls hb1 l h' q hq hf.1
    · exact hyi q (by simp only [D.ids, D0.ids, List.mem_flatMap]; exact ⟨l, h', hq⟩) hf.1
  · intro j hf
    have := hr.fresh j hf.1
    have hne : j ≠ id := fun e => by rw [e, hb1] at this; cases this
    simp only [upd_ne _ _ hne]; exact this

/-- Cells written within one element of a row. -/
theorem flat_set (n : Nat) : ∀ (css : List (List Value)) (i off : Nat) (vs : List Value), (∀ c ∈ css, c.length = n) → i < css.length → off + vs.length ≤ n →
    css.flatten.take (i * n + off) ++ vs ++ css.flatten.drop (i * n + off + vs.length) = (css.set i ((css.getD i []).take off ++ vs ++ (css.getD i []).drop (off + vs.length))).flatten
  | [], _, _, _, _, h, _ => by simp at h
  | c :: css, 0, off, vs, hl, _, ho => by
    have hc := hl c (.head _)
    simp only [List.flatten_cons, Nat.zero_mul, Nat.zero_add, List.set_cons_zero, List.getD_cons_zero]
    rw [List.take_append_of_le_length (by omega), List.drop_append_of_le_length (by omega)]
    simp
  | c :: css, i + 1, off, vs, hl, hi, ho => by
    have hc := hl c (.head _)
    have ih := flat_set n css i off vs (fun c h => hl c (.tail _ h)) (by simpa using hi) ho
    simp only [List.flatten_cons, List.set_cons_succ, List.getD_cons_succ]
    rw [← ih]
    have e1 : (i + 1) * n + off = c.length + (i * n + off) := by rw [hc, Nat.add_mul]; omega
    rw [e1, List.take_length_add_append, show c.length + (i * n + off) + vs.length = c.length + (i * n + off + vs.length) by omega, List.drop_length_add_append]
    simp

theorem w_storeRow0 (hhb : ∀ id, hb id = .gone ∨ hb id = s.H id) (hr : Rel B nt fr s g a w) (hd : dstOk nt o.dst = true) {T : TypeId} {x y : Operand} (ho : o.op = .store T x y) {id i off : Nat} {d : D0} (hx : evD s.e x = .one (.elo id i off)) (hy : evD s.e y = .v d)
    {ti : TI} (hti : tinfo P T = some ti) (hsz : d.ls.length = ti.size) (hso : d.ls.all L.solid = true) {E : Nat} {t : Ty} {xs : List t.den} (hb0 : hb id = .row E t xs) {x' : t.den}
    {ids : List Nat} (hp : pjAll (fun j => (hb j).vw) t (putTD (inj t (rdE t xs i)) off d.ls) = some (x', ids)) (hno : ∀ j ∈ ids, ∀ k, owned g s.H j ≠ some k) (hfit : off + d.ls.length ≤ t.sz)
    (hv : k { s with H := upd s.H id (.row E t (xs.set i x')), dt := id :: s.dt } (.one .undef) = some r) : WGoal P B nt fr id0 s a w o k r := by
  have hb1 : s.H id = .row E t xs := by rcases hhb id with e | e <;> rw [e] at hb0; cases hb0; exact hb0
  obtain ⟨hx1, _⟩ := ev_R hr x
  obtain ⟨hy1, hyi⟩ := ev_R hr y
  rw [hx] at hx1
  rw [hy] at hy1 hyi
  have hob := hr.objs id
  rw [hb1] at hob
  obtain ⟨hi, kb, oo, m, c, hg, hva⟩ := hx1.2 t xs.length (by rw [hb1]; rfl)
  obtain ⟨css, hcs, hos⟩ := hob
  obtain ⟨kb', oo', cap, cur, hgs, _, hh, hn, hm, hcur, htk⟩ : ∃ kb' oo' cap cur, g id = .slice (some ⟨kb', oo', none⟩) xs.length cap ∧ 0 ≤ kb' ∧ w.heap[kb']? = some (.cells cur E (0, 0)) ∧ xs.length ≤ cap ∧ cap ≤ maxLen ∧ oo' + cap * t.sz ≤ cur.size ∧ (cur.toList.drop oo').take (xs.length * t.sz) = css.flatten := by
    rcases hos.2 with ⟨e, _⟩ | h
    · rw [hg] at e; cases e
    · obtain ⟨q, o, cap, cur, e, r⟩ := h; exact ⟨q, o, cap, cur, e, r⟩
  rw [hg] at hgs; cases hgs
  have hcells := D0R_cells hso hy1
  have hvs : (a.eval y).cells.size = d.ls.length := by rw [← Array.length_toList]; exact hcells.len.symm
  have hvl : (a.eval y).cells.toList.length = d.ls.length := hcells.len.symm
  have hlen : css.length = xs.length := hcs.len.symm
  have hcl : ∀ c ∈ css, c.length = t.sz := by
    intro c hc
    obtain ⟨j, hj, rfl⟩ := List.getElem_of_mem hc
    exact (hcs.get j (hlen ▸ hj) hj).len
  have hle : (i + 1) * t.sz ≤ xs.length * t.sz := Nat.mul_le_mul_right _ hi
  have hle2 : xs.length * t.sz ≤ c * t.sz := Nat.mul_le_mul_right _ hn
  have hfit2 : oo + i * t.sz + off + (a.eval y).cells.size ≤ cur.size := by rw [hvs]; rw [Nat.add_mul] at hle; omega
  have hrun := run_store_at (P := P) hti (v := a.eval y) (by rw [hvs, hsz]) hh hfit2 (D0R_one hso hy1)
  refine ⟨_, _, hv, ⟨rfl, rfl, [id], rfl, fun j _ hj => upd_ne _ _ (by simpa using hj)⟩, fun next Q hn' => ?_⟩
  refine skip_wp (store_run ho hva rfl hrun) (hn' g _ _ ?_)
  refine Rel.put_ ?_ hd (d := .one .undef) (v := undef) trivial (by simp [D.ids, D0.ids, D0.ls, L.ids])
  have hown : owned g s.H id = some kb := by simp [owned, hb1, hg, blkOf]
  refine Rel.step hr (· = id) rfl (fun j h => h.1) ?_ ?_ ?_ ?_ ?_ rfl rfl rfl (by simp) ?_ ?_ ?_
  · intro j hj; exact ⟨upd_ne _ _ hj, rfl⟩
  · rintro j rfl _; exact .inr ⟨by simp only [upd_same, hb1, shO, List.length_set], rfl⟩
  · rintro j q rfl hq
    refine .inr ⟨j, rfl, ?_⟩
    simpa only [owned, upd_same, hb1] using hq
  · rintro i j q rfl rfl _ _; rfl
  · intro q hq hne
    exact setRow_other w kb q _ (fun e => hne id rfl (e ▸ hown))
  · intro hk hc j hj
    subst hj
    simp only [upd_same]
    -- the element's cells
    have hic : i < css.length := hlen ▸ hi
    have hel : css.getD i [] = css[i] := by simp [List.getD_eq_getElem?_getD, List.getElem?_eq_getElem hic]
    have hei : En w (okB B g s.H w) t (rdE t xs i) css[i] := by
      have : rdE t xs i = xs[i] := by simp [rdE, List.getD_eq_getElem?_getD, List.getElem?_eq_getElem hi]
      rw [this]; exact hcs.get i hi hic
    have hput := putTD_R (g := g) (H := s.H) off (inj_LR hei) hcells
    have hvwr : ∀ id E t xs, (fun j => (hb j).vw) id = .row E t xs → (s.H id).vw = .row E t xs := by
      intro id E t xs h
      rcases hhb id with e | e
      · simp only [e] at h; cases h
      · simpa only [e] using h
    have hen' := pjAll_En (ok' := okB B g s.H w) hvwr hr.objs (fun _ h => h) hp hput (fun j hj k hk => absurd hk (hno j hj k))
    have hset := flat_set t.sz css i off (a.eval y).cells.toList hcl hic (by rw [hvl]; exact hfit)
    refine ⟨css.set i ((css.getD i []).take off ++ (a.eval y).cells.toList ++ (css.getD i []).drop (off + (a.eval y).cells.toList.length)), ?_, ?_⟩
    · refine All2.mono (fun x c h => En.mono hk h) (hcs.set i ?_)
      rw [hel]; exact hen'
    · refine ⟨?_, .inr ⟨kb, oo, c, _, by rw [hg, List.length_set], Nat.zero_le _, setRow_heap w kb cur _ _ _ hh, by rw [List.length_set]; exact hn, hm, ?_, ?_⟩⟩
      · rw [← hset]
        have hfl := hos.1
        simp only [List.length_append, List.length_take, List.length_drop, hfl, List.length_set, hvl]
        rw [Nat.add_mul] at hle; omega
      · simp only [List.size_toArray, List.length_append, List.length_take, List.length_drop, Array.length_toList, hvl]
        rw [hvs] at hfit2; omega
      · have q1 : i * t.sz + off + (a.eval y).cells.toList.length ≤ xs.length * t.sz := by rw [hvl]; rw [Nat.add_mul] at hle; omega
        rw [List.length_set, List.toList_toArray, ← hset, ← htk, Nat.add_assoc oo]
        have q2 : oo + xs.length * t.sz ≤ cur.toList.length := by rw [Array.length_toList]; exact Nat.le_trans (Nat.add_le_add_left hle2 oo) hcur
        exact put_at _ _ oo _ _ q1 q2
  · intro j hj q hq0 hf
    subst hj
    have hq1 : q ∈ (Ob.row E t (xs.set i x')).kids := by simpa only [upd_same] using hq0
    cases hq1
  · intro j hf
    have := hr.fresh j hf.1
    have hne : j ≠ id := fun e => by rw [e, hb1] at this; cases this
    simp only [upd_ne _ _ hne]; exact this

/-- A row's element written; rows that it names are frozen. -/
theorem w_storeRow (hhb : ∀ id, hb id = .gone ∨ hb id = s.H id) (hr : Rel B nt fr s g a w) (hfr : ∀ j, id0 ≤ j → j < id0 + 8 → fr j) (hd : dstOk nt o.dst = true) {T : TypeId} {x y : Operand} (ho : o.op = .store T x y) {id i off : Nat} {d : D0} (hx : evD s.e x = .one (.elo id i off)) (hy : evD s.e y = .v d)
    {ti : TI} (hti : tinfo P T = some ti) (hsz : d.ls.length = ti.size) (hso : d.ls.all L.solid = true) {E : Nat} {t : Ty} {xs : List t.den} (hb0 : hb id = .row E t xs) {x' : t.den} {ids : List Nat}
    (hp : pjAll (fun j => (hb j).vw) t (putTD (inj t (rdE t xs i)) off d.ls) = some (x', ids)) (hfit : off + d.ls.length ≤ t.sz) (hni : ids.contains id = false)
    (hv : k { s with H := upd (frz s.H ids) id (.row E t (xs.set i x')), dt := id :: (ids ++ s.dt) } (.one .undef) = some r) : WGoal P B nt fr id0 s a w o k r := by
  obtain ⟨_, hyi⟩ := ev_R hr y
  rw [hy] at hyi
  have hni' : id ∉ ids := fun h => by
    have : ids.contains id = true := by simpa using h
    rw [hni] at this; cases this
  have hrows : ∀ j ∈ ids, ∃ E t xs, (s.H j).vw = .row E t xs := by
    intro j hj
    have h1 := hp
    unfold pjAll at h1
    split at h1
    · rename_i h3
      cases h1
      obtain ⟨E, t, xs, h⟩ := pj_rows h3 j hj
      rcases hhb j with e | e
      · simp only [e] at h; cases h
      · simp only [e] at h; exact ⟨E, t, xs, h⟩
    · cases h1
  have hids : ∀ j ∈ ids, ¬ fr j := by
    intro j hj
    obtain ⟨l, hl, hi⟩ := pjAll_ids hp j hj
    rcases putTD_mem l hl with h | h
    · rw [inj_ids _ _ l h] at hi; cases hi
    · exact hyi j (by simp only [D.ids, D0.ids, List.mem_flatMap]; exact ⟨l, h, hi⟩)
  have hr2 := Rel.commit (w' := w) hr id0 [] ids [] rfl (by simp) hfr hids (fun j hj => rb_row (hrows j hj)) (Below.refl _ _) (by simp) (by simp) (by simp) (by simp)
  rw [newG_nil] at hr2
  have hr3 : Rel B nt (less fr id0) { s with H := frz s.H ids, dt := ids ++ s.dt } g a w := hr2
  have hbn : ∀ j, hb j ≠ .gone → hb j = s.H j := fun j h => by rcases hhb j with e | e; exact absurd e h; exact e
  have hb1 : s.H id = .row E t xs := by rw [← hbn id (by rw [hb0]; simp), hb0]
  have hvw2 : (fun j => ((fun j => match hb j with | .gone => Ob.gone | _ => frz s.H ids j) j).vw) = fun j => (hb j).vw := by
    funext j
    dsimp only
    by_cases hg : hb j = .gone
    · rw [hg]
    · have e1 := hbn j hg
      have e2 : (frz s.H ids j).vw = (s.H j).vw := by
        by_cases hj : j ∈ ids
        · rw [(frz_at ids s.H j).1 hj, Ob.freeze_vw]
        · rw [(frz_at ids s.H j).2 hj]
      cases e : hb j with
      | gone => exact absurd e hg
      | _ => dsimp only; rw [e2, ← e1, e]
  have h0 := w_storeRow0 (P := P) (id0 := id0) (k := k) (r := r) (s := { s with H := frz s.H ids, dt := ids ++ s.dt }) (hb := fun j => match hb j with | .gone => Ob.gone | _ => frz s.H ids j)
    (fun j => by
      cases e : hb j with
      | gone => exact .inl rfl
      | _ => exact .inr rfl) hr3 hd ho hx hy hti hsz hso (E := E) (t := t) (xs := xs) (by
        rw [hb0]
        show frz s.H ids id = _
        rw [(frz_at ids s.H id).2 hni', hb1]) (x' := x') (ids := ids) (by rw [hvw2]; exact hp) (fun j hj q hq => by
        obtain ⟨E', t', xs', hj'⟩ := hrows j hj
        have e1 : frz s.H ids j = (s.H j).freeze := (frz_at ids s.H j).1 hj
        have hq' : owned g (frz s.H ids) j = some q := hq
        unfold owned at hq'
        rw [e1] at hq'
        cases e : s.H j <;> rw [e] at hj' hq' <;> first | (cases hj'; done) | (cases hq'; done)) hfit hv
  obtain ⟨s1, d1, hk1, ⟨hx1, hx2, new, hx3, hx4⟩, hw⟩ := h0
  refine ⟨s1, d1, hk1, ⟨hx1, hx2, new ++ ids, by rw [List.append_assoc]; exact hx3, fun j hj hn => ?_⟩, fun next Q hn => hw next Q fun g' a' w' hrel => hn g' a' w' (hrel.weak fun j hj => ⟨hj, hj.2⟩)⟩
  simp only [List.mem_append, not_or] at hn
  rw [hx4 j hj hn.1]
  show frz s.H ids j = s.H j
  exact (frz_at ids s.H j).2 hn.2

end
end Go.Proofs.Fr
