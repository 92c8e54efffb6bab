/- slices.Insert at advertisements, of a row of the call's own, walked by hand and told for the frame; by this project. -/
import Derived.Test.YthbcmgpmjljdeaaGreatProg
import Derived.Test.YthbcmgpmjljdeaaGreatFrd
import Derived.Tactics
import Derived.Tactics2
import Derived.WalkKit
import Derived.KernelRfl
import Derived.Laws.Slices
import Derived.Laws.Rows
import Derived.WalkSpells
import Derived.RowKit
import Derived.Below
import Derived.Lib.Walk
import Derived.Lib.SliceRun
import Derived.Lib.AppendZerosOnto
import Derived.Lib.Overlaps
import Derived.Laws.Externs
import Derived.Laws.NewBlocks
import Derived.Shelf.RegionOpenPlain
namespace Go.Proofs.YthbcmgpmjljdeaaGreat.F
open Go Go.RowKit Go.Proofs Go.Proofs.Fr
set_option linter.unusedVariables false
set_option linter.unusedSimpArgs false

section
variable {P : Program}
theorem ins_wpCopy (w : World) {o : Oper} {a : Act} {K : Act → World → Prop} {Q : Exit → Act → World → Prop} (d s : Operand) (t t' : TypeId)
    (ho : o.op = .call { callee := .builtin .copy, args := #[d, s], argTypes := #[t, t'] }) (v u : Value) (hd : a.eval d = v) (hs : a.eval s = u) {v' : Value} {w' : World}
    (hr : (Builtin.copy_ #[t, t'] o.type #[v, u]).run P w = .ok v' w') (h : K (a.put o.dst v') w') : o.wp P a w K Q := by
  unfold Oper.wp execOp
  simp only [ho, resolve, invoke, builtin, Sem.run_bind, Sem.run_pure, Result.andThen_ok, List.map_toArray, List.map_cons, List.map_nil, hd, hs, hr]
  exact h
theorem ins_wpListCopy (w : World) {ops : Array Oper} {rest : List Oper} {o : Oper} {a : Act} {Q : Exit → Act → World → Prop} (hgd : o.guard = none) (d s : Operand) (t t' : TypeId)
    (ho : o.op = .call { callee := .builtin .copy, args := #[d, s], argTypes := #[t, t'] }) (v u : Value) (hd : a.eval d = v) (hs : a.eval s = u) {v' : Value} {w' : World}
    (hr : (Builtin.copy_ #[t, t'] o.type #[v, u]).run P w = .ok v' w') (h : wpList P ops Q rest (a.put o.dst v') w') : wpList P ops Q (o :: rest) a w :=
  wpList_plain hgd fun _ hK => ins_wpCopy w d s t t' ho v u hd hs hr (hK _ _ h)
theorem ins_stepCopy {ops : Array Oper} {o : Oper} {a : Act} {w : World} {K : Act → World → Prop} {Q : Exit → Act → World → Prop} {E : Prop}
    (hg : o.guard = none) (d x : Operand) (dT sT : TypeId) (hop : o.op = Op.call { callee := Callee.builtin Builtin.copy, args := #[d, x], argTypes := #[dT, sT] })
    (v u : Value) (hd : a.eval d = v) (hx : a.eval x = u) {v' : Value} {w' : World} (hr : (Builtin.copy_ #[dT, sT] o.type #[v, u]).run P w = .ok v' w') (hK : K (a.put o.dst v') w') :
    if Region.wanted o (yielded ops a.tmps) = true then Oper.wp P o a w K Q else E := by
  have hw : Region.wanted o (yielded ops a.tmps) = true := by simp [Region.wanted, hg]
  rw [if_pos hw]
  unfold Oper.wp
  simp [execOp, hop, resolve, invoke, builtin, hd, hx, hr, Result.andThen]
  exact hK
/-- A copy of cells into a block. -/
theorem ins_copy {W : World} {T T' e ty : TypeId} (hT : P.underlying T = some (.slice e)) {size : Nat} (hz : ∀ w, (Go.sizeOf e).run P w = .ok size w) {q o dl dc : Nat} {cur : Array Value} {E : TypeId} (hh : W.heap[q]? = some (.cells cur E (0, 0)))
    {b so sl sc : Nat} (news : List Value) (hnews : ∀ j u, news[j]? = some u → W.cell? ⟨b, so + j, none⟩ = some u) (hl : news.length = min sl dl * size) (h1 : ∀ u ∈ news, u.oneCell' = true) (hfit : o + news.length ≤ cur.size) :
    (Builtin.copy_ #[T, T'] ty #[.slice (some ⟨q, o, none⟩) dl dc, .slice (some ⟨b, so, none⟩) sl sc]).run P W = .ok (goInt ((min sl dl : Nat) : Int)) (W.setRow q (cur.toList.take o ++ news ++ cur.toList.drop (o + news.length)).toArray) := by
  have hld := run_loadCells_list (P := P) (w := W) ⟨b, so, none⟩ news (fun j v hj => by rw [add_at]; exact hnews j v hj)
  rw [hl] at hld
  have hst := run_storeCells_at (P := P) q o E news 0 cur W hh (by simpa using hfit) h1
  simp only [Nat.add_zero] at hst
  have hmm : Nat.min sl dl = min sl dl := rfl
  simp [Builtin.copy_, Builtin.lenOf, run_underlying hT, hz, hmm, Builtin.firstCells, hld, hst]
theorem ins_cells {W : World} {q : Nat} {cur : Array Value} {E : TypeId} {f : Nat × Nat} (h : W.heap[q]? = some (.cells cur E f)) (j : Nat) : W.cell? ⟨q, j, none⟩ = cur[j]? := by
  unfold World.cell?
  simp only [h]
  rfl
/-- What lies in the block when all is done. -/
theorem ins_two (cur CS CV : List Value) (i n m : Nat) (hin : i ≤ n) (hcs : CS.length = n) (hcv : CV.length = m) (hcur : n + m ≤ cur.length) (htk : cur.take n = CS) :
    ((((cur.take (i + m) ++ CS.drop i ++ cur.drop (i + m + (CS.drop i).length)).take i ++ CV ++ (cur.take (i + m) ++ CS.drop i ++ cur.drop (i + m + (CS.drop i).length)).drop (i + CV.length)))).take (n + m) = CS.take i ++ CV ++ CS.drop i := by
  subst htk
  have l1 : (cur.take (i + m)).length = i + m := by rw [List.length_take]; omega
  have l2 : ((cur.take n).drop i).length = n - i := by rw [List.length_drop, hcs]
  have e1 : (cur.take (i + m) ++ (cur.take n).drop i ++ cur.drop (i + m + ((cur.take n).drop i).length)).take i = (cur.take n).take i := by
    rw [List.append_assoc, List.take_append_of_le_length (by rw [l1]; omega), List.take_take, List.take_take, Nat.min_eq_left (by omega), Nat.min_eq_left (by omega)]
  have e2 : (cur.take (i + m) ++ (cur.take n).drop i ++ cur.drop (i + m + ((cur.take n).drop i).length)).drop (i + CV.length) = (cur.take n).drop i ++ cur.drop (i + m + ((cur.take n).drop i).length) := by
    rw [List.append_assoc, List.drop_append_of_le_length (by rw [l1]; omega), hcv, List.drop_eq_nil_of_le (by rw [l1]; omega), List.nil_append]
  rw [e1, e2, ← List.append_assoc, List.take_append_of_le_length, List.take_of_length_le]
  · simp only [List.length_append, List.length_take, l2, hcv]; omega
  · simp only [List.length_append, List.length_take, l2, hcv]; omega
end

/-- The elements' type. -/
abbrev insT : Ty := (.cons (.cons (.int .i64) (.cons (.int .i64) (.cons (.int .i64) (.cons (.int .u32) (.cons (.int .u32) (.cons (.int .u32) (.cons (.int .i64) (.cons (.int .i64) .nil)))))))) (.cons (.sl 5 (.int .u8)) .nil))
def ins.f1 (a : List insT.den × Int × List insT.den × Unit) : Option (List insT.den × Unit) :=
  if 0 ≤ a.2.1 ∧ a.2.1 ≤ (a.1.length : Int) ∧ 0 < a.2.2.1.length ∧ a.1.length + a.2.2.1.length ≤ 1000000000 then some (a.1.take a.2.1.toNat ++ a.2.2.1 ++ a.1.drop a.2.1.toNat, ()) else none

theorem ins_tinfo : ∃ ti, tinfo Go.Proofs.Tryz.prog 40 = some ti ∧ ti.size = insT.sz ∧ 0 < ti.bytes ∧ ti.zero.cells.size = ti.size ∧ ti.bytes ≤ 100000 := by
  have h : (tinfo Go.Proofs.Tryz.prog 40).map (fun ti => (decide (ti.size = insT.sz), Nat.ble 1 ti.bytes, decide (ti.zero.cells.size = ti.size), Nat.ble ti.bytes 100000)) = some (true, true, true, true) := by kernel_rfl
  cases ht : tinfo Go.Proofs.Tryz.prog 40 with
  | none => rw [ht] at h; cases h
  | some ti =>
    rw [ht] at h
    simp only [Option.map_some, Option.some.injEq, Prod.mk.injEq, decide_eq_true_eq, Nat.ble_eq] at h
    exact ⟨ti, rfl, h.1, h.2.1, h.2.2.1, h.2.2.2⟩

def insQ (w : World) (ok : Nat → Prop) (xs : List insT.den) (n : Nat) (v1 v' : Value) (w' : World) : Prop :=
  (∃ css, All2 (En w ok insT) xs css ∧ ownsR w' 40 insT.sz v' n css.flatten) ∧ (blkOf v' = blkOf v1 ∨ ∃ k, blkOf v' = some k ∧ w.heap.size ≤ k) ∧
    w'.os = w.os ∧ w'.tape = w.tape ∧ w'.output = w.output ∧ w.heap.size ≤ w'.heap.size ∧ ∀ k, k < w.heap.size → blkOf v1 ≠ some k → w'.heap[k]? = w.heap[k]?

set_option maxHeartbeats 4000000 in
set_option maxRecDepth 100000 in
theorem ins.end_ (w : World) (ok : Nat → Prop) (xs ys : List insT.den) (v1 v3 : Value) (h1 : RowO w ok 40 insT xs v1) (h3 : RowO w ok 40 insT ys v3) (hm : 0 < ys.length) (hlim : xs.length + ys.length ≤ 1000000000) :
    Calls Go.Proofs.Tryz.prog 46 #[v1, .int .i64 xs.length, v3] w fun e w' => ∃ v', e = .returned v' ∧ insQ w ok (xs ++ ys) (xs.length + ys.length) v1 v' w' := by
  obtain ⟨ti, hti, hsz, hby, hzc, hbl⟩ := ins_tinfo
  obtain ⟨css1, hc1, ho1⟩ := h1
  have hlim' : xs.length + ys.length ≤ maxBytes / ti.bytes := by
    refine (Nat.le_div_iff_mul_le hby).2 ?_
    have := Nat.mul_le_mul hlim hbl
    unfold maxBytes
    omega
  obtain ⟨v', w', csy, hrun, hcy, hown, hgrow, hat⟩ := app_core (P := Go.Proofs.Tryz.prog) (T := 26) (e := 40) Go.Proofs.Tryz.underlying26 hti hsz (by decide) hby hzc ho1 (RowO.src h3) hlim' 26
  obtain ⟨A1, c1, hv1, hn1, _⟩ := RowO.slice_ (⟨css1, hc1, ho1⟩ : RowO w ok 40 insT xs v1)
  obtain ⟨A3, c3, hv3, hn3, _⟩ := RowO.slice_ h3
  subst hv1 hv3
  obtain ⟨n, hn⟩ : ∃ n, xs.length = n := ⟨_, rfl⟩
  obtain ⟨m, hm'⟩ : ∃ m, ys.length = m := ⟨_, rfl⟩
  have hnp : ∀ p, (Value.slice A1 xs.length c1) ≠ .pointer p := by simp
  have hnp' : ∀ p, v' ≠ .pointer p := by
    intro p e
    rcases hown.2 with ⟨h, _⟩ | ⟨q, o, cap, cur, h, _⟩ <;> rw [h] at e <;> cases e
  have hQ : insQ w ok (xs ++ ys) (xs.length + ys.length) (.slice A1 xs.length c1) v' w' := by
    refine ⟨⟨css1 ++ csy, hc1.app hcy, by rw [List.flatten_append]; exact hown⟩, ?_, hgrow.os, hgrow.tape, hgrow.output, hgrow.size, fun k hk hne => hgrow.block k hk (by rw [blk_own _ hnp]; exact fun e => hne e.symm)⟩
    rw [← blk_own _ hnp, ← blk_own _ hnp']
    rcases hat with h | h
    · exact .inl h
    · exact .inr ⟨_, h, Nat.le_refl _⟩
  simp only [hn, hm'] at hrun hQ hn1 hn3 hm hlim ⊢
  have hz1 : ¬ ((m : Int) = 0) := by omega
  have hb1 : (0 : Int) ≤ (n : Int) := by omega
  have hc0 : ((n : Nat) : Int) ≤ (c1 : Int) := by omega
  clear hown hgrow hat hlim' ho1 hc1 h3 hnp hnp'
  by_cases hcn : c1 = n
  · subst hcn
    go_enter Go.Proofs.Tryz.func46, Go.Proofs.Tryz.ntmps46
    go_wp2_with (at_builtin; refine Lib.wpList_append_run _ rfl _ _ _ _ rfl _ _ rfl rfl _ _ hrun ?_)
    go_ret
    exact ⟨_, rfl, hQ⟩
  · have hcn' : ¬ n = c1 := fun h => hcn h.symm
    go_enter Go.Proofs.Tryz.func46, Go.Proofs.Tryz.ntmps46
    go_wp2_with (at_builtin; refine Lib.wpList_append_run _ rfl _ _ _ _ rfl _ _ rfl rfl _ _ hrun ?_)
    go_ret
    exact ⟨_, rfl, hQ⟩

theorem ins_dropPut {α : Type} (l Z : List α) (o a : Nat) (h : o + a ≤ l.length) : (l.take (o + a) ++ Z ++ l.drop (o + a + Z.length)).drop o = (l.drop o).take a ++ Z ++ (l.drop o).drop (a + Z.length) := by
  rw [List.append_assoc, List.drop_append_of_le_length (by rw [List.length_take]; omega), List.drop_take, Nat.add_sub_cancel_left, List.drop_drop, ← List.append_assoc, Nat.add_assoc]
theorem ins_heap {W w : World} (h : W.heap = w.heap) (a : Addr) : W.cell? a = w.cell? a := by unfold World.cell?; rw [h]
theorem ins_row {w : World} {ok : Nat → Prop} {xs : List insT.den} {b o n c : Nat} (h : RowO w ok 40 insT xs (.slice (some ⟨b, o, none⟩) n c)) :
    ∃ cur css, n = xs.length ∧ w.heap[b]? = some (.cells cur 40 (0, 0)) ∧ n ≤ c ∧ c ≤ maxLen ∧ o + c * 9 ≤ cur.size ∧ (cur.toList.drop o).take (n * 9) = css.flatten ∧ All2 (En w ok insT) xs css ∧ css.flatten.length = n * 9 ∧ (∀ u ∈ css.flatten, u.oneCell' = true) ∧ ∀ j u, css.flatten[j]? = some u → w.cell? ⟨b, o + j, none⟩ = some u := by
  obtain ⟨css, hc, ho⟩ := h
  have ho' := ho
  rcases ho.2 with ⟨h, _⟩ | ⟨q, o', cap, cur, hv, _, hh, hn, hm, hcur, htk⟩
  · cases h
  simp only [Value.slice.injEq, Option.some.injEq, Addr.mk.injEq] at hv
  obtain ⟨⟨rfl, rfl, _⟩, rfl, rfl⟩ := hv
  refine ⟨cur, css, rfl, hh, hn, hm, hcur, htk, hc, ho.1, All2_one hc, fun j u hj => ?_⟩
  have := ownsR_cells ho' j u hj
  rwa [add_at] at this

set_option maxHeartbeats 4000000 in
set_option maxRecDepth 100000 in
theorem ins.room (w : World) (ok : Nat → Prop) (xs ys : List insT.den) (b o n c vb vo m vc i : Nat) (h1 : RowO w ok 40 insT xs (.slice (some ⟨b, o, none⟩) n c)) (h3 : RowO w ok 40 insT ys (.slice (some ⟨vb, vo, none⟩) m vc)) (hi : i < n) (hm : 0 < m) (hroom : n + m ≤ c) (hne : vb ≠ b) :
    Calls Go.Proofs.Tryz.prog 46 #[.slice (some ⟨b, o, none⟩) n c, .int .i64 i, .slice (some ⟨vb, vo, none⟩) m vc] w fun e w' => ∃ v', e = .returned v' ∧ insQ w ok (xs.take i ++ ys ++ xs.drop i) (n + m) (.slice (some ⟨b, o, none⟩) n c) v' w' := by
  obtain ⟨cur, css, hn, hh, hnc, hcm, hcur, htk, hcs, hcl, h1c, hcell⟩ := ins_row h1
  obtain ⟨cur3, csv, hm', hh3, hmc, hcm3, hcur3, htk3, hcv, hvl, h1v, hcell3⟩ := ins_row h3
  obtain ⟨ti, hti, hsz, hby, hzc, hbl⟩ := ins_tinfo
  have hz : ∀ w, (Go.sizeOf 40).run Go.Proofs.Tryz.prog w = .ok 9 w := fun w => by rw [Go.Proofs.Fr.run_sizeOf hti w, hsz]; rfl
  have hT : Go.Proofs.Tryz.prog.underlying 26 = some (.slice 40) := Go.Proofs.Tryz.underlying26
  have hov : ∀ lb cb, (callFunc 78 #[.slice (some ⟨vb, vo, none⟩) m vc, .slice (some ⟨b, o + (i + m) * 9, none⟩) lb cb]).run Go.Proofs.Tryz.prog w = .ok (.value (.bool false)) w := fun lb cb => by
    rw [run_callFunc_extern Go.Proofs.Tryz.func78 (by kernel_rfl) (by kernel_rfl) (by kernel_rfl) (e := Extern.SlicesOverlaps.overlaps #[26, 26] #[4]) (by kernel_rfl),
      Lib.run_overlaps_apart w 26 4 40 hT 9 hz ⟨vb, vo, none⟩ ⟨b, o + (i + m) * 9, none⟩ m vc lb cb hne 40 40 cur3.size cur.size (by simp [World.shape?, hh3]) (by simp [World.shape?, hh]) (by omega) (by simp [World.frozen?, hh3]) (by simp [World.frozen?, hh3])]
    rfl
  have hdl : (css.flatten.drop (i * 9)).length = (n - i) * 9 := by rw [List.length_drop, hcl]; omega
  have hcp1 : ∀ (W : World) ty dc sc, W.heap = w.heap → (Builtin.copy_ #[26, 26] ty #[.slice (some ⟨b, o + (i + m) * 9, none⟩) (n + m - (i + m)) dc, .slice (some ⟨b, o + i * 9, none⟩) (n + m - i) sc]).run Go.Proofs.Tryz.prog W = .ok (goInt (((n - i : Nat)) : Int)) (W.setRow b (cur.toList.take (o + (i + m) * 9) ++ css.flatten.drop (i * 9) ++ cur.toList.drop (o + (i + m) * 9 + (css.flatten.drop (i * 9)).length)).toArray) := fun W ty dc sc hW => by
    have := ins_copy (P := Go.Proofs.Tryz.prog) (W := W) (T := 26) (T' := 26) (ty := ty) hT hz (q := b) (o := o + (i + m) * 9) (dl := n + m - (i + m)) (dc := dc) (by rw [hW]; exact hh) (b := b) (so := o + i * 9) (sl := n + m - i) (sc := sc) (css.flatten.drop (i * 9)) (fun j u hj => by
      rw [ins_heap hW, Nat.add_assoc]
      exact hcell _ u (by rwa [List.getElem?_drop] at hj)) (by rw [hdl]; omega) (fun u hu => h1c u (List.mem_of_mem_drop hu)) (by rw [hdl]; omega)
    rw [this]
    have : min (n + m - i) (n + m - (i + m)) = n - i := by omega
    rw [this]
  obtain ⟨cur1, hcur1⟩ : ∃ cur1 : List Value, cur1 = cur.toList.take (o + (i + m) * 9) ++ css.flatten.drop (i * 9) ++ cur.toList.drop (o + (i + m) * 9 + (css.flatten.drop (i * 9)).length) := ⟨_, rfl⟩
  have hl1 : cur1.length = cur.size := by
    rw [hcur1]; simp only [List.length_append, List.length_take, List.length_drop, Array.length_toList, hcl]; omega
  rw [← hcur1] at hcp1
  have hcp2 : ∀ (W : World) ty dc, W.heap = (w.setRow b cur1.toArray).heap → (Builtin.copy_ #[26, 26] ty #[.slice (some ⟨b, o + i * 9, none⟩) (n + m - i) dc, .slice (some ⟨vb, vo, none⟩) m vc]).run Go.Proofs.Tryz.prog W = .ok (goInt ((m : Nat) : Int)) (W.setRow b (cur1.take (o + i * 9) ++ csv.flatten ++ cur1.drop (o + i * 9 + csv.flatten.length)).toArray) := fun W ty dc hW => by
    have := ins_copy (P := Go.Proofs.Tryz.prog) (W := W) (T := 26) (T' := 26) (ty := ty) hT hz (q := b) (o := o + i * 9) (dl := n + m - i) (dc := dc) (cur := cur1.toArray) (by rw [hW]; exact setRow_heap w b cur _ _ _ hh) (b := vb) (so := vo) (sl := m) (sc := vc) csv.flatten (fun j u hj => by
      rw [ins_heap hW, cell_same (setRow_other w b vb _ hne)]
      exact hcell3 j u hj) (by rw [hvl]; omega) h1v (by rw [hvl]; simp only [List.size_toArray, hl1]; omega)
    rw [this]
    have : min m (n + m - i) = m := by omega
    rw [this]
  obtain ⟨cur2, hcur2⟩ : ∃ cur2 : List Value, cur2 = cur1.take (o + i * 9) ++ csv.flatten ++ cur1.drop (o + i * 9 + csv.flatten.length) := ⟨_, rfl⟩
  have hl2 : cur2.length = cur.size := by
    rw [hcur2]; simp only [List.length_append, List.length_take, List.length_drop, hl1, hvl]; omega
  rw [← hcur2] at hcp2
  have hfin : (cur2.drop o).take ((n + m) * 9) = css.flatten.take (i * 9) ++ csv.flatten ++ css.flatten.drop (i * 9) := by
    have e2 : cur2.drop o = (cur1.drop o).take (i * 9) ++ csv.flatten ++ (cur1.drop o).drop (i * 9 + csv.flatten.length) := by
      rw [hcur2]; exact ins_dropPut _ _ _ _ (by rw [hl1]; omega)
    have e1 : cur1.drop o = (cur.toList.drop o).take ((i + m) * 9) ++ css.flatten.drop (i * 9) ++ (cur.toList.drop o).drop ((i + m) * 9 + (css.flatten.drop (i * 9)).length) := by
      rw [hcur1]; exact ins_dropPut _ _ _ _ (by rw [Array.length_toList]; omega)
    have h2 := ins_two (cur.toList.drop o) css.flatten csv.flatten (i * 9) (n * 9) (m * 9) (by omega) hcl hvl (by rw [List.length_drop, Array.length_toList]; omega) htk
    rw [e2, e1, Nat.add_mul, Nat.add_mul]
    exact h2
  have hQ : ∀ (w1 w2 : World), w1.heap = w.heap → w1.os = w.os → w1.tape = w.tape → w1.output = w.output → w2.heap = ((w1.setRow b cur1.toArray).setRow b cur2.toArray).heap → w2.os = w.os → w2.tape = w.tape → w2.output = w.output → insQ w ok (xs.take i ++ ys ++ xs.drop i) (n + m) (.slice (some ⟨b, o, none⟩) n c) (.slice (some ⟨b, o, none⟩) (n + m) c) w2 := by
    intro w1 w2 q1 q2 q3 q4 q5 q6 q7 q8
    have hcl' : ∀ x ∈ css, x.length = insT.sz := fun x hx => by obtain ⟨j, hj, rfl⟩ := List.getElem_of_mem hx; exact (hcs.get j (hcs.len ▸ hj) hj).len
    have hb1 : w1.heap[b]? = some (.cells cur 40 (0, 0)) := by rw [q1]; exact hh
    refine ⟨⟨css.take i ++ csv ++ css.drop i, ((hcs.take i).app hcv).app (hcs.drop i), ?_, .inr ⟨b, o, c, cur2.toArray, rfl, Nat.zero_le _, ?_, hroom, hcm, ?_, ?_⟩⟩, .inl rfl, q6, q7, q8, ?_, fun k hk hk2 => ?_⟩
    · rw [List.flatten_append, List.flatten_append, take_flat css i hcl', drop_flat css i hcl']
      show (css.flatten.take (i * 9) ++ csv.flatten ++ css.flatten.drop (i * 9)).length = (n + m) * 9
      simp only [List.length_append, List.length_take, List.length_drop, hcl, hvl]; omega
    · rw [q5]; exact setRow_heap _ b _ _ _ _ (setRow_heap w1 b cur _ _ _ hb1)
    · show o + c * 9 ≤ _
      simp only [List.size_toArray, hl2]; exact hcur
    · rw [List.flatten_append, List.flatten_append, take_flat css i hcl', drop_flat css i hcl', List.toList_toArray]
      exact hfin
    · rw [q5]; simp [World.setRow, q1]
    · have hkb : k ≠ b := fun e => hk2 (by rw [e]; rfl)
      rw [q5, setRow_other _ b k _ hkb, setRow_other _ b k _ hkb, q1]
  have hz1 : ¬ ((m : Int) = 0) := by omega
  have hz2 : ¬ ((i : Int) = (n : Int)) := by omega
  have hw1 : IntKind.i64.wrap ((i : Int) + (m : Int)) = (i : Int) + (m : Int) := by rw [IntKind.wrap_i64]; unfold maxLen at hcm; omega
  have hw2 : IntKind.i64.wrap ((n : Int) + (m : Int)) = (n : Int) + (m : Int) := by rw [IntKind.wrap_i64]; unfold maxLen at hcm; omega
  have hb1 : (0 : Int) ≤ (i : Int) + (m : Int) := by omega
  have hin : i ≤ n := by omega
  have htn : ((i : Int) + (m : Int)).toNat = i + m := by omega
  have hb2 : ¬ (c = i + m) := by omega
  have hb3 : (i : Int) ≤ (n : Int) + (m : Int) := by omega
  have hb4 : ¬ (c = i) := by omega
  have hr1 : ¬ ((c : Int) < (n : Int) + (m : Int)) := by omega
  clear h1 h3 hcell hcell3 htk htk3 hh hh3 hcur hcur3 hcl hvl h1c h1v hfin hl1 hl2 hdl hcs hcv hcm hcm3
  have mixed : Go.Proofs.Tryz.prog.follows .mixedOrders = true := by kernel_rfl
  clear hn hm' hcur1 hcur2 hti hsz hby hzc hbl hz hT
  go_enter Go.Proofs.Tryz.func46, Go.Proofs.Tryz.ntmps46
  go_wp2_with (simp only [hov])
  go_region_law_o (refine ins_stepCopy rfl _ _ 26 26 rfl _ _ (by simp [Act.eval, Act.put]) (by simp [Act.eval, Act.put]) (hcp1 w.drew 3 (c - (i + m)) (c - i) rfl) ?_)
  have hc2 := hcp2 (w.drew.setRow b cur1.toArray) 3 (c - i) rfl
  go_wp2
  go_ret
  exact ⟨_, rfl, hQ w _ rfl rfl rfl rfl rfl rfl rfl rfl⟩

theorem ins_three (R CS CV : List Value) (a n m : Nat) (ha : a ≤ n) (hcs : CS.length = n) (hcv : CV.length = m) (hR : n + m ≤ R.length) (hRt : R.take a = CS.take a) :
    ((R.take a ++ CV ++ R.drop (a + CV.length)).take (a + m) ++ CS.drop a ++ (R.take a ++ CV ++ R.drop (a + CV.length)).drop (a + m + (CS.drop a).length)).take (n + m) = CS.take a ++ CV ++ CS.drop a := by
  have l1 : (R.take a ++ CV).length = a + m := by rw [List.length_append, List.length_take, hcv]; omega
  have e1 : (R.take a ++ CV ++ R.drop (a + CV.length)).take (a + m) = R.take a ++ CV := by rw [← l1, List.take_left]
  have l2 : (R.take a ++ CV ++ CS.drop a).length = n + m := by rw [List.length_append, l1, List.length_drop, hcs]; omega
  rw [e1, ← l2, List.take_left, hRt]

set_option maxHeartbeats 4000000 in
set_option maxRecDepth 100000 in
theorem ins.grow (w : World) (ok : Nat → Prop) (xs ys : List insT.den) (b o n c vb vo m vc i : Nat) (h1 : RowO w ok 40 insT xs (.slice (some ⟨b, o, none⟩) n c)) (h3 : RowO w ok 40 insT ys (.slice (some ⟨vb, vo, none⟩) m vc)) (hi : i < n) (hm : 0 < m) (hroom : c < n + m) (hlim : n + m ≤ 1000000000) :
    Calls Go.Proofs.Tryz.prog 46 #[.slice (some ⟨b, o, none⟩) n c, .int .i64 i, .slice (some ⟨vb, vo, none⟩) m vc] w fun e w' => ∃ v', e = .returned v' ∧ insQ w ok (xs.take i ++ ys ++ xs.drop i) (n + m) (.slice (some ⟨b, o, none⟩) n c) v' w' := by
  obtain ⟨cur, css, hn, hh, hnc, hcm, hcur, htk, hcs, hcl, h1c, hcell⟩ := ins_row h1
  obtain ⟨cur3, csv, hm', hh3, hmc, hcm3, hcur3, htk3, hcv, hvl, h1v, hcell3⟩ := ins_row h3
  obtain ⟨ti, hti, hsz, hby, hzc, hbl⟩ := ins_tinfo
  obtain ⟨_, it, hit, hiz, his, hib⟩ := tinfo_facts hti
  have hz : ∀ w, (Go.sizeOf 40).run Go.Proofs.Tryz.prog w = .ok 9 w := fun w => by rw [Go.Proofs.Fr.run_sizeOf hti w, hsz]; rfl
  have hT : Go.Proofs.Tryz.prog.underlying 26 = some (.slice 40) := Go.Proofs.Tryz.underlying26
  have hs9 : it.size = 9 := by rw [his, hsz]; rfl
  have hbw : b < w.heap.size := (Array.getElem?_eq_some_iff.1 hh).1
  have hvw : vb < w.heap.size := (Array.getElem?_eq_some_iff.1 hh3).1
  have hdl : (css.flatten.drop (i * 9)).length = (n - i) * 9 := by rw [List.length_drop, hcl]; omega
  have htl : (css.flatten.take (i * 9)).length = i * 9 := by rw [List.length_take, hcl]; omega
  have hold : (Builtin.firstCells it.size i (.slice (some ⟨b, o, none⟩) i c)).run Go.Proofs.Tryz.prog w.drew = .ok (css.flatten.take (i * 9)).toArray w.drew := by
    rw [hs9]
    have := run_loadCells_list (P := Go.Proofs.Tryz.prog) (w := w.drew) ⟨b, o, none⟩ (css.flatten.take (i * 9)) (fun j v hj => by
      have hlt := (List.getElem?_eq_some_iff.1 hj).1
      rw [List.getElem?_take_of_lt (by rw [htl] at hlt; omega)] at hj
      rw [add_at]
      exact hcell j v hj)
    rw [htl] at this
    simpa [Builtin.firstCells] using this
  have hmul : (n + m) * ti.bytes ≤ 140737488355328 := by
    have := Nat.mul_le_mul hlim hbl
    omega
  have hrz : ∀ ty, (Builtin.append_ #[26, 3] ty #[.slice (some ⟨b, o, none⟩) i c, .int .i64 ((n : Int) + (m : Int) - (i : Int))]).run Go.Proofs.Tryz.prog w =
      .ok (.slice (some ⟨w.heap.size, 0, none⟩) (n + m) (grownCap w (n + m) c 40)) (w.drew.alloc (.cells ((css.flatten.take (i * 9)).toArray ++ Builtin.zeroCells ti.zero.cells (n + m - i) ++ Builtin.zeroCells ti.zero.cells (grownCap w (n + m) c 40 - (n + m))) 40)) := fun ty => by
    have hik : i + (n + m - i) = n + m := by omega
    have hkk : (n : Int) + (m : Int) - (i : Int) = ((n + m - i : Nat) : Int) := by omega
    have h := Lib.run_append_grow_zeros (P := Go.Proofs.Tryz.prog) w 26 3 ty 40 it _ .i64 .i64 hT Go.Proofs.Tryz.underlying3 hit hiz (some ⟨b, o, none⟩) i c (css.flatten.take (i * 9)) hold (n + m - i) (by omega) (by omega) (by omega) (by omega) (by rw [hib]; have := Nat.mul_le_mul_right ti.bytes (show n + m - i ≤ n + m by omega); omega) (by rw [hik, hib]; exact growslice_fits hroom hmul)
    rw [hik] at h
    rw [hkk]
    exact h
  obtain ⟨G, hG⟩ : ∃ G, G = grownCap w (n + m) c 40 := ⟨_, rfl⟩
  obtain ⟨ROW, hROW⟩ : ∃ ROW : Array Value, ROW = (css.flatten.take (i * 9)).toArray ++ Builtin.zeroCells ti.zero.cells (n + m - i) ++ Builtin.zeroCells ti.zero.cells (G - (n + m)) := ⟨_, rfl⟩
  rw [← hG] at hrz
  rw [← hROW] at hrz
  have hGn : n + m ≤ G := by rw [hG]; exact grownCap_ge w _ _ _
  have hG63 : G ≤ maxLen := by rw [hG]; exact grownCap_le_maxLen w (n + m) c 40 (by unfold maxLen; omega)
  have hzz : ti.zero.cells.size = 9 := by rw [hzc, hsz]; rfl
  have hRl : ROW.size = G * 9 := by
    rw [hROW]
    simp only [Array.size_append, List.size_toArray, size_zeroCells, htl, hzz]
    omega
  have hRt : ROW.toList.take (i * 9) = css.flatten.take (i * 9) := by
    rw [hROW]
    simp only [Array.toList_append, List.append_assoc]
    have := htl
    rw [List.take_append_of_le_length (by rw [htl]; exact Nat.le_refl _), List.take_of_length_le (by rw [htl]; exact Nat.le_refl _)]
  obtain ⟨N, hN⟩ : ∃ N, N = w.heap.size := ⟨_, rfl⟩
  have hnew : (w.drew.alloc (.cells ROW 40)).heap[N]? = some (.cells ROW 40 (0, 0)) := by rw [hN]; exact heap_alloc_new w.drew _
  have hso : ∀ k, k < N → (w.drew.alloc (.cells ROW 40)).heap[k]? = w.heap[k]? := fun k hk => heap_alloc_old w.drew _ (by rw [hN] at hk; exact hk)
  have hcA : ∀ (W : World) ty dc, W.heap = (w.drew.alloc (.cells ROW 40)).heap → (Builtin.copy_ #[26, 26] ty #[.slice (some ⟨N, i * 9, none⟩) (n + m - i) dc, .slice (some ⟨vb, vo, none⟩) m vc]).run Go.Proofs.Tryz.prog W = .ok (goInt ((m : Nat) : Int)) (W.setRow N (ROW.toList.take (i * 9) ++ csv.flatten ++ ROW.toList.drop (i * 9 + csv.flatten.length)).toArray) := fun W ty dc hW => by
    have := ins_copy (P := Go.Proofs.Tryz.prog) (W := W) (T := 26) (T' := 26) (ty := ty) hT hz (q := N) (o := i * 9) (dl := n + m - i) (dc := dc) (cur := ROW) (by rw [hW]; exact hnew) (b := vb) (so := vo) (sl := m) (sc := vc) csv.flatten (fun j u hj => by
      rw [ins_heap hW, cell_same (hso vb (by omega))]
      exact hcell3 j u hj) (by rw [hvl]; omega) h1v (by rw [hvl, hRl]; omega)
    rw [this]
    have : min m (n + m - i) = m := by omega
    rw [this]
  obtain ⟨cur1, hcur1⟩ : ∃ cur1 : List Value, cur1 = ROW.toList.take (i * 9) ++ csv.flatten ++ ROW.toList.drop (i * 9 + csv.flatten.length) := ⟨_, rfl⟩
  have hl1 : cur1.length = G * 9 := by
    rw [hcur1]; simp only [List.length_append, List.length_take, List.length_drop, Array.length_toList, hvl, hRl]; omega
  rw [← hcur1] at hcA
  have hcB : ∀ (W : World) ty dc sc, W.heap = ((w.drew.alloc (.cells ROW 40)).setRow N cur1.toArray).heap → (Builtin.copy_ #[26, 26] ty #[.slice (some ⟨N, (i + m) * 9, none⟩) (n + m - (i + m)) dc, .slice (some ⟨b, o + i * 9, none⟩) (n - i) sc]).run Go.Proofs.Tryz.prog W = .ok (goInt ((n - i : Nat) : Int)) (W.setRow N (cur1.take ((i + m) * 9) ++ css.flatten.drop (i * 9) ++ cur1.drop ((i + m) * 9 + (css.flatten.drop (i * 9)).length)).toArray) := fun W ty dc sc hW => by
    have := ins_copy (P := Go.Proofs.Tryz.prog) (W := W) (T := 26) (T' := 26) (ty := ty) hT hz (q := N) (o := (i + m) * 9) (dl := n + m - (i + m)) (dc := dc) (cur := cur1.toArray) (by rw [hW]; exact setRow_heap _ N ROW _ _ _ hnew) (b := b) (so := o + i * 9) (sl := n - i) (sc := sc) (css.flatten.drop (i * 9)) (fun j u hj => by
      rw [ins_heap hW, cell_same (setRow_other _ N b _ (by omega)), cell_same (hso b (by omega)), Nat.add_assoc]
      exact hcell _ u (by rwa [List.getElem?_drop] at hj)) (by rw [hdl]; omega) (fun u hu => h1c u (List.mem_of_mem_drop hu)) (by rw [hdl]; simp only [List.size_toArray, hl1]; omega)
    rw [this]
    have : min (n - i) (n + m - (i + m)) = n - i := by omega
    rw [this]
  obtain ⟨cur2, hcur2⟩ : ∃ cur2 : List Value, cur2 = cur1.take ((i + m) * 9) ++ css.flatten.drop (i * 9) ++ cur1.drop ((i + m) * 9 + (css.flatten.drop (i * 9)).length) := ⟨_, rfl⟩
  have hl2 : cur2.length = G * 9 := by
    rw [hcur2]; simp only [List.length_append, List.length_take, List.length_drop, hl1, hcl]; omega
  rw [← hcur2] at hcB
  have hfin : cur2.take ((n + m) * 9) = css.flatten.take (i * 9) ++ csv.flatten ++ css.flatten.drop (i * 9) := by
    have h2 := ins_three ROW.toList css.flatten csv.flatten (i * 9) (n * 9) (m * 9) (by omega) hcl hvl (by rw [Array.length_toList, hRl]; omega) hRt
    rw [hcur2, hcur1, Nat.add_mul, Nat.add_mul]
    exact h2
  have hQ : ∀ (w2 : World), w2.heap = (((w.drew.alloc (.cells ROW 40)).setRow N cur1.toArray).setRow N cur2.toArray).heap → w2.os = w.os → w2.tape = w.tape → w2.output = w.output → insQ w ok (xs.take i ++ ys ++ xs.drop i) (n + m) (.slice (some ⟨b, o, none⟩) n c) (.slice (some ⟨N, 0, none⟩) (n + m) G) w2 := by
    intro w2 q5 q6 q7 q8
    have hcl' : ∀ x ∈ css, x.length = insT.sz := fun x hx => by obtain ⟨j, hj, rfl⟩ := List.getElem_of_mem hx; exact (hcs.get j (hcs.len ▸ hj) hj).len
    refine ⟨⟨css.take i ++ csv ++ css.drop i, ((hcs.take i).app hcv).app (hcs.drop i), ?_, .inr ⟨N, 0, G, cur2.toArray, rfl, Nat.zero_le _, ?_, hGn, hG63, ?_, ?_⟩⟩, .inr ⟨N, rfl, by omega⟩, q6, q7, q8, ?_, fun k hk hk2 => ?_⟩
    · rw [List.flatten_append, List.flatten_append, take_flat css i hcl', drop_flat css i hcl']
      show (css.flatten.take (i * 9) ++ csv.flatten ++ css.flatten.drop (i * 9)).length = (n + m) * 9
      simp only [List.length_append, List.length_take, List.length_drop, hcl, hvl]; omega
    · rw [q5]; exact setRow_heap _ N _ _ _ _ (setRow_heap _ N ROW _ _ _ hnew)
    · show 0 + G * 9 ≤ _
      simp only [List.size_toArray, hl2, Nat.zero_add, Nat.le_refl]
    · rw [List.flatten_append, List.flatten_append, take_flat css i hcl', drop_flat css i hcl', List.toList_toArray, List.drop_zero]
      exact hfin
    · rw [q5]
      have hss : ∀ (W : World) q arr, (W.setRow q arr).heap.size = W.heap.size := fun _ _ _ => by simp [World.setRow]
      rw [hss, hss]
      show w.heap.size ≤ (w.heap.push _).size
      rw [Array.size_push]
      omega
    · have hkb : k ≠ N := by omega
      rw [q5, setRow_other _ N k _ hkb, setRow_other _ N k _ hkb, hso k (by omega)]
  have hz1 : ¬ ((m : Int) = 0) := by omega
  have hz2 : ¬ ((i : Int) = (n : Int)) := by omega
  have hw1 : IntKind.i64.wrap ((i : Int) + (m : Int)) = (i : Int) + (m : Int) := by rw [IntKind.wrap_i64]; omega
  have hw2 : IntKind.i64.wrap ((n : Int) + (m : Int)) = (n : Int) + (m : Int) := by rw [IntKind.wrap_i64]; omega
  have hw3 : IntKind.i64.wrap ((n : Int) + (m : Int) - (i : Int)) = (n : Int) + (m : Int) - (i : Int) := by rw [IntKind.wrap_i64]; omega
  have hb1 : (0 : Int) ≤ (i : Int) + (m : Int) := by omega
  have hin : i ≤ n := by omega
  have htn : ((i : Int) + (m : Int)).toNat = i + m := by omega
  have hb2 : ¬ (G = i + m) := by omega
  have hb3 : (i : Int) ≤ (n : Int) + (m : Int) := by omega
  have hb4 : ¬ (c = i) := by omega
  have hb5 : ¬ (G = i) := by omega
  have hb6 : (i : Int) ≤ (n : Int) := by omega
  have hb7 : (i : Int) ≤ (c : Int) := by omega
  have hr1 : (c : Int) < (n : Int) + (m : Int) := by omega
  have mixed : Go.Proofs.Tryz.prog.follows .mixedOrders = true := by kernel_rfl
  have hcA' := hcA (w.alloc (.cells ROW 40)).drew 3 (G - i) rfl
  have hcB' := hcB ((w.alloc (.cells ROW 40)).drew.setRow N cur1.toArray).drew 3 (G - (i + m)) (c - i) rfl
  rw [hN] at hcA' hcB' hQ
  clear h1 h3 hcell hcell3 htk htk3 hh hh3 hcur hcur3 hcl hvl h1c h1v hfin hl1 hl2 hdl hcs hcv hcm hcm3 hnew hso hold htl hRt hRl hmul hG63 hcA hcB
  clear hn hm' hcur1 hcur2 hti hsz hby hzc hbl hz hT hzz hit hiz his hib hs9 hROW hG hN
  go_enter Go.Proofs.Tryz.func46, Go.Proofs.Tryz.ntmps46
  go_wp2_with (at_builtin; refine Lib.wpList_append_run _ rfl _ _ _ _ rfl _ _ rfl rfl _ _ (hrz _) ?_)
  go_region_law_o (refine ins_stepCopy rfl _ _ 26 26 rfl _ _ (by simp [Act.eval, Act.put]) (by simp [Act.eval, Act.put]) hcB' ?_)
  go_wp2
  go_ret
  exact ⟨_, rfl, hQ _ rfl rfl rfl rfl⟩

noncomputable def slices_Insert_api_Ad_api_Ad.f (a : dens [.own 40 insT, .v (.int .i64), .own 40 insT]) : Option (dens [.own 40 insT]) := ins.f1 a
noncomputable def slices_Insert_api_Ad_api_Ad.sp : Sp := ⟨[.own 40 insT, .v (.int .i64), .own 40 insT], [.own 40 insT], slices_Insert_api_Ad_api_Ad.f⟩

theorem ins_some {w : World} {ok : Nat → Prop} {xs : List insT.den} {v : Value} (h : RowO w ok 40 insT xs v) (h0 : 0 < xs.length) : ∃ b o c, v = .slice (some ⟨b, o, none⟩) xs.length c := by
  obtain ⟨css, hc, ho⟩ := h
  rcases ho.2 with ⟨_, h⟩ | ⟨q, o', cap, cur, hv, _⟩
  · omega
  · exact ⟨q, o', cap, hv⟩

theorem slices_Insert_api_Ad_api_Ad.sound : Sound Go.Proofs.Tryz.prog 46 slices_Insert_api_Ad_api_Ad.sp := ⟨ent_of Go.Proofs.Tryz.func46 (by kernel_rfl) (by kernel_rfl), by
  intro x y hy w vs ok bs hok hargs hnd hdis
  obtain ⟨xs, i, ys, _⟩ := x
  obtain ⟨c1, r1, b1, d1, rfl, rfl, ⟨v1, rfl, hr1, rfl⟩, c2, r2, b2, d2, rfl, rfl, ⟨hi1, rfl⟩, c3, r3, b3, d3, rfl, rfl, ⟨v3, rfl, hr3, rfl⟩, rfl, rfl⟩ := hargs
  have hi1' : c2 = [.int .i64 i] := hi1
  subst hi1'
  have hy' : ins.f1 (xs, i, ys, ()) = some y := hy
  unfold ins.f1 at hy'
  dsimp only at hy'
  split at hy'
  rotate_left
  · cases hy'
  rename_i hc
  cases hy'
  obtain ⟨hi0, hin, hm, hlim⟩ := hc
  obtain ⟨n, rfl⟩ : ∃ n : Nat, i = (n : Int) := Int.eq_ofNat_of_zero_le hi0
  have hin' : n ≤ xs.length := by omega
  have hx1 : RowO w ok 40 insT xs v1 := hr1
  have hx3 : RowO w ok 40 insT ys v3 := hr3
  have key : Calls Go.Proofs.Tryz.prog 46 #[v1, .int .i64 n, v3] w fun e w' => ∃ v', e = .returned v' ∧ insQ w ok (xs.take n ++ ys ++ xs.drop n) (xs.length + ys.length) v1 v' w' := by
    by_cases hend : n = xs.length
    · subst hend
      have := ins.end_ w ok xs ys v1 v3 hx1 hx3 hm hlim
      rw [List.take_length, List.drop_length, List.append_nil]
      exact this
    · obtain ⟨b, o, c, hv1⟩ := ins_some hx1 (by omega)
      obtain ⟨vb, vo, vc, hv3⟩ := ins_some hx3 hm
      have hne : vb ≠ b := by
        intro e
        have h1 : blkOf v1 = some b := by rw [hv1]; rfl
        have h3 : blkOf v3 = some vb := by rw [hv3]; rfl
        rw [h1, h3, e] at hnd
        simp at hnd
      rw [hv1] at hx1 ⊢
      rw [hv3] at hx3 ⊢
      by_cases hroom : xs.length + ys.length ≤ c
      · exact ins.room w ok xs ys b o xs.length c vb vo ys.length vc n hx1 hx3 (by omega) hm hroom hne
      · exact ins.grow w ok xs ys b o xs.length c vb vo ys.length vc n hx1 hx3 (by omega) hm (by omega) hlim
  refine Calls.mono key ?_
  rintro e w' ⟨v', rfl, ⟨css, hcs, hown⟩, hblk, q1, q2, q3, q4, q5⟩
  have hlen : (xs.take n ++ ys ++ xs.drop n).length = xs.length + ys.length := by simp only [List.length_append, List.length_take, List.length_drop]; omega
  have hokne : ∀ k, ok k → blkOf v1 ≠ some k := fun k hk e => hdis k (by rw [e]; simp) hk
  have hsame : ∀ k, ok k → ok k ∧ w'.heap[k]? = w.heap[k]? := fun k hk => ⟨hk, q5 k (hok k hk) (hokne k hk)⟩
  have hrow : RowO w' ok 40 insT (xs.take n ++ ys ++ xs.drop n) v' := ⟨css, hcs.mono fun _ _ h => En.mono hsame h, by rw [hlen]; exact hown⟩
  refine ⟨[v'], (blkOf v').toList, ok, rfl, rfl, ⟨[v'], [], (blkOf v').toList, [], rfl, by simp, ⟨v', rfl, by simpa using hrow, rfl⟩, rfl, rfl⟩, ?_, fun b hb => ?_, fun k hk => ⟨.inl hk, Nat.lt_of_lt_of_le (hok k hk) q4, fun hb => ?_⟩, ⟨q1, q2, q3, q4, fun k hk hno => q5 k hk fun e => hno (.inl (by rw [e]; simp))⟩⟩
  · cases blkOf v' <;> simp
  · rcases hblk with h | ⟨k, h, hk⟩
    · left; rw [h] at hb; simp only [List.mem_append]; exact .inl hb
    · rw [h] at hb
      simp at hb
      subst hb
      exact .inr hk
  · rcases hblk with h | ⟨j, h, hj⟩
    · rw [h] at hb
      cases e : blkOf v1 with
      | none => rw [e] at hb; simp at hb
      | some q =>
        rw [e] at hb
        simp at hb
        subst hb
        exact hokne k hk e
    · rw [h] at hb
      simp at hb
      subst hb
      exact absurd (hok k hk) (by omega), fun n h => (by
  have h' : (none : Option Nat) = some n := h
  cases h')⟩
end Go.Proofs.YthbcmgpmjljdeaaGreat.F
