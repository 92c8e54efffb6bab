/- The pages of a list of entries, walked by hand for the frame; by this project. -/
import Derived.Test.YtocloebloblodaaFentc
namespace Go.Proofs.Ytocloebloblodaa.F
open Go Go.RowKit Go.Proofs Go.Proofs.Fr Go.Shelf
set_option linter.unusedVariables false
set_option linter.unusedSimpArgs false
attribute [local go_sem] Oper.semAt_some
/-- What a list of entries is written as. -/
def enThs (es : List EnT) : List (Int × List Int × Unit) := (enPre es.length ((es.length + 14) / 15)).map fun x => (9, enBs (enRow es x.1), ())
def enY (es : List EnT) : List Int × Int × Unit := if es.all enFit = true then (Ytocloebloblodaag.F.thsB (enThs es), 0, ()) else ([], 1, ())
theorem ent.first (w : World) (es : List EnT) (A : Option Addr) (c : Nat) {w1 : World} (h : w1 = ((((w.alloc (.cells #[.slice none 0 0] 27)).alloc (.cells #[.int .i64 0] 30)).alloc (.cells #[.slice none 0 0] 24)).alloc (.cells #[.slice A es.length c] 62)).alloc (.cells #[.int .i64 15] 3)) :
    w1.heap.size = w.heap.size + 5 ∧ Boxed w1 w.heap.size 27 (.slice none 0 0) ∧ Boxed w1 (w.heap.size + 1) 30 (.int .i64 0) ∧ Boxed w1 (w.heap.size + 2) 24 (.slice none 0 0) ∧
      w1.cell? ⟨w.heap.size + 1 + 1 + 1, 0, none⟩ = some (.slice A es.length c) ∧ w1.cell? ⟨w.heap.size + 1 + 1 + 1 + 1, 0, none⟩ = some (.int .i64 15) ∧ EnI w es [] w1 := by
  subst h
  have b1 := Boxed.new w 27 (.slice none 0 0)
  have b2 := Boxed.new (w.alloc (.cells #[.slice none 0 0] 27)) 30 (.int .i64 0)
  have b3 := Boxed.new ((w.alloc (.cells #[.slice none 0 0] 27)).alloc (.cells #[.int .i64 0] 30)) 24 (.slice none 0 0)
  have b4 := Boxed.new (((w.alloc (.cells #[.slice none 0 0] 27)).alloc (.cells #[.int .i64 0] 30)).alloc (.cells #[.slice none 0 0] 24)) 62 (.slice A es.length c)
  have b5 := Boxed.new ((((w.alloc (.cells #[.slice none 0 0] 27)).alloc (.cells #[.int .i64 0] 30)).alloc (.cells #[.slice none 0 0] 24)).alloc (.cells #[.slice A es.length c] 62)) 3 (.int .i64 15)
  rw [World.size_alloc] at b2
  rw [World.size_alloc, World.size_alloc] at b3
  rw [World.size_alloc, World.size_alloc, World.size_alloc] at b4
  rw [World.size_alloc, World.size_alloc, World.size_alloc, World.size_alloc] at b5
  exact ⟨by simp, (((b1.alloc _).alloc _).alloc _).alloc _, ((b2.alloc _).alloc _).alloc _, (b3.alloc _).alloc _, (b4.alloc _).cell, b5.cell, (((b1.alloc _).alloc _).alloc _).alloc _, ((b2.alloc _).alloc _).alloc _, fun x hx => (by cases hx),
    (((((Below.refl w.heap.size w).alloc (Nat.le_refl _) _).alloc (by simp) _).alloc (by simp; omega) _).alloc (by simp; omega) _).alloc (by simp; omega) _, by simp, .slice none 0 0, [], (b3.alloc _).alloc _, World.ownsRow_nil _ _ _ _, trivial⟩
theorem ent.kpb (w w1 : World) (hs : w1.heap.size = w.heap.size + 5) (W : World) (l : Nat) (o o' : Obj) (hl : w1.heap.size ≤ l) (h : W.heap[l]? = some o) (_ : o.isCells = false) (_ : o.isWalk = false) : EnKp (w.heap.size + 1 + 1 + 1) (w.heap.size + 1 + 1 + 1 + 1) W (W.putObj l o') :=
  ⟨World.putObj_heap_other (fun e => by omega), World.putObj_heap_other (fun e => by omega)⟩
/-- A number as it stands in the text. -/
def EnM (i : Int) (m : Nat) : Prop := i = (m : Int)
theorem ent.putE (W0 : World) {W : World} {p q : Nat} {xs : List Int} {x : Int × Int × Int × Int × Unit} (n mi : Int) {m : Nat} (hmi : EnM mi m) (h0 : EnRd W0 W) (hp : W0.heap.size ≤ p) (h1 : EnPg W p xs) (h2 : EnEb W q x) (hpq : p ≠ q) (hn : 0 ≤ n ∧ n < 18446744073709551616) (hm : m ≤ 8) (hb : xs.length ≤ 1000000) :
    Calls Go.Proofs.Try.prog 36 #[.pointer (some ⟨p, 0, none⟩), .int .u64 n, .int .i64 mi] W fun e W' => e = .returned (.tuple #[]) ∧ EnRd W0 W' ∧ EnPg W' p (xs ++ Ytocloebloblodaag.F.be n m) ∧ EnEb W' q x := ent.putM W0 n mi hmi h0 hp h1 h2 hpq hn hm hb
theorem lea_hide {p : Prop} (h : p) : RowKit.Hid p := h
/-- A chunk's cells, where its round begins. -/
def EnC4 (W : World) (b o' : Nat) (l : List EnT) : Prop := ∀ (k : Nat) (y : EnT), l[k]? = some y → enWf y ∧ b < W.heap.size ∧ W.cell? ⟨b, o' + k * 4, none⟩ = some (.int .i64 y.1) ∧ W.cell? ⟨b, o' + k * 4 + 1, none⟩ = some (.int .u64 y.2.1) ∧ W.cell? ⟨b, o' + k * 4 + 2, none⟩ = some (.int .u32 y.2.2.1) ∧ W.cell? ⟨b, o' + k * 4 + 3, none⟩ = some (.int .i64 y.2.2.2.1)
theorem ent.cells (w : World) (es : List EnT) (b o : Nat) (hE : 0 < es.length → b < w.heap.size ∧ enE w es b o) (hwf : ∀ x ∈ es, enWf x) (x : EnC es.length) {pre : List (EnC es.length)} {W : World} (hI : EnI w es pre W) {m o' : Nat} (hm : m = min 15 (es.length - 15 * x.1)) (ho' : o' = o + 15 * x.1 * 4) :
    ((enRow es x.1).length = m ∧ EnC4 W b o' (enRow es x.1)) ∧ 0 < m := by
  have hx := x.2
  refine ⟨⟨by rw [enRow_len]; exact hm.symm, fun k y hy => ?_⟩, by omega⟩
  have hk : k < (enRow es x.1).length := (List.getElem?_eq_some_iff.1 hy).1
  rw [enRow_len] at hk
  rw [enRow_get _ _ (by omega)] at hy
  obtain ⟨hb, he⟩ := hE (by omega)
  obtain ⟨h0, h1, h2, h3⟩ := he _ _ hy
  have hbel := hI.2.2.2.1
  have hs : ∀ off, W.cell? ⟨b, off, none⟩ = w.cell? ⟨b, off, none⟩ := fun off => cell_same (hbel.block b hb)
  have e : o + (15 * x.1 + k) * 4 = o' + k * 4 := by omega
  rw [e] at h0 h1 h2 h3
  exact ⟨hwf y (List.mem_of_getElem? hy), Nat.lt_of_lt_of_le hb hbel.size, (hs _).trans h0, (hs _).trans h1, (hs _).trans h2, (hs _).trans h3⟩
theorem ent.round {W wr : World} {b o' m k : Nat} {l : List EnT} (hc : l.length = m ∧ EnC4 W b o' l) (hk : k < m) (hJ : EnJ W l k wr) : ∃ y : EnT,
    wr.cell? ⟨b, o' + k * 4, none⟩ = some (.int .i64 y.1) ∧ wr.cell? ⟨b, o' + k * 4 + 1, none⟩ = some (.int .u64 y.2.1) ∧ wr.cell? ⟨b, o' + k * 4 + 2, none⟩ = some (.int .u32 y.2.2.1) ∧ wr.cell? ⟨b, o' + k * 4 + 3, none⟩ = some (.int .i64 y.2.2.2.1) ∧ enWf y ∧
    EnRd W (wr.alloc (.cells #[.int .i64 y.1, .int .u64 y.2.1, .int .u32 y.2.2.1, .int .i64 y.2.2.2.1] 111)) ∧ EnPg (wr.alloc (.cells #[.int .i64 y.1, .int .u64 y.2.1, .int .u32 y.2.2.1, .int .i64 y.2.2.2.1] 111)) W.heap.size (enBs (l.take k)) ∧
    EnEb (wr.alloc (.cells #[.int .i64 y.1, .int .u64 y.2.1, .int .u32 y.2.2.1, .int .i64 y.2.2.2.1] 111)) wr.heap.size y ∧ (enBs (l.take k)).length = 16 * k ∧ l.take (k + 1) = l.take k ++ [y] ∧ W.heap.size ≠ wr.heap.size ∧ y ∈ l := by
  have hkl : k < l.length := by omega
  refine ⟨l[k], ?_⟩
  obtain ⟨hw, hb, h0, h1, h2, h3⟩ := hc.2 k l[k] (List.getElem?_eq_getElem hkl)
  obtain ⟨hR, hP, hf⟩ := hJ
  have hs : ∀ off, wr.cell? ⟨b, off, none⟩ = W.cell? ⟨b, off, none⟩ := fun off => cell_same (hR.block b hb (by omega))
  refine ⟨(hs _).trans h0, (hs _).trans h1, (hs _).trans h2, (hs _).trans h3, hw, hR.alloc _, hP.alloc _, EnEb.new wr l[k], by rw [enBs_len, List.length_take]; omega, (List.take_succ_eq_append_getElem hkl), ?_, List.getElem_mem hkl⟩
  obtain ⟨v, hv, _⟩ := hP
  have := (Array.getElem?_eq_some_iff.1 hv).1
  omega
theorem ent.next {W w' : World} {l : List EnT} {k : Nat} {y : EnT} (R : EnRd W w') (P : EnPg w' W.heap.size (enBs (l.take k) ++ Ytocloebloblodaag.F.be y.1 2 ++ Ytocloebloblodaag.F.be y.2.1 8 ++ Ytocloebloblodaag.F.be y.2.2.1 4 ++ Ytocloebloblodaag.F.be y.2.2.2.1 2)) (hf : (l.take k).all enFit = true) (hs : l.take (k + 1) = l.take k ++ [y]) (hL : 0 ≤ y.1 ∧ y.1 ≤ 65535) (hS : 0 ≤ y.2.2.2.1 ∧ y.2.2.2.1 ≤ 65535) : EnJ W l (k + 1) w' := by
  refine ⟨R, ?_, ?_⟩
  · rw [hs, enBs_snoc]
    unfold enB
    simpa only [List.append_assoc] using P
  · rw [hs, List.all_append, hf]
    simp only [List.all_cons, List.all_nil, enFit, Bool.true_and, Bool.and_true, decide_eq_true_eq]
    exact ⟨hL.1, hL.2, hS.1, hS.2⟩
theorem ent.bad {w w1 W w' : World} {es : List EnT} {pre pre' : List (EnC es.length)} {x : EnC es.length} {y : EnT} {a : Act} {Kp : World → World → Prop} (hI : EnI w es pre W) (hB : w1.heap.size = w.heap.size + 5) (R : EnRd W w') (hm : y ∈ enRow es x.1) (hf : ¬ ((0 ≤ y.1 ∧ y.1 ≤ 65535) ∧ (0 ≤ y.2.2.2.1 ∧ y.2.2.2.1 ≤ 65535))) :
    ownPostG w1.heap.size Kp (EnI w es) (EnX w es) pre' W .ret a ((w'.setCell ⟨w.heap.size, 0, none⟩ (.slice none 0 0)).setCell ⟨w.heap.size + 1, 0, none⟩ (.int .i64 1)) := by
  obtain ⟨h1, h2, h3, h4, _⟩ := hI
  have g1 := R.bx h1
  have g2 := R.bx h2
  refine ⟨((R.keeps.trans (KeepsOthers.setCell _ _ _)).trans (KeepsOthers.setCell _ _ _)).from _, rfl, ?_, ?_, ?_, ?_⟩
  · exact (g1.set _).other (by omega) _
  · exact (g2.other (by omega) _).set _
  · rw [List.all_eq_false]
    refine ⟨y, List.mem_of_mem_drop (List.mem_of_mem_take hm), fun h => hf ?_⟩
    simp only [enFit, decide_eq_true_eq] at h
    exact ⟨⟨h.1, h.2.1⟩, h.2.2.1, h.2.2.2⟩
  · exact ((h4.trans (R.below h4.size)).setCell (p := ⟨w.heap.size, 0, none⟩) (Nat.le_refl _) _).setCell (p := ⟨w.heap.size + 1, 0, none⟩) (by show w.heap.size ≤ w.heap.size + 1; omega) _
theorem ent.old {w : World} (o : Obj) {a : Addr} {u : Value} (h : w.cell? a = some u) : (w.alloc o).cell? a = some u := by
  have hlt := World.block_lt_of_cell? w a h
  rw [← h]
  exact World.cell?_of_block (heap_alloc_old w o hlt)
theorem ent.stepIn {F : Fence} {n : Nat} {P : Program} {ops : Array Oper} {o : Oper} {a : Act} {w : World} {K : Act → World → Prop} {Q : Exit → Act → World → Prop} {E : Prop}
    (hg : o.guard = none) (d x : Operand) (dT sT : TypeId) (hop : o.op = Op.call { callee := Callee.builtin Builtin.append, args := #[d, x], argTypes := #[dT, sT] })
    (v u : Value) (hd : a.eval d = v) (hx : a.eval x = u) (hK : ∃ v' w', (Builtin.append_ #[dT, sT] o.type #[v, u]).run P w = .ok v' w' ∧ K (a.put o.dst v') w') :
    if Region.wanted o (yielded ops a.tmps) = true then Oper.wpIn F n P o a w K Q else E := by
  have hw : Region.wanted o (yielded ops a.tmps) = true := by simp [Region.wanted, hg]
  rw [if_pos hw]
  obtain ⟨v', w', hr, hk⟩ := hK
  unfold Oper.wpIn
  refine ⟨?_, ?_⟩
  · simp [Oper.about, hop, resolve, Target.leads, Sem.run_pure]
  · rw [Oper.semAt_plain F _ _ (by rw [hop]; intro c hc'; cases hc')]
    simp [execOp, hop, resolve, invoke, builtin, hd, hx, hr, Result.andThen]
    exact hk
theorem ent.info : (Go.Proofs.Try.prog.info? 78).map (fun i => (i.zero, i.size, i.bytes)) = some (some (.agg #[.int .i64 0, .slice none 0 0]), 2, 32) := by kernel_rfl
/-- What the chunk's end does. -/
def EnGo (w w1 W : World) (es : List EnT) (pre' : List (EnC es.length)) (W' : World) : Prop := KeepsFrom w1.heap.size W W' ∧ EnKp (w.heap.size + 1 + 1 + 1) (w.heap.size + 1 + 1 + 1 + 1) W W' ∧ EnI w es pre' W'
theorem ent.last {w w1 W wr : World} {es : List EnT} {pre : List (EnC es.length)} {x : EnC es.length} (hn : es.length ≤ 10000) (hpl : pre.length < (es.length + 14) / 15) (hI : EnI w es pre W) (hJ : EnJ W (enRow es x.1) (enRow es x.1).length wr) : ∃ v A' n' c',
    wr.cell? ⟨w.heap.size + 1 + 1, 0, none⟩ = some v ∧ wr.cell? ⟨W.heap.size, 0, none⟩ = some (.slice A' n' c') ∧
      ∀ (W2 : World), W2.heap = wr.heap.push (.cells #[.int .i64 9, .slice A' n' c'] 78 (0, 0)) → W2.os = wr.os → W2.tape = wr.tape → W2.output = wr.output → ∀ ty,
        ∃ v' w2, (Builtin.append_ #[24, 24] ty #[v, .slice (some ⟨wr.heap.size, 0, none⟩) 1 1]).run Go.Proofs.Try.prog W2 = .ok v' w2 ∧
          w2.cell? ⟨w.heap.size + 1 + 1, 0, none⟩ = some v ∧ w2.frozen? ⟨w.heap.size + 1 + 1, 0, none⟩ = false ∧ (∃ g m c, v' = .slice (some ⟨g, 0, none⟩) m c) ∧ RowKit.Hid (EnGo w w1 W es (pre ++ [x]) (w2.setCell ⟨w.heap.size + 1 + 1, 0, none⟩ v')) := by
  obtain ⟨h1, h2, h3, h4, h5, v, us, hv, hrow, hus⟩ := hI
  obtain ⟨hR, ⟨u, hpg, hown, hblk⟩, hfit⟩ := hJ
  rw [List.take_length] at hown hfit
  obtain ⟨A', n', c', rfl⟩ : ∃ A' n' c', u = .slice A' n' c' := by
    rcases hown.2 with ⟨h, _⟩ | ⟨q, o, cap, cur, h, _⟩
    · exact ⟨_, _, _, h⟩
    · exact ⟨_, _, _, h⟩
  refine ⟨v, A', n', c', (hR.bx hv).cell, Boxed.cell (t := 86) hpg, fun W2 e0 e1 e2 e3 ty => ?_⟩
  obtain ⟨i0, hi, hz0, hz1, hz2⟩ := info_parts ent.info
  have hR2 : EnRd wr W2 := EnRd.push e0 e1 e2 e3
  have hRW := hR.tr hR2
  have hs2 : W2.heap.size = wr.heap.size + 1 := by rw [e0]; simp
  have hnew : W2.heap[wr.heap.size]? = some (.cells #[.int .i64 9, .slice A' n' c'] 78 (0, 0)) := by rw [e0]; simp
  have hrow2 := hRW.row hrow
  have hv2 := hRW.bx hv
  obtain ⟨v', w2, hrun, hown', hgrow, _⟩ := run_append_own (P := Go.Proofs.Try.prog) W2 (w.heap.size + 5) 24 ty 78 i0 _ 2 32 Go.Proofs.Try.underlying24 hi hz0 hz1 hz2 rfl (by decide) v pre.length _ hrow2 ⟨wr.heap.size, 0, none⟩ 1 1 [.int .i64 9, .slice A' n' c'] rfl (fun j q hj => by
    match j, hj with
    | 0, hj => cases hj; simp [World.cell?, Addr.add, hnew]
    | 1, hj => cases hj; simp [World.cell?, Addr.add, hnew]
    | j + 2, hj => simp at hj) (by simp [Value.oneCell']) (by unfold maxLen; omega) (by omega) (by have := hRW.size; omega)
  have hno : ∀ (k : Nat) (cur : Array Value) (e : TypeId), W2.heap[k]? = some (.cells cur e (0, 0)) → e ≠ 78 → some k ≠ v.ownBlock := by
    intro k cur e hk hne h
    rcases hrow2.2 with ⟨rfl, _⟩ | ⟨g, cap, cu, rfl, _, hgb, _⟩
    · simp [Value.ownBlock] at h
    · obtain rfl : k = g := by simpa [Value.ownBlock] using h
      rw [hk] at hgb
      simp at hgb
      exact hne hgb.2
  have hlow : ∀ j, v.ownBlock = some j → w.heap.size + 5 ≤ j := by
    intro j h
    rcases hrow2.2 with ⟨rfl, _⟩ | ⟨g, cap, cu, rfl, hb, _, _⟩
    · simp [Value.ownBlock] at h
    · obtain rfl : g = j := by simpa [Value.ownBlock] using h
      exact hb
  have hkeep : ∀ (k : Nat) (cur : Array Value) (e : TypeId), W2.heap[k]? = some (Obj.cells cur e (0, 0)) → e ≠ 78 → w2.heap[k]? = W2.heap[k]? := fun k cur e hk hne => hgrow.block k (Array.getElem?_eq_some_iff.1 hk).1 (hno k cur e hk hne)
  have hv3 : Boxed w2 (w.heap.size + 2) 24 v := (hkeep _ _ _ hv2 (by decide)).trans hv2
  have hnr := hv3.not_row (by decide) hown'
  refine ⟨v', w2, hrun, hv3.cell, hv3.frozen, ?_, lea_hide ?_⟩
  · obtain ⟨g, cap, rfl⟩ := ownsRow_succ hown'
    exact ⟨_, _, _, rfl⟩
  have hsz := hRW.size
  have hset : ∀ k, k ≠ w.heap.size + 2 → (w2.setCell ⟨w.heap.size + 2, 0, none⟩ v').heap[k]? = w2.heap[k]? := fun k hk => Below.heap_setCell _ _ _ _ hk
  have hk5 : ∀ (k : Nat) (cur : Array Value), W2.heap[k]? = some (Obj.cells cur 5 (0, 0)) → (w2.setCell ⟨w.heap.size + 2, 0, none⟩ v').heap[k]? = W2.heap[k]? := by
    intro k cur hk
    rw [hset k (fun e => by subst e; have h' : W2.heap[w.heap.size + 2]? = _ := hv2; rw [h'] at hk; simp at hk)]
    exact hkeep _ _ _ hk (by decide)
  refine ⟨?_, ⟨?_, ?_⟩, ?_, ?_, ?_, ?_, ?_, v', us ++ [.slice A' n' c'], hv3.set v', ?_, ?_⟩
  · refine ((hRW.keeps.trans (KeepsOthers.of_grownBy hgrow fun j o ej hj => ?_)).trans (KeepsOthers.setCell _ _ _)).from _
    rcases hrow2.2 with ⟨rfl, _⟩ | ⟨g, cap, cur, rfl, _, hgb, _⟩
    · simp [Value.ownBlock] at ej
    · obtain rfl : g = j := by simpa [Value.ownBlock] using ej
      rw [hgb] at hj; cases hj; rfl
  · refine (hset _ (by omega)).trans ((hgrow.block _ (by omega) fun e => by have := hlow _ e.symm; omega).trans (hRW.block _ (by omega) (by omega)))
  · refine (hset _ (by omega)).trans ((hgrow.block _ (by omega) fun e => by have := hlow _ e.symm; omega).trans (hRW.block _ (by omega) (by omega)))
  · exact Boxed.other ((hkeep _ _ _ (hRW.bx h1) (by decide)).trans (hRW.bx h1)) (by omega) _
  · exact Boxed.other ((hkeep _ _ _ (hRW.bx h2) (by decide)).trans (hRW.bx h2)) (by omega) _
  · intro z hz
    rcases List.mem_append.1 hz with h | h
    · exact h3 z h
    · rw [List.mem_singleton.1 h]; exact hfit
  · exact ((h4.trans (hRW.below h4.size)).grown hgrow (by omega) fun j e => by have := hlow j e; omega).setCell (p := ⟨w.heap.size + 2, 0, none⟩) (by show w.heap.size ≤ w.heap.size + 2; omega) _
  · have h6 : (w2.setCell ⟨w.heap.size + 2, 0, none⟩ v').heap.size = w2.heap.size := by simp [World.setCell]
    have := hgrow.size
    show w.heap.size + 5 ≤ (w2.setCell ⟨w.heap.size + 2, 0, none⟩ v').heap.size
    omega
  · rw [List.length_append, List.flatMap_append]
    simp only [List.length_cons, List.length_nil, List.flatMap_cons, List.flatMap_nil, List.append_nil]
    exact hown'.kept (grownBy_setCell' w2 (w.heap.size + 2) v') (.inr hnr.symm)
  · refine ent.all2 ?_ (enUs.mono ?_ hus)
    · refine ⟨ent.own_mono hown ?_, ?_⟩
      · intro b hb
        obtain ⟨cur, hc⟩ := ent.own_lt hown hb
        have h6 : W2.heap[b]? = wr.heap[b]? := hR2.block b (Array.getElem?_eq_some_iff.1 hc).1 (by have := (Array.getElem?_eq_some_iff.1 hc).1; omega)
        exact (hk5 b cur (h6.trans hc)).trans h6
      · intro b hb
        have := hblk b hb
        have := h4.size
        omega
    · intro k cur hk
      have h6 : W2.heap[k]? = W.heap[k]? := hRW.block k (Array.getElem?_eq_some_iff.1 hk).1 (by have := (Array.getElem?_eq_some_iff.1 hk).1; omega)
      exact (hk5 k cur (h6.trans hk)).trans h6
theorem ent.ths {W : World} {n₀ : Nat} {es : List EnT} : ∀ {pre : List (EnC es.length)} {us : List Value}, enUs W n₀ es pre us →
    All2 (En W (fun k => n₀ ≤ k ∧ k < W.heap.size) (.cons (.int .i64) (.cons (.sl 5 (.int .u8)) .nil))) (pre.map fun x => ((9 : Int), enBs (enRow es x.1), ())) (us.map fun u => [.int .i64 9, u])
  | [], [], _ => trivial
  | x :: pre, u :: us, h => by
    obtain ⟨⟨h1, h2⟩, h⟩ := h
    refine ⟨⟨[.int .i64 9], [u], rfl, rfl, [u], [], rfl, ?_, rfl⟩, ent.ths h⟩
    have hr : RowO W (fun k => n₀ ≤ k ∧ k < W.heap.size) 5 (.int .u8) (enBs (enRow es x.1)) u := ⟨_, ent.en _, by rw [ent.flat]; exact h1⟩
    exact hr.en (fun k h => h) fun k hk => ⟨h2 k hk, hr.lt hk⟩
  | [], _ :: _, h => h.elim
  | _ :: _, [], h => h.elim
theorem ent.cat : ∀ (us : List Value), (us.map fun u => [Value.int .i64 9, u]).flatten = us.flatMap fun u => [.int .i64 9, u]
  | [] => rfl
  | u :: us => by rw [List.map_cons, List.flatten_cons, ent.cat us, List.flatMap_cons]
theorem ent.thsOk (es : List EnT) : Ytocloebloblodaag.F.putT (enThs es) = (Ytocloebloblodaag.F.thsB (enThs es), 0, ()) ∧ (es.length ≤ 10000 → Ytocloebloblodaag.F.Small (enThs es)) := by
  have hb : ∀ x ∈ enThs es, x.1 = 9 ∧ x.2.1.length ≤ 240 := by
    intro x hx
    obtain ⟨y, _, rfl⟩ := List.mem_map.1 hx
    refine ⟨rfl, ?_⟩
    show (enBs (enRow es y.1)).length ≤ 240
    rw [enBs_len, enRow_len]
    omega
  refine ⟨?_, fun hn => ⟨?_, fun x hx => Nat.le_trans (hb x hx).2 (by omega)⟩⟩
  · unfold Ytocloebloblodaag.F.putT
    rw [if_pos]
    rw [List.all_eq_true]
    intro x hx
    obtain ⟨h1, h2⟩ := hb x hx
    unfold Ytocloebloblodaag.F.thOk
    rw [decide_eq_true_eq]
    omega
  · unfold enThs
    rw [List.length_map]
    have := enPre_len es.length ((es.length + 14) / 15)
    omega
set_option maxRecDepth 100000 in
theorem ent.tput (w : World) {W : World} {es : List EnT} (hn : es.length ≤ 10000) (hI : EnI w es (enPre es.length ((es.length + 14) / 15)) W) : ∃ v, Boxed W (w.heap.size + 2) 24 v ∧
    Calls Go.Proofs.Try.prog 31 #[v] W fun e W' => ∃ A n c, e = .returned (.tuple #[.slice A n c, .int .i64 0]) ∧ ownsR W' 5 1 (.slice A n c) (Ytocloebloblodaag.F.thsB (enThs es)).length ((Ytocloebloblodaag.F.thsB (enThs es)).map (Value.int .u8)) ∧ (∀ b, blkOf (.slice A n c) = some b → W.heap.size ≤ b) ∧ Below W.heap.size W W' := by
  obtain ⟨h1, h2, h3, h4, h8, v, us, h5, h6, h7⟩ := hI
  refine ⟨v, h5, ?_⟩
  have hrow : RowO W (fun k => w.heap.size ≤ k ∧ k < W.heap.size) 78 (.cons (.int .i64) (.cons (.sl 5 (.int .u8)) .nil)) (enThs es) v :=
    ⟨_, ent.ths h7, by rw [ent.cat]; have := ownsR_of h6; unfold enThs; rw [List.length_map]; exact this⟩
  have hb : ∀ k, blkOf v = some k → w.heap.size ≤ k := by
    intro k hk
    rcases h6.2 with ⟨rfl, _⟩ | ⟨g, cap, cur, rfl, hg, _⟩
    · cases hk
    · simp only [blkOf, Option.some.injEq] at hk
      subst hk
      exact Nat.le_trans (by omega) hg
  have hen := hrow.en (ok' := fun k => w.heap.size ≤ k ∧ k < W.heap.size) (fun k h => h) fun k hk => ⟨hb k hk, hrow.lt hk⟩
  obtain ⟨hp, hs⟩ := ent.thsOk es
  refine Calls.mono ((Ytocloebloblodaag.F.tlv_Put.sound).run (enThs es, ()) (Ytocloebloblodaag.F.thsB (enThs es), 0, ()) ((Ytocloebloblodaag.F.tput_f _ (hs hn)).trans (congrArg some hp)) W [v] (fun k => w.heap.size ≤ k ∧ k < W.heap.size) [] (fun _ h => h.2) ⟨[v], [], [], [], rfl, rfl, ⟨hen, rfl⟩, rfl, rfl⟩ List.nodup_nil (fun b hb => by cases hb)) ?_
  rintro e W' ⟨rs, bs', ok', rfl, hl, har, hnd, hbs, _, hbel⟩
  obtain ⟨c1, r1, b1, b2, hrs, hbe, ⟨u, rfl, ⟨css, hal, how⟩, rfl⟩, c2, r2, b3, b4, rfl, rfl, ⟨hc2, rfl⟩, rfl, rfl⟩ := har
  have hc2' : c2 = [.int .i64 0] := hc2
  subst hc2'
  have hrs' : rs = [u, .int .i64 0] := by
    have h : rs ++ [] = [u, .int .i64 0] := hrs
    simpa using h
  subst hrs'
  have hxs : css.flatten = (Ytocloebloblodaag.F.thsB (enThs es)).map (Value.int .u8) := ent.un (w := W') (ok := ok') hal
  rw [hxs] at how
  obtain ⟨A, n, c, rfl⟩ : ∃ A n c, u = .slice A n c := by
    rcases how.2 with ⟨h, _⟩ | ⟨q, o, cap, cur, h, _⟩
    · exact ⟨_, _, _, h⟩
    · exact ⟨_, _, _, h⟩
  refine ⟨A, n, c, rfl, how, fun b hbb => ?_, ⟨hbel.os, hbel.tape, hbel.output, hbel.size, fun k hk => hbel.block k hk (by simp; omega)⟩⟩
  rcases hbs b (by rw [hbe, hbb]; simp) with h | h
  · cases h
  · exact h
theorem ent.allFit {es : List EnT} (h : ∀ x ∈ enPre es.length ((es.length + 14) / 15), (enRow es x.1).all enFit = true) : es.all enFit = true := by
  rw [List.all_eq_true]
  intro y hy
  obtain ⟨i, hi, rfl⟩ := List.getElem_of_mem hy
  have hlt : 15 * (i / 15) < es.length := by omega
  have hm : (⟨i / 15, hlt⟩ : EnC es.length) ∈ enPre es.length ((es.length + 14) / 15) := by
    exact List.mem_filterMap.2 ⟨i / 15, List.mem_range.2 (by omega), by rw [dif_pos hlt]; rfl⟩
  have h1 := h _ hm
  rw [List.all_eq_true] at h1
  refine h1 _ ?_
  have h2 : (enRow es (i / 15))[i % 15]? = some es[i] := by
    rw [enRow_get _ _ (Nat.mod_lt _ (by omega)), Nat.div_add_mod, List.getElem?_eq_getElem hi]
  exact List.mem_of_getElem? h2
set_option maxRecDepth 100000 in
set_option maxHeartbeats 8000000 in
theorem ent.walk (w : World) (es : List EnT) (A : Option Addr) (c b o : Nat) (hA : 0 < es.length → A = some ⟨b, o, none⟩) (hE : 0 < es.length → b < w.heap.size ∧ enE w es b o) (hn : es.length ≤ 10000) (hc : es.length ≤ c) (hwf : ∀ x ∈ es, enWf x) :
    Calls Go.Proofs.Try.prog 56 #[.slice A es.length c] w fun e W' => ∃ u, e = .returned (.tuple #[u, .int .i64 (enY es).2.1]) ∧ ownsR W' 5 1 u (enY es).1.length ((enY es).1.map (Value.int .u8)) ∧ (∀ b, blkOf u = some b → w.heap.size ≤ b) ∧ Below w.heap.size w W' := by
  have mixed := ent.mixed
  refine (callsIn_wide (n := 9)).1 ?_
  refine callsIn_of_wp_marks Go.Proofs.Try.func56 rfl trivial ?_ rfl
  simp only [Go.Proofs.Try.ntmps56, List.size_toArray, List.length_cons, List.length_nil, Nat.reduceAdd, Nat.reduceSub, Array.replicate_succ, Array.replicate_zero, List.push_toArray, List.append_toArray, List.nil_append, List.cons_append]
  gi_wp2_with (refine ⟨trivial, ?_⟩; gi_at_call 73; refine (ent.chunk Fence.wide _ trivial rfl _ _ _ _).mono ?_; rintro e w' ⟨rfl, rfl⟩)
  obtain ⟨w1, hw1⟩ : ∃ w1, w1 = ((((w.alloc (.cells #[.slice none 0 0] 27)).alloc (.cells #[.int .i64 0] 30)).alloc (.cells #[.slice none 0 0] 24)).alloc (.cells #[.slice A es.length c] 62)).alloc (.cells #[.int .i64 15] 3) := ⟨_, rfl⟩
  rw [← hw1]
  obtain ⟨hs, f1, f2, f3, f4, f5, f6⟩ := ent.first w es A c hw1
  clear hw1
  refine wpIn_rangeFunc_ownG rfl (by omega) (gf := 78) (lb := #[.pointer (some ⟨w.heap.size + 1 + 1 + 1, 0, none⟩), .pointer (some ⟨w.heap.size + 1 + 1 + 1 + 1, 0, none⟩)]) rfl trivial (enters_of Go.Proofs.Try.func78 (by kernel_rfl) rfl)
    (ent.stops Fence.wide _ trivial rfl (by omega) (w.heap.size + 1 + 1 + 1) (w.heap.size + 1 + 1 + 1 + 1) b o es.length c A hA hn hc w1 (by omega) (by omega) f4 f5) (fun h k => h.trans k) (ent.kpb w w1 hs) (Below.refl _ _) (fun _ => rfl)
    (EnI w es) (EnX w es) (EnI.own w es _ (by omega)) (fun c => EnX.own w es _ (by omega) c) f6
    (fun x => { tmps := #[.slice A es.length c, undef, .pointer (some ⟨w.heap.size, 0, none⟩), .pointer (some ⟨w.heap.size + 1, 0, none⟩), .pointer (some ⟨w.heap.size + 1 + 1, 0, none⟩), .slice (some ⟨b, o + 15 * x.1 * 4, none⟩) (min 15 (es.length - 15 * x.1)) (min 15 (es.length - 15 * x.1)), undef, undef, undef, .slice A es.length c, .func (.func 78) #[] #[.pointer (some ⟨w.heap.size + 1 + 1 + 1, 0, none⟩), .pointer (some ⟨w.heap.size + 1 + 1 + 1 + 1, 0, none⟩)], .slice (some ⟨b, o + 15 * x.1 * 4, none⟩) (min 15 (es.length - 15 * x.1)) (min 15 (es.length - 15 * x.1)), undef, undef, undef, undef, undef, undef, undef, undef, undef, undef, undef, undef, undef, undef, undef, undef, undef, undef, undef, undef, undef, undef, undef, undef, undef, undef, undef, undef, undef, undef, undef, undef, undef, undef, undef, undef, undef, undef, undef, undef, undef, undef, undef, undef, undef, undef, undef, undef, undef, undef], defers := [] }) ?assign ?body ?done ?stop
  case assign =>
    intro l x W K hK
    dsimp only [enEnc]
    gi_wp2
    exact hK
  case body =>
    rintro l pre x W hI hlt'
    obtain ⟨m, hm⟩ : ∃ m, m = min 15 (es.length - 15 * x.1) := ⟨_, rfl⟩
    obtain ⟨o', ho'⟩ : ∃ o', o' = o + 15 * x.1 * 4 := ⟨_, rfl⟩
    dsimp only
    rw [← hm, ← ho']
    have hm15 : m ≤ 15 := by omega
    obtain ⟨hcell, hX⟩ := ent.cells w es b o hE hwf x hI hm ho'
    have hb1 := hI.1
    have hb2 := hI.2.1
    have hBs := hs
    replace hm := lea_hide hm
    replace ho' := lea_hide ho'
    replace hI := lea_hide hI
    gi_wp2
    gi_loopw [16] (fun i wr => ∃ k : Nat, k ≤ m ∧ i = .int .i64 k ∧ EnJ W (enRow es x.1) k wr) (fun i _ => m - (intOf i).toNat)
    case atStart => exact ⟨0, Nat.zero_le _, rfl, EnJ.start W _⟩
    case round =>
      obtain ⟨k, hk, rfl, hJ⟩ := hrel
      by_cases hlt : k < m
      · obtain ⟨y, d0, d1, d2, d3, ⟨⟨wa, wb⟩, wc, wd⟩, R0, P0, E0, hlen, hsucc, hne, hmem⟩ := ent.round hcell hlt hJ
        by_cases hL : 0 ≤ y.1 ∧ y.1 ≤ 65535
        · have hL' : decide (0 ≤ y.1 ∧ y.1 ≤ 65535) = true := decide_eq_true hL
          by_cases hS : 0 ≤ y.2.2.2.1 ∧ y.2.2.2.1 ≤ 65535
          · have hS' : decide (0 ≤ y.2.2.2.1 ∧ y.2.2.2.1 ≤ 65535) = true := decide_eq_true hS
            have m2 : EnM 2 2 := rfl
            have m8 : EnM 8 8 := rfl
            have m4 : EnM 4 4 := rfl
            gi_wp2_with (first | (refine ⟨trivial, ?_⟩; gi_at_call 34; refine (CallsIn.inRound l (callsIn_wide.2 (ent.isInB W _ _ (by assumption) (by assumption) (by assumption) (by assumption)))).mono ?_; rintro e w' ⟨rfl, R, P, E⟩; have e0 := E.c0; have e1 := E.c1; have e2 := E.c2; have e3 := E.c3; have g1 := (R.bx hb1).cell; have g2 := (R.bx hb1).frozen; have g3 := (R.bx hb2).cell; have g4 := (R.bx hb2).frozen) | (refine ⟨trivial, ?_⟩; gi_at_call 36; refine (CallsIn.inRound l (callsIn_wide.2 (ent.putE W _ _ (by assumption) (by assumption) (Nat.le_refl _) (by assumption) (by assumption) hne (by omega) (by omega) (by simp only [List.length_append, Ytocloebloblodaag.F.be_length, hlen]; omega)))).mono ?_; rintro e w' ⟨rfl, R, P, E⟩; have e0 := E.c0; have e1 := E.c1; have e2 := E.c2; have e3 := E.c3))
            exact ⟨by first | exact ⟨k + 1, by omega, by go_num, ent.next R P hJ.2.2 hsucc hL hS⟩ | exact ⟨_, _, _, _, _, _, _, _, _, _, _, _, _, _, _, _, _, _, _, _, _, _, _, _, _, _, _, _, _, _, _, _, ⟨k + 1, by omega, by go_num, ent.next R P hJ.2.2 hsucc hL hS⟩, rfl⟩, by simp [intOf]; omega⟩
          · have hS' : decide (0 ≤ y.2.2.2.1 ∧ y.2.2.2.1 ≤ 65535) = false := decide_eq_false hS
            gi_wp2_with (first | (refine ⟨trivial, ?_⟩; gi_at_call 34; refine (CallsIn.inRound l (callsIn_wide.2 (ent.isInB W _ _ (by assumption) (by assumption) (by assumption) (by assumption)))).mono ?_; rintro e w' ⟨rfl, R, P, E⟩; have e0 := E.c0; have e1 := E.c1; have e2 := E.c2; have e3 := E.c3; have g1 := (R.bx hb1).cell; have g2 := (R.bx hb1).frozen; have g3 := (R.bx hb2).cell; have g4 := (R.bx hb2).frozen))
            exact ent.bad hI.out hBs R hmem fun h => hS h.2
        · have hL' : decide (0 ≤ y.1 ∧ y.1 ≤ 65535) = false := decide_eq_false hL
          gi_wp2_with (first | (refine ⟨trivial, ?_⟩; gi_at_call 34; refine (CallsIn.inRound l (callsIn_wide.2 (ent.isInB W _ _ (by assumption) (by assumption) (by assumption) (by assumption)))).mono ?_; rintro e w' ⟨rfl, R, P, E⟩; have e0 := E.c0; have e1 := E.c1; have e2 := E.c2; have e3 := E.c3; have g1 := (R.bx hb1).cell; have g2 := (R.bx hb1).frozen; have g3 := (R.bx hb2).cell; have g4 := (R.bx hb2).frozen) | (refine ⟨trivial, ?_⟩))
          exact ent.bad hI.out hBs R hmem fun h => hL h.1
      · obtain rfl : k = m := by omega
        obtain ⟨v, A', n', c', q1, q2, happ⟩ := ent.last (w1 := w1) hn hlt' hI.out (by rw [hcell.1]; exact hJ)
        gi_wp2
        have q3 : (wr.alloc (.cells #[.int .i64 9, .slice A' n' c'] 78)).cell? ⟨w.heap.size + 1 + 1, 0, none⟩ = some v := ent.old _ q1
        refine wpIn_region_any (by assumption) ?_
        try (change wpAnyIn _ _ _ _ _ _ _ _ _ (World.drew _))
        refine wpAnyIn_ready (rs := [0, 1]) (by kernel_rfl) (by simp) ?_
        refine AllReadyIn.cons rfl (fun K hK => ?_) ?_
        · go_simp
          refine hK _ _ ?_
          clear hK K
          refine wpAnyIn_ready (rs := [1]) (by kernel_rfl) (by simp) ?_
          refine AllReadyIn.cons rfl (fun K hK => ?_) AllReadyIn.nil
          go_simp
          refine hK _ _ ?_
          clear hK K
          refine wpAnyIn_ready (rs := [2]) (by kernel_rfl) (by simp) ?_
          refine AllReadyIn.cons rfl (fun K hK => ?_) AllReadyIn.nil
          go_simp
          refine hK _ _ ?_
          clear hK K
          refine wpAnyIn_ready (rs := [3]) (by kernel_rfl) (by simp) ?_
          refine AllReadyIn.cons rfl (fun K hK => ?_) AllReadyIn.nil
          go_simp
          refine hK _ _ ?_
          clear hK K
          refine wpAnyIn_ready (rs := [4]) (by kernel_rfl) (by simp) ?_
          refine AllReadyIn.cons rfl (fun K hK => ?_) AllReadyIn.nil
          go_simp
          refine hK _ _ ?_
          clear hK K
          refine wpAnyIn_ready (rs := [5]) (by kernel_rfl) (by simp) ?_
          refine AllReadyIn.cons rfl (fun K hK => ?_) AllReadyIn.nil
          go_simp
          refine hK _ _ ?_
          clear hK K
          refine wpAnyIn_ready (rs := [6]) (by kernel_rfl) (by simp) ?_
          refine AllReadyIn.cons rfl (fun K hK => ?_) AllReadyIn.nil
          go_simp
          refine hK _ _ ?_
          clear hK K
          refine wpAnyIn_ready (rs := [7]) (by kernel_rfl) (by simp) ?_
          refine AllReadyIn.cons rfl (fun K hK => ?_) AllReadyIn.nil
          obtain ⟨v', w2, hr, z1, z2, ⟨g, m', c2, rfl⟩, hgo⟩ := happ (wr.drew.alloc (.cells #[.int .i64 9, .slice A' n' c'] 78)) rfl rfl rfl rfl _
          refine ent.stepIn rfl (.tmp 50) (.tmp 56) _ _ rfl _ _ (by simp [Act.eval, Act.put]) (by simp [Act.eval, Act.put]) ⟨_, w2, hr, ?_⟩
          clear happ hr
          try go_simp
          refine hK _ _ ?_
          clear hK K
          refine wpAnyIn_ready (rs := [8]) (by kernel_rfl) (by simp) ?_
          refine AllReadyIn.cons rfl (fun K hK => ?_) AllReadyIn.nil
          go_simp
          refine hK _ _ ?_
          clear hK K
          refine wpAnyIn_done (by kernel_rfl) ?_ _
          exact hgo.out
        refine AllReadyIn.cons rfl (fun K hK => ?_) AllReadyIn.nil
        go_simp
        refine hK _ _ ?_
        clear hK K
        refine wpAnyIn_ready (rs := [0, 2]) (by kernel_rfl) (by simp) ?_
        refine AllReadyIn.cons rfl (fun K hK => ?_) ?_
        · go_simp
          refine hK _ _ ?_
          clear hK K
          refine wpAnyIn_ready (rs := [2]) (by kernel_rfl) (by simp) ?_
          refine AllReadyIn.cons rfl (fun K hK => ?_) AllReadyIn.nil
          go_simp
          refine hK _ _ ?_
          clear hK K
          refine wpAnyIn_ready (rs := [3]) (by kernel_rfl) (by simp) ?_
          refine AllReadyIn.cons rfl (fun K hK => ?_) AllReadyIn.nil
          go_simp
          refine hK _ _ ?_
          clear hK K
          refine wpAnyIn_ready (rs := [4]) (by kernel_rfl) (by simp) ?_
          refine AllReadyIn.cons rfl (fun K hK => ?_) AllReadyIn.nil
          go_simp
          refine hK _ _ ?_
          clear hK K
          refine wpAnyIn_ready (rs := [5]) (by kernel_rfl) (by simp) ?_
          refine AllReadyIn.cons rfl (fun K hK => ?_) AllReadyIn.nil
          go_simp
          refine hK _ _ ?_
          clear hK K
          refine wpAnyIn_ready (rs := [6]) (by kernel_rfl) (by simp) ?_
          refine AllReadyIn.cons rfl (fun K hK => ?_) AllReadyIn.nil
          go_simp
          refine hK _ _ ?_
          clear hK K
          refine wpAnyIn_ready (rs := [7]) (by kernel_rfl) (by simp) ?_
          refine AllReadyIn.cons rfl (fun K hK => ?_) AllReadyIn.nil
          obtain ⟨v', w2, hr, z1, z2, ⟨g, m', c2, rfl⟩, hgo⟩ := happ (wr.drew.alloc (.cells #[.int .i64 9, .slice A' n' c'] 78)) rfl rfl rfl rfl _
          refine ent.stepIn rfl (.tmp 50) (.tmp 56) _ _ rfl _ _ (by simp [Act.eval, Act.put]) (by simp [Act.eval, Act.put]) ⟨_, w2, hr, ?_⟩
          clear happ hr
          try go_simp
          refine hK _ _ ?_
          clear hK K
          refine wpAnyIn_ready (rs := [8]) (by kernel_rfl) (by simp) ?_
          refine AllReadyIn.cons rfl (fun K hK => ?_) AllReadyIn.nil
          go_simp
          refine hK _ _ ?_
          clear hK K
          refine wpAnyIn_done (by kernel_rfl) ?_ _
          exact hgo.out
        refine AllReadyIn.cons rfl (fun K hK => ?_) AllReadyIn.nil
        go_simp
        refine hK _ _ ?_
        clear hK K
        refine wpAnyIn_ready (rs := [0, 3]) (by kernel_rfl) (by simp) ?_
        refine AllReadyIn.cons rfl (fun K hK => ?_) ?_
        · go_simp
          refine hK _ _ ?_
          clear hK K
          refine wpAnyIn_ready (rs := [3]) (by kernel_rfl) (by simp) ?_
          refine AllReadyIn.cons rfl (fun K hK => ?_) AllReadyIn.nil
          go_simp
          refine hK _ _ ?_
          clear hK K
          refine wpAnyIn_ready (rs := [4]) (by kernel_rfl) (by simp) ?_
          refine AllReadyIn.cons rfl (fun K hK => ?_) AllReadyIn.nil
          go_simp
          refine hK _ _ ?_
          clear hK K
          refine wpAnyIn_ready (rs := [5]) (by kernel_rfl) (by simp) ?_
          refine AllReadyIn.cons rfl (fun K hK => ?_) AllReadyIn.nil
          go_simp
          refine hK _ _ ?_
          clear hK K
          refine wpAnyIn_ready (rs := [6]) (by kernel_rfl) (by simp) ?_
          refine AllReadyIn.cons rfl (fun K hK => ?_) AllReadyIn.nil
          go_simp
          refine hK _ _ ?_
          clear hK K
          refine wpAnyIn_ready (rs := [7]) (by kernel_rfl) (by simp) ?_
          refine AllReadyIn.cons rfl (fun K hK => ?_) AllReadyIn.nil
          obtain ⟨v', w2, hr, z1, z2, ⟨g, m', c2, rfl⟩, hgo⟩ := happ (wr.drew.alloc (.cells #[.int .i64 9, .slice A' n' c'] 78)) rfl rfl rfl rfl _
          refine ent.stepIn rfl (.tmp 50) (.tmp 56) _ _ rfl _ _ (by simp [Act.eval, Act.put]) (by simp [Act.eval, Act.put]) ⟨_, w2, hr, ?_⟩
          clear happ hr
          try go_simp
          refine hK _ _ ?_
          clear hK K
          refine wpAnyIn_ready (rs := [8]) (by kernel_rfl) (by simp) ?_
          refine AllReadyIn.cons rfl (fun K hK => ?_) AllReadyIn.nil
          go_simp
          refine hK _ _ ?_
          clear hK K
          refine wpAnyIn_done (by kernel_rfl) ?_ _
          exact hgo.out
        refine AllReadyIn.cons rfl (fun K hK => ?_) AllReadyIn.nil
        go_simp
        refine hK _ _ ?_
        clear hK K
        refine wpAnyIn_ready (rs := [0, 4]) (by kernel_rfl) (by simp) ?_
        refine AllReadyIn.cons rfl (fun K hK => ?_) ?_
        · go_simp
          refine hK _ _ ?_
          clear hK K
          refine wpAnyIn_ready (rs := [4]) (by kernel_rfl) (by simp) ?_
          refine AllReadyIn.cons rfl (fun K hK => ?_) AllReadyIn.nil
          go_simp
          refine hK _ _ ?_
          clear hK K
          refine wpAnyIn_ready (rs := [5]) (by kernel_rfl) (by simp) ?_
          refine AllReadyIn.cons rfl (fun K hK => ?_) AllReadyIn.nil
          go_simp
          refine hK _ _ ?_
          clear hK K
          refine wpAnyIn_ready (rs := [6]) (by kernel_rfl) (by simp) ?_
          refine AllReadyIn.cons rfl (fun K hK => ?_) AllReadyIn.nil
          go_simp
          refine hK _ _ ?_
          clear hK K
          refine wpAnyIn_ready (rs := [7]) (by kernel_rfl) (by simp) ?_
          refine AllReadyIn.cons rfl (fun K hK => ?_) AllReadyIn.nil
          obtain ⟨v', w2, hr, z1, z2, ⟨g, m', c2, rfl⟩, hgo⟩ := happ (wr.drew.alloc (.cells #[.int .i64 9, .slice A' n' c'] 78)) rfl rfl rfl rfl _
          refine ent.stepIn rfl (.tmp 50) (.tmp 56) _ _ rfl _ _ (by simp [Act.eval, Act.put]) (by simp [Act.eval, Act.put]) ⟨_, w2, hr, ?_⟩
          clear happ hr
          try go_simp
          refine hK _ _ ?_
          clear hK K
          refine wpAnyIn_ready (rs := [8]) (by kernel_rfl) (by simp) ?_
          refine AllReadyIn.cons rfl (fun K hK => ?_) AllReadyIn.nil
          go_simp
          refine hK _ _ ?_
          clear hK K
          refine wpAnyIn_done (by kernel_rfl) ?_ _
          exact hgo.out
        refine AllReadyIn.cons rfl (fun K hK => ?_) AllReadyIn.nil
        go_simp
        refine hK _ _ ?_
        clear hK K
        refine wpAnyIn_ready (rs := [0, 5]) (by kernel_rfl) (by simp) ?_
        refine AllReadyIn.cons rfl (fun K hK => ?_) ?_
        · go_simp
          refine hK _ _ ?_
          clear hK K
          refine wpAnyIn_ready (rs := [5]) (by kernel_rfl) (by simp) ?_
          refine AllReadyIn.cons rfl (fun K hK => ?_) AllReadyIn.nil
          go_simp
          refine hK _ _ ?_
          clear hK K
          refine wpAnyIn_ready (rs := [6]) (by kernel_rfl) (by simp) ?_
          refine AllReadyIn.cons rfl (fun K hK => ?_) AllReadyIn.nil
          go_simp
          refine hK _ _ ?_
          clear hK K
          refine wpAnyIn_ready (rs := [7]) (by kernel_rfl) (by simp) ?_
          refine AllReadyIn.cons rfl (fun K hK => ?_) AllReadyIn.nil
          obtain ⟨v', w2, hr, z1, z2, ⟨g, m', c2, rfl⟩, hgo⟩ := happ (wr.drew.alloc (.cells #[.int .i64 9, .slice A' n' c'] 78)) rfl rfl rfl rfl _
          refine ent.stepIn rfl (.tmp 50) (.tmp 56) _ _ rfl _ _ (by simp [Act.eval, Act.put]) (by simp [Act.eval, Act.put]) ⟨_, w2, hr, ?_⟩
          clear happ hr
          try go_simp
          refine hK _ _ ?_
          clear hK K
          refine wpAnyIn_ready (rs := [8]) (by kernel_rfl) (by simp) ?_
          refine AllReadyIn.cons rfl (fun K hK => ?_) AllReadyIn.nil
          go_simp
          refine hK _ _ ?_
          clear hK K
          refine wpAnyIn_done (by kernel_rfl) ?_ _
          exact hgo.out
        refine AllReadyIn.cons rfl (fun K hK => ?_) AllReadyIn.nil
        go_simp
        refine hK _ _ ?_
        clear hK K
        refine wpAnyIn_ready (rs := [0, 6]) (by kernel_rfl) (by simp) ?_
        refine AllReadyIn.cons rfl (fun K hK => ?_) ?_
        · go_simp
          refine hK _ _ ?_
          clear hK K
          refine wpAnyIn_ready (rs := [6]) (by kernel_rfl) (by simp) ?_
          refine AllReadyIn.cons rfl (fun K hK => ?_) AllReadyIn.nil
          go_simp
          refine hK _ _ ?_
          clear hK K
          refine wpAnyIn_ready (rs := [7]) (by kernel_rfl) (by simp) ?_
          refine AllReadyIn.cons rfl (fun K hK => ?_) AllReadyIn.nil
          obtain ⟨v', w2, hr, z1, z2, ⟨g, m', c2, rfl⟩, hgo⟩ := happ (wr.drew.alloc (.cells #[.int .i64 9, .slice A' n' c'] 78)) rfl rfl rfl rfl _
          refine ent.stepIn rfl (.tmp 50) (.tmp 56) _ _ rfl _ _ (by simp [Act.eval, Act.put]) (by simp [Act.eval, Act.put]) ⟨_, w2, hr, ?_⟩
          clear happ hr
          try go_simp
          refine hK _ _ ?_
          clear hK K
          refine wpAnyIn_ready (rs := [8]) (by kernel_rfl) (by simp) ?_
          refine AllReadyIn.cons rfl (fun K hK => ?_) AllReadyIn.nil
          go_simp
          refine hK _ _ ?_
          clear hK K
          refine wpAnyIn_done (by kernel_rfl) ?_ _
          exact hgo.out
        refine AllReadyIn.cons rfl (fun K hK => ?_) AllReadyIn.nil
        go_simp
        refine hK _ _ ?_
        clear hK K
        refine wpAnyIn_ready (rs := [0]) (by kernel_rfl) (by simp) ?_
        refine AllReadyIn.cons rfl (fun K hK => ?_) AllReadyIn.nil
        go_simp
        refine hK _ _ ?_
        clear hK K
        refine wpAnyIn_ready (rs := [7]) (by kernel_rfl) (by simp) ?_
        refine AllReadyIn.cons rfl (fun K hK => ?_) AllReadyIn.nil
        obtain ⟨v', w2, hr, z1, z2, ⟨g, m', c2, rfl⟩, hgo⟩ := happ (wr.drew.alloc (.cells #[.int .i64 9, .slice A' n' c'] 78)) rfl rfl rfl rfl _
        refine ent.stepIn rfl (.tmp 50) (.tmp 56) _ _ rfl _ _ (by simp [Act.eval, Act.put]) (by simp [Act.eval, Act.put]) ⟨_, w2, hr, ?_⟩
        clear happ hr
        try go_simp
        refine hK _ _ ?_
        clear hK K
        refine wpAnyIn_ready (rs := [8]) (by kernel_rfl) (by simp) ?_
        refine AllReadyIn.cons rfl (fun K hK => ?_) AllReadyIn.nil
        go_simp
        refine hK _ _ ?_
        clear hK K
        refine wpAnyIn_done (by kernel_rfl) ?_ _
        exact hgo.out
  case done =>
    rintro D ys W hD rfl hI hK
    obtain ⟨v, hv, hcall⟩ := ent.tput w hn hI
    have hv' : W.cell? ⟨w.heap.size + 1 + 1, 0, none⟩ = some v := hv.cell
    have hb1 := hI.1
    have hb2 := hI.2.1
    have hsz := hI.2.2.2.2.1
    have hbl := hI.2.2.2.1
    have hDl := (Array.getElem?_eq_some_iff.1 hK).1
    have hy : enY es = (Ytocloebloblodaag.F.thsB (enThs es), 0, ()) := by unfold enY; rw [ent.allFit hI.2.2.1]; rfl
    replace hI := lea_hide hI
    replace hK := lea_hide hK
    replace hy := lea_hide hy
    replace hbl := lea_hide hbl
    gi_wp2_with (refine ⟨trivial, ?_⟩; gi_at_call 31; refine (callsIn_wide.2 hcall).mono ?_; rintro e w' ⟨ua, un, uc, rfl, ho, hb, hbel⟩; have g1 : Boxed w' _ _ _ := (hbel.block w.heap.size (by omega)).trans hb1; have g2 : Boxed w' _ _ _ := (hbel.block (w.heap.size + 1) (by omega)).trans hb2; have c1 := g1.cell; have c2 := g2.cell; have c3 := g1.frozen; have c4 := g2.frozen; replace ho := lea_hide ho; replace hb := lea_hide hb)
    have hbl := hbl.out
    have hb := hb.out
    have hw2 : w'.heap[D]? = some (Obj.deferred (some [])) := (hbel.block D hDl).trans hK.out
    have k1 : ∀ k, k ≠ w.heap.size → k ≠ w.heap.size + 1 → ((w'.setCell ⟨w.heap.size, 0, none⟩ (.slice ua un uc)).setCell ⟨w.heap.size + 1, 0, none⟩ (.int .i64 0)).heap[k]? = w'.heap[k]? := fun k h1 h2 => (Below.heap_setCell _ _ _ _ h2).trans (Below.heap_setCell _ _ _ _ h1)
    have hDn := (k1 D (by omega) (by omega)).trans hw2
    have b1 := (g1.set (.slice ua un uc)).other (B' := w.heap.size + 1) (by omega) (.int .i64 0)
    have b2 := (g2.other (B' := w.heap.size) (by omega) (.slice ua un uc)).set (.int .i64 0)
    have hs3 : ((w'.setCell ⟨w.heap.size, 0, none⟩ (.slice ua un uc)).setCell ⟨w.heap.size + 1, 0, none⟩ (.int .i64 0)).heap.size = w'.heap.size := by simp [World.setCell]
    have hbig := hbel.size
    refine ⟨by simp, .inl ⟨_, _, rfl, run_takeDeferred hDn, ?_⟩⟩
    have q1 := (cell_same (k := w.heap.size) (o := 0) (World.putObj_heap_other (r := D) (o := .deferred none) (by omega))).trans b1.cell
    have q2 := (cell_same (k := w.heap.size + 1) (o := 0) (World.putObj_heap_other (r := D) (o := .deferred none) (by omega))).trans b2.cell
    refine ⟨.tuple #[.slice ua un uc, .int .i64 0], by simp [results, Go.Proofs.Try.f56, go_sem, q1, q2], .slice ua un uc, by rw [hy.out], ?_, ?_, ?_⟩
    · rw [hy.out]
      refine ent.own_mono ho.out fun b hbb => ?_
      have := hb b hbb
      exact (World.putObj_heap_other (by omega)).trans (k1 b (by omega) (by omega))
    · intro b hbb
      have := hb b hbb
      omega
    · refine (((hbl.trans (hbel.mono (by omega))).setCell (p := ⟨w.heap.size, 0, none⟩) (Nat.le_refl _) _).setCell (p := ⟨w.heap.size + 1, 0, none⟩) (by show w.heap.size ≤ w.heap.size + 1; omega) _).trans (belowK_b (w := w) (Nat.le_refl _) _ D _ _ (by omega) hDn rfl rfl)
  case stop =>
    rintro D c pre W hD - ⟨rfl, hx1, hx2, hx3, hx4⟩ hK
    replace hK := lea_hide hK
    have c1 := hx1.cell
    have c2 := hx2.cell
    gi_wp2
    have hDn := hK.out
    refine ⟨by simp, .inl ⟨_, _, rfl, run_takeDeferred hDn, ?_⟩⟩
    have q1 := (cell_same (k := w.heap.size) (o := 0) (World.putObj_heap_other (r := D) (o := .deferred none) (by omega))).trans c1
    have q2 := (cell_same (k := w.heap.size + 1) (o := 0) (World.putObj_heap_other (r := D) (o := .deferred none) (by omega))).trans c2
    have hy : enY es = ([], 1, ()) := by unfold enY; rw [hx3]; rfl
    refine ⟨.tuple #[.slice none 0 0, .int .i64 1], by simp [results, Go.Proofs.Try.f56, go_sem, q1, q2], .slice none 0 0, by rw [hy], ?_, fun b hbb => (by cases hbb), hx4.trans (belowK_b (w := w) (Nat.le_refl _) _ D _ _ (by omega) hDn rfl rfl)⟩
    rw [hy]
    exact ownsR_nil _ _ _
-- PLAIN pdu_entries ((List (Int × Int × Int × Int × Unit)) × Unit)
def pdu_entries.q_be (n : Int) : Nat → List Int
  | 0 => []
  | m + 1 => (n / 256 ^ m) % 256 :: pdu_entries.q_be n m
def pdu_entries.q_e (x : Int × Int × Int × Int × Unit) : List Int := pdu_entries.q_be x.1 2 ++ pdu_entries.q_be x.2.1 8 ++ pdu_entries.q_be x.2.2.1 4 ++ pdu_entries.q_be x.2.2.2.1 2
def pdu_entries.q_fit (x : Int × Int × Int × Int × Unit) : Bool := decide (0 ≤ x.1 ∧ x.1 ≤ 65535 ∧ 0 ≤ x.2.2.2.1 ∧ x.2.2.2.1 ≤ 65535)
def pdu_entries.q_wf (x : Int × Int × Int × Int × Unit) : Bool := decide ((0 ≤ x.2.1 ∧ x.2.1 < 18446744073709551616) ∧ 0 ≤ x.2.2.1 ∧ x.2.2.1 < 4294967296)
def pdu_entries.q_at (n : Nat) : Nat → List (Int × Int × Int × Int × Unit) → List Int
  | _, [] => []
  | j, x :: l => (if j % 15 = 0 then [9, ((16 * min 15 (n - j) : Nat) : Int)] else []) ++ pdu_entries.q_e x ++ pdu_entries.q_at n (j + 1) l
def pdu_entries.q (a : List (Int × Int × Int × Int × Unit) × Unit) : Option (List Int × Int × Unit) :=
  if a.1.length ≤ 10000 ∧ a.1.all pdu_entries.q_wf = true then some (if a.1.all pdu_entries.q_fit = true then (pdu_entries.q_at a.1.length 0 a.1, 0, ()) else ([], 1, ())) else none
-- END
theorem ent.q_be (n : Int) (m : Nat) : pdu_entries.q_be n m = Ytocloebloblodaag.F.be n m := by
  induction m with
  | zero => rfl
  | succ m ih => simp [pdu_entries.q_be, Ytocloebloblodaag.F.be, ih]
theorem ent.q_e (x : EnT) : pdu_entries.q_e x = enB x := by simp only [pdu_entries.q_e, enB, ent.q_be]
theorem ent.q_app (n : Nat) : ∀ (a b : List EnT) (j : Nat), pdu_entries.q_at n j (a ++ b) = pdu_entries.q_at n j a ++ pdu_entries.q_at n (j + a.length) b
  | [], b, j => rfl
  | x :: a, b, j => by
    show _ ++ _ ++ pdu_entries.q_at n (j + 1) (a ++ b) = _ ++ _ ++ pdu_entries.q_at n (j + 1) a ++ _
    rw [ent.q_app n a b (j + 1), List.length_cons, show j + 1 + a.length = j + (a.length + 1) by omega]
    simp only [List.append_assoc]
theorem ent.q_rest (n : Nat) : ∀ (a : List EnT) (j : Nat), 0 < j % 15 → j % 15 + a.length ≤ 15 → pdu_entries.q_at n j a = enBs a
  | [], j, _, _ => rfl
  | x :: a, j, h, h2 => by
    rw [List.length_cons] at h2
    show (if j % 15 = 0 then _ else []) ++ pdu_entries.q_e x ++ pdu_entries.q_at n (j + 1) a = enB x ++ enBs a
    rw [if_neg (by omega), ent.q_e]
    by_cases ha : a = []
    · subst ha
      rfl
    · have : 0 < a.length := List.length_pos_iff.2 ha
      rw [ent.q_rest n a (j + 1) (by omega) (by omega)]
      rfl
theorem ent.q_row (n k : Nat) (a : List EnT) (h0 : 0 < a.length) (h : a.length ≤ 15) : pdu_entries.q_at n (15 * k) a = [9, ((16 * min 15 (n - 15 * k) : Nat) : Int)] ++ enBs a := by
  cases a with
  | nil => simp at h0
  | cons x a =>
    rw [List.length_cons] at h
    show (if 15 * k % 15 = 0 then _ else []) ++ pdu_entries.q_e x ++ pdu_entries.q_at n (15 * k + 1) a = _ ++ (enB x ++ enBs a)
    rw [if_pos (by omega), ent.q_e]
    by_cases ha : a = []
    · subst ha
      rfl
    · have : 0 < a.length := List.length_pos_iff.2 ha
      rw [ent.q_rest n a (15 * k + 1) (by omega) (by omega), List.append_assoc]
theorem ent.q_pre (es : List EnT) : ∀ k, k ≤ (es.length + 14) / 15 → Ytocloebloblodaag.F.thsB ((enPre es.length k).map fun x => (9, enBs (enRow es x.1), ())) = pdu_entries.q_at es.length 0 (es.take (15 * k))
  | 0, _ => rfl
  | k + 1, h => by
    have hlt : 15 * k < es.length := by omega
    rw [enPre_succ hlt, List.map_append]
    unfold Ytocloebloblodaag.F.thsB
    rw [List.flatMap_append]
    have ih := ent.q_pre es k (by omega)
    unfold Ytocloebloblodaag.F.thsB at ih
    rw [ih, show 15 * (k + 1) = 15 * k + 15 by omega, List.take_add, ent.q_app, List.length_take, show min (15 * k) es.length = 15 * k by omega, Nat.zero_add]
    congr 1
    have hl := enRow_len (es := es) ⟨k, hlt⟩
    have hl' : (enRow es k).length = min 15 (es.length - 15 * k) := hl
    show (Ytocloebloblodaag.F.thB (9, enBs (enRow es k), ())) ++ [] = pdu_entries.q_at es.length (15 * k) (enRow es k)
    rw [ent.q_row es.length k _ (by omega) (by omega), List.append_nil]
    unfold Ytocloebloblodaag.F.thB
    rw [← hl', ← enBs_len]
theorem ent.q_ths (es : List EnT) : Ytocloebloblodaag.F.thsB (enThs es) = pdu_entries.q_at es.length 0 es := by
  unfold enThs
  rw [ent.q_pre es _ (Nat.le_refl _), List.take_of_length_le (by omega)]
noncomputable def pdu_entries.f (a : dens [.v (.sl 111 (.cons (.int .i64) (.cons (.int .u64) (.cons (.int .u32) (.cons (.int .i64) .nil)))))]) : Option (dens ([.v (.sl 5 (.int .u8)), .v (.int .i64)] ++ backs [.v (.sl 111 (.cons (.int .i64) (.cons (.int .u64) (.cons (.int .u32) (.cons (.int .i64) .nil)))))])) := pdu_entries.q a
noncomputable def pdu_entries.sp : Sp := ⟨[.v (.sl 111 (.cons (.int .i64) (.cons (.int .u64) (.cons (.int .u32) (.cons (.int .i64) .nil)))))], [.v (.sl 5 (.int .u8)), .v (.int .i64)], pdu_entries.f⟩
theorem ent.en_eq {w : World} {ok : Nat → Prop} {x : EnT} {cs : List Value} (h : En w ok (.cons (.int .i64) (.cons (.int .u64) (.cons (.int .u32) (.cons (.int .i64) .nil)))) x cs) : cs = [.int .i64 x.1, .int .u64 x.2.1, .int .u32 x.2.2.1, .int .i64 x.2.2.2.1] := by
  obtain ⟨c1, r1, rfl, h1, c2, r2, rfl, h2, c3, r3, rfl, h3, c4, r4, rfl, h4, h5⟩ := h
  have h1' : c1 = _ := h1
  have h2' : c2 = _ := h2
  have h3' : c3 = _ := h3
  have h4' : c4 = _ := h4
  have h5' : r4 = _ := h5
  subst h1' h2' h3' h4' h5'
  rfl
theorem pdu_entries.sound : Sound Go.Proofs.Try.prog 56 pdu_entries.sp := ⟨ent_of Go.Proofs.Try.func56 (by kernel_rfl) (by kernel_rfl), by
  intro x y hy w vs ok bs hok hargs hnd hdis
  obtain ⟨es, _⟩ := x
  obtain ⟨cs, rest, b1, b2, rfl, rfl, ⟨⟨A, c, rfl, hcap, hel⟩, rfl⟩, rfl, rfl⟩ := hargs
  have hy' : pdu_entries.q (es, ()) = some y := hy
  unfold pdu_entries.q at hy'
  dsimp only at hy'
  split at hy'
  rotate_left
  · cases hy'
  rename_i hl
  obtain ⟨hl, hw⟩ := hl
  have hY : y = enY es := by
    rw [← ent.q_ths] at hy'
    exact (Option.some.inj hy').symm
  subst hY
  clear hy hy'
  have hwf : ∀ x ∈ es, enWf x := by
    intro x hx
    have h := List.all_eq_true.1 hw x hx
    unfold pdu_entries.q_wf at h
    rw [decide_eq_true_eq] at h
    exact h
  obtain ⟨b, o, hA, hE⟩ : ∃ b o, (0 < es.length → A = some ⟨b, o, none⟩) ∧ (0 < es.length → b < w.heap.size ∧ enE w es b o) := by
    by_cases h0 : 0 < es.length
    · obtain ⟨k, o, cs, hA, hk, _⟩ := hel 0 h0
      refine ⟨k, o, fun _ => hA, fun _ => ⟨hok k hk, fun i x hx => ?_⟩⟩
      obtain ⟨hi, rfl⟩ := List.getElem?_eq_some_iff.1 hx
      obtain ⟨k', o', cs, hA', hk', he, hcell⟩ := hel i hi
      rw [hA] at hA'
      cases hA'
      have e := ent.en_eq he
      subst e
      exact ⟨hcell 0 (by simp), hcell 1 (by simp), hcell 2 (by simp), hcell 3 (by simp)⟩
    · exact ⟨0, 0, fun h => absurd h h0, fun h => absurd h h0⟩
  refine Calls.mono (ent.walk w es A c b o hA hE hl hcap hwf) ?_
  rintro e w' ⟨u, rfl, hown, hblk, hbel⟩
  have hr : RowO w' (fun j => w.heap.size ≤ j ∧ j < w'.heap.size) 5 (.int .u8) (enY es).1 u := ⟨_, ent.en _, by rw [ent.flat]; exact hown⟩
  refine ⟨[u, .int .i64 (enY es).2.1], [], fun j => ok j ∨ (w.heap.size ≤ j ∧ j < w'.heap.size), rfl, rfl, ⟨[u], [.int .i64 (enY es).2.1], [], [], rfl, rfl, ⟨?_, rfl⟩, [.int .i64 (enY es).2.1], [], [], [], rfl, rfl, ⟨rfl, rfl⟩, rfl, rfl⟩, List.nodup_nil, fun b hb => (by cases hb), fun k hk => ⟨?_, ?_, fun hb => (by cases hb)⟩, ⟨hbel.os, hbel.tape, hbel.output, hbel.size, fun k hk hno => hbel.block k hk⟩⟩
  · exact hr.en (fun k h => .inr h) fun k hk => .inr ⟨hblk k hk, hr.lt hk⟩
  · rcases hk with h | h
    · exact .inl h
    · exact .inr (.inr h.1)
  · rcases hk with h | h
    · exact Nat.lt_of_lt_of_le (hok k h) hbel.size
    · exact h.2, fun n h => (by
  have h' : (none : Option Nat) = some n := h
  cases h')⟩
end Go.Proofs.Ytocloebloblodaa.F
