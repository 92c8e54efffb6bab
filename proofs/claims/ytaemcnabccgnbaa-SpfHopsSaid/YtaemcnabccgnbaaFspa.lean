/- Graphs: the edges that leave each node, told by hand for the frame; by this project. -/
import Derived.Test.YtaemcnabccgnbaaProg
import Derived.Test.YtaemcnabccgnbaaFrd
import Derived.Tactics
import Derived.Tactics2
import Derived.WalkKit
import Derived.KernelRfl
import Derived.Laws.Slices
import Derived.Laws.Rows
import Derived.WalkSpells
import Derived.RowKit
import Derived.Below
import Derived.Lib.Walk
import Derived.Lib.SliceRun
import Derived.Laws.Externs
import Derived.Laws.NewBlocks
import Derived.Shelf.RegionOpenPlain
import Derived.Lib.AppendZerosOnto
namespace Go.Proofs.Ytaemcnabccgnbaa.F
open Go Go.RowKit Go.Proofs Go.Proofs.Fr
set_option linter.unusedVariables false
set_option linter.unusedSimpArgs false
-- PLAIN spf_Graph_leaving ((Int × List (Int × Int × Int × Unit) × Unit) × Unit)
def spf_Graph_leaving.q (a : (Int × List (Int × Int × Int × Unit) × Unit) × Unit) : Option (List (List Int) × Unit) := if 0 ≤ a.1.1 ∧ a.1.1 ≤ 100000 ∧ a.1.2.1.length ≤ 100000 ∧ (a.1.2.1.all fun x => decide (0 ≤ x.1 ∧ x.1 < a.1.1)) = true then some ((List.range a.1.1.toNat).map fun v : Nat => ((List.range a.1.2.1.length).filter fun i => decide ((a.1.2.1.getD i (0, 0, 0, ())).1 = (v : Int))).map fun i : Nat => (i : Int), ()) else none
-- END
theorem lea_hid {p : Prop} (h : p) : RowKit.Hid p := h
/-- The numbers of the first edges that leave a node. -/
def lvRow (es : List (Int × Int × Int × Unit)) (k v : Nat) : List Int := ((List.range k).filter fun i => decide ((es.getD i (0, 0, 0, ())).1 = (v : Int))).map fun i : Nat => (i : Int)
theorem lvRow_succ (es : List (Int × Int × Int × Unit)) (k v : Nat) : lvRow es (k + 1) v = lvRow es k v ++ if (es.getD k (0, 0, 0, ())).1 = (v : Int) then [(k : Int)] else [] := by
  unfold lvRow
  rw [List.range_succ, List.filter_append, List.map_append]
  congr 1
  rw [List.filter_cons, List.filter_nil]
  by_cases h : (es.getD k (0, 0, 0, ())).1 = (v : Int)
  · rw [if_pos h, if_pos (decide_eq_true h)]; rfl
  · rw [if_neg h, if_neg (by rw [decide_eq_false h]; exact Bool.false_ne_true)]; rfl
theorem lvRow_len (es : List (Int × Int × Int × Unit)) (k v : Nat) : (lvRow es k v).length ≤ k := by
  unfold lvRow
  rw [List.length_map]
  exact Nat.le_trans (List.length_filter_le _ _) (by simp)
/-- What stands in memory ahead of round k. -/
def LvI (w : World) (N : Nat) (es : List (Int × Int × Int × Unit)) (k : Nat) (wr : World) : Prop :=
  BelowO (fun j => w.heap.size ≤ j) w wr ∧ w.heap.size + 2 ≤ wr.heap.size ∧ ∃ outc : List Value, wr.heap[w.heap.size + 1]? = some (.cells outc.toArray 26 (0, 0)) ∧ outc.length = N ∧
    (∀ (v : Nat) u, outc[v]? = some u → ownsR wr 3 1 u (lvRow es k v).length ((lvRow es k v).map (Value.int .i64)) ∧ ∀ b, blkOf u = some b → w.heap.size + 1 < b) ∧
    ∀ (v v' : Nat) u u' b, outc[v]? = some u → outc[v']? = some u' → blkOf u = some b → blkOf u' = some b → v = v'
/-- An edge's cells. -/
def lvE (w : World) (es : List (Int × Int × Int × Unit)) (A : Option Addr) : Prop :=
  ∀ (i : Nat) x, es[i]? = some x → ∃ b o, A = some ⟨b, o, none⟩ ∧ b < w.heap.size ∧ w.cell? ⟨b, o + i * 3, none⟩ = some (.int .i64 x.1) ∧ w.cell? ⟨b, o + i * 3 + 1, none⟩ = some (.int .i64 x.2.1) ∧ w.cell? ⟨b, o + i * 3 + 2, none⟩ = some (.int .i64 x.2.2.1)
theorem lea.mk (N : Nat) (hN : N ≤ 100000) (W : World) : (Instr.makeSlice 33 (.int .i64 (N : Int)) (.int .i64 (N : Int))).run Go.Proofs.Try.prog W = .ok (.slice (some ⟨W.heap.size, 0, none⟩) N N) (W.alloc (.cells (madeCells (Value.slice none 0 0).cells N) 26)) := by
  obtain ⟨it, h1, h2, h3, h4⟩ : ∃ it, Go.Proofs.Try.prog.info? 26 = some it ∧ it.zero = some (.slice none 0 0) ∧ it.size = 1 ∧ it.bytes = 24 := by
    have h : (Go.Proofs.Try.prog.info? 26).map (fun i => (i.zero, i.size, i.bytes)) = some (some (.slice none 0 0), 1, 24) := by kernel_rfl
    cases hi : Go.Proofs.Try.prog.info? 26 with
    | none => rw [hi] at h; cases h
    | some it => rw [hi] at h; simp only [Option.map_some, Option.some.injEq, Prod.mk.injEq] at h; exact ⟨it, rfl, h.1, h.2.1, h.2.2⟩
  have := run_make (P := Go.Proofs.Try.prog) W 33 26 it (.slice none 0 0) Go.Proofs.Try.underlying33 h1 h2 .i64 .i64 N N (by omega) (Int.le_refl _) (by rw [h4]; omega) (by omega)
  simp only [Int.toNat_natCast, h3, Nat.mul_one] at this
  exact this
theorem lea.mixed : Go.Proofs.Try.prog.follows .mixedOrders = true := by kernel_rfl
theorem lea.flat (xs : List Int) : (xs.map fun x => [Value.int .i64 x]).flatten = xs.map (.int .i64) := by
  induction xs with
  | nil => rfl
  | cons x xs ih => rw [List.map_cons, List.flatten_cons, ih]; rfl
theorem lea.en {w : World} {ok : Nat → Prop} : ∀ (xs : List Int), All2 (En w ok (.int .i64)) xs (xs.map fun x => [Value.int .i64 x])
  | [] => trivial
  | x :: xs => ⟨rfl, lea.en xs⟩
theorem lea.own_mono {w w' : World} {n : Nat} {xs : List Value} {u : Value} (h : ownsR w 3 1 u n xs) (hb : ∀ b, blkOf u = some b → w'.heap[b]? = w.heap[b]?) : ownsR w' 3 1 u n xs := by
  refine ⟨h.1, ?_⟩
  rcases h.2 with h2 | ⟨q, o, cap, cur, rfl, h0, hh, r⟩
  · exact .inl h2
  · exact .inr ⟨q, o, cap, cur, rfl, h0, (hb q rfl).trans hh, r⟩
theorem lea.own_lt {w : World} {n : Nat} {xs : List Value} {u : Value} (h : ownsR w 3 1 u n xs) {b : Nat} (hb : blkOf u = some b) : b < w.heap.size := by
  rcases h.2 with ⟨rfl, _⟩ | ⟨q, o, cap, cur, rfl, h0, hh, r⟩
  · cases hb
  · simp only [blkOf, Option.some.injEq] at hb
    subst hb
    exact (Array.getElem?_eq_some_iff.1 hh).1
theorem lea.own_np {w : World} {n : Nat} {xs : List Value} {u : Value} (h : ownsR w 3 1 u n xs) : u.ownBlock = blkOf u := by
  refine blk_own u fun p e => ?_
  rcases h.2 with ⟨h, _⟩ | ⟨q, o, cap, cur, h, _⟩ <;> rw [h] at e <;> cases e
theorem lea.step {P : Program} {ops : Array Oper} {o : Oper} {a : Act} {w : World} {K : Act → World → Prop} {Q : Exit → Act → World → Prop} {E : Prop}
    (hg : o.guard = none) (d x : Operand) (dT sT : TypeId) (hop : o.op = Op.call { callee := Callee.builtin Builtin.append, args := #[d, x], argTypes := #[dT, sT] })
    (v u : Value) (hd : a.eval d = v) (hx : a.eval x = u) (hK : ∃ v' w', (Builtin.append_ #[dT, sT] o.type #[v, u]).run P w = .ok v' w' ∧ K (a.put o.dst v') w') :
    if Region.wanted o (yielded ops a.tmps) = true then Oper.wp P o a w K Q else E := by
  have hw : Region.wanted o (yielded ops a.tmps) = true := by simp [Region.wanted, hg]
  rw [if_pos hw]
  obtain ⟨v', w', hr, hk⟩ := hK
  unfold Oper.wp
  simp [execOp, hop, resolve, invoke, builtin, hd, hx, hr, Result.andThen]
  exact hk
theorem lea.comb {R Z K : Value → World → Prop} (h : ∃ v' w', R v' w' ∧ Z v' w') (hk : ∀ v' w', Z v' w' → K v' w') : ∃ v' w', R v' w' ∧ K v' w' := by
  obtain ⟨v', w', h1, h2⟩ := h
  exact ⟨v', w', h1, hk v' w' h2⟩
theorem lea.old {w : World} (o : Obj) {a : Addr} {u : Value} (h : w.cell? a = some u) : (w.alloc o).drew.cell? a = some u := by
  have hlt := World.block_lt_of_cell? w a h
  rw [← h]
  exact World.cell?_of_block (heap_alloc_old w o hlt)
theorem lea.box {w' : World} {q : Nat} {a b c : Value} {T : TypeId} (h : w'.heap[q]? = some (.cells #[a, b, c] T (0, 0))) : w'.cell? ⟨q, 0, none⟩ = some a := by
  unfold World.cell?
  simp [h]
/-- One round's append. -/
theorem lea.app {w wr : World} {N n k f : Nat} {es : List (Int × Int × Int × Unit)} {x2 x3 : Int} (hn : n ≤ 100000) (hk : k < n) (hx : es[k]? = some ((f : Int), x2, x3, ())) (hf : f < N) (hI : LvI w N es k wr) :
    ∃ u, wr.cell? ⟨w.heap.size + 1, f, none⟩ = some u ∧ wr.frozen? ⟨w.heap.size + 1, f, none⟩ = false ∧
      ∀ (o1 : Obj) (W : World), W.heap = (wr.heap.push o1).push (.cells #[.int .i64 k] 3 (0, 0)) → W.os = wr.os → W.tape = wr.tape → W.output = wr.output → ∀ ty,
        ∃ v' w', (Builtin.append_ #[26, 26] ty #[u, .slice (some ⟨wr.heap.size + 1, 0, none⟩) 1 1]).run Go.Proofs.Try.prog W = .ok v' w' ∧
          w'.heap[wr.heap.size]? = some o1 ∧ w'.cell? ⟨w.heap.size + 1, f, none⟩ = some u ∧ w'.frozen? ⟨w.heap.size + 1, f, none⟩ = false ∧ LvI w N es (k + 1) (w'.setCell ⟨w.heap.size + 1, f, none⟩ v') := by
  obtain ⟨hbel, hsz, outc, hout, hlen, hrows, hdis⟩ := hI
  have hfl : f < outc.length := by omega
  obtain ⟨u, hu⟩ : ∃ u, outc[f]? = some u := ⟨_, List.getElem?_eq_getElem hfl⟩
  have hcell : ∀ W : World, W.heap[w.heap.size + 1]? = some (.cells outc.toArray 26 (0, 0)) → W.cell? ⟨w.heap.size + 1, f, none⟩ = some u ∧ W.frozen? ⟨w.heap.size + 1, f, none⟩ = false := by
    intro W hW
    refine ⟨?_, ?_⟩
    · unfold World.cell?
      simp only [hW]
      simpa using hu
    · unfold World.frozen?
      simp [hW]
  refine ⟨u, (hcell wr hout).1, (hcell wr hout).2, fun o1 W hW q1 q2 q3 ty => ?_⟩
  obtain ⟨hown, hblk⟩ := hrows f u hu
  have hWs : W.heap.size = wr.heap.size + 2 := by rw [hW]; simp
  have hWat : ∀ j, j < wr.heap.size → W.heap[j]? = wr.heap[j]? := fun j hj => by
    rw [hW, Array.getElem?_push, if_neg (by simp; omega), Array.getElem?_push, if_neg (by omega)]
  have hW1 : W.heap[wr.heap.size]? = some o1 := by
    rw [hW, Array.getElem?_push, if_neg (by simp), Array.getElem?_push, if_pos rfl]
  have hW2 : W.heap[wr.heap.size + 1]? = some (.cells #[.int .i64 k] 3 (0, 0)) := by
    rw [hW, Array.getElem?_push, if_pos (by simp)]
  have hownW : ownsR W 3 1 u (lvRow es k f).length ((lvRow es k f).map (Value.int .i64)) := lea.own_mono hown fun b hb => hWat b (lea.own_lt hown hb)
  obtain ⟨ti, hti, t1, t2, t3⟩ : ∃ ti, tinfo Go.Proofs.Try.prog 3 = some ti ∧ ti.size = 1 ∧ ti.bytes = 8 ∧ ti.zero.cells.size = 1 := by
    have h : (tinfo Go.Proofs.Try.prog 3).map (fun ti => (decide (ti.size = 1), decide (ti.bytes = 8), decide (ti.zero.cells.size = 1))) = some (true, true, true) := by kernel_rfl
    cases ht : tinfo Go.Proofs.Try.prog 3 with
    | none => rw [ht] at h; cases h
    | some ti =>
      rw [ht] at h
      simp only [Option.map_some, Option.some.injEq, Prod.mk.injEq, decide_eq_true_eq] at h
      exact ⟨ti, rfl, h.1, h.2.1, h.2.2⟩
  have hll := lvRow_len es k f
  have hsrc : SrcR W (fun _ => True) (.int .i64) [(k : Int)] (.slice (some ⟨wr.heap.size + 1, 0, none⟩) 1 1) := by
    refine ⟨_, _, [[.int .i64 k]], rfl, ⟨rfl, trivial⟩, fun j v hj => ⟨_, rfl, ?_⟩⟩
    cases j with
    | zero =>
      simp at hj
      subst hj
      unfold World.cell?
      simp [Addr.add, hW2]
    | succ j => simp at hj
  obtain ⟨v', w', csy, hrun, hcy, hown', hgrow, hat⟩ := app_core (P := Go.Proofs.Try.prog) (T := 26) (e := 3) (t := .int .i64) (ok := fun _ => True) Go.Proofs.Try.underlying26 hti t1 (by decide) (by omega) (by rw [t3, t1]) (xs := lvRow es k f) (ys := [(k : Int)]) (css := (lvRow es k f).map fun x => [Value.int .i64 x]) (by rw [lea.flat]; exact hownW) hsrc (by
    rw [t2]
    simp only [List.length_cons, List.length_nil]
    unfold maxBytes
    omega) ty
  have hcy' : csy.flatten = [.int .i64 k] := by
    cases csy with
    | nil => exact hcy.elim
    | cons c r =>
      have e : c = [.int .i64 k] := hcy.1
      cases r with
      | nil => rw [e]; rfl
      | cons _ _ => exact hcy.2.elim
  rw [lea.flat, hcy'] at hown'
  have hub : u.ownBlock = blkOf u := lea.own_np hown
  have hvb : v'.ownBlock = blkOf v' := lea.own_np hown'
  rw [hub] at hgrow hat
  rw [hvb] at hat
  have hnb : ∀ b, blkOf u = some b → w.heap.size + 1 < b ∧ b < wr.heap.size := fun b hb => ⟨hblk b hb, lea.own_lt hown hb⟩
  have hg : ∀ j, j < wr.heap.size + 2 → blkOf u ≠ some j → w'.heap[j]? = W.heap[j]? := fun j hj hne => hgrow.block j (by omega) fun e => hne e.symm
  have hout' : w'.heap[w.heap.size + 1]? = some (.cells outc.toArray 26 (0, 0)) := by
    rw [hg _ (by omega) (fun e => by have := hnb _ e; omega), hWat _ (by omega)]
    exact hout
  have hat' : ∀ b, blkOf v' = some b → (blkOf u = some b ∨ b = wr.heap.size + 2) := by
    intro b hb
    rcases hat with h | h
    · left; rw [← h]; exact hb
    · right
      rw [hb] at h
      have := Option.some.inj h
      omega
  refine ⟨v', w', hrun, ?_, (hcell w' hout').1, (hcell w' hout').2, ?_⟩
  · rw [hg _ (by omega) (fun e => by have := hnb _ e; omega), hW1]
  · have hset : (w'.setCell ⟨w.heap.size + 1, f, none⟩ v').heap = w'.heap.setIfInBounds (w.heap.size + 1) (.cells (outc.set f v').toArray 26 (0, 0)) := by
      apply Array.ext_getElem?
      intro j
      unfold World.setCell
      rw [Array.getElem?_modify, Array.getElem?_setIfInBounds]
      by_cases hj : w.heap.size + 1 = j
      · subst hj
        have hlt : w.heap.size + 1 < w'.heap.size := (Array.getElem?_eq_some_iff.1 hout').1
        rw [if_pos rfl, if_pos rfl, if_pos hlt, hout']
        simp
      · rw [if_neg hj, if_neg hj]
    have hlt1 : w.heap.size + 1 < w'.heap.size := (Array.getElem?_eq_some_iff.1 hout').1
    have hs1 : (w'.setCell ⟨w.heap.size + 1, f, none⟩ v').heap[w.heap.size + 1]? = some (.cells (outc.set f v').toArray 26 (0, 0)) := by
      rw [hset]; simp [hlt1]
    have hs2 : ∀ j, j ≠ w.heap.size + 1 → (w'.setCell ⟨w.heap.size + 1, f, none⟩ v').heap[j]? = w'.heap[j]? := fun j hj => by
      rw [hset, Array.getElem?_setIfInBounds_ne (fun e => hj e.symm)]
    have hs3 : (w'.setCell ⟨w.heap.size + 1, f, none⟩ v').heap.size = w'.heap.size := by rw [hset]; simp
    have hown1 : ∀ b, blkOf v' = some b → w.heap.size + 1 < b := fun b hb => by
      rcases hat' b hb with h | h
      · exact (hnb b h).1
      · omega
    have hold : ∀ v u', v ≠ f → outc[v]? = some u' → ∀ b, blkOf u' = some b → blkOf v' ≠ some b := by
      intro v u' hv hu' b hb e
      rcases hat' b e with h | h
      · exact hv (hdis v f u' u b hu' hu hb h)
      · have := lea.own_lt (hrows v u' hu').1 hb
        omega
    refine ⟨⟨?_, ?_, ?_, ?_, ?_⟩, ?_, outc.set f v', hs1, by rw [List.length_set]; exact hlen, ?_, ?_⟩
    · exact hgrow.os.trans (q1.trans hbel.os)
    · exact hgrow.tape.trans (q2.trans hbel.tape)
    · exact hgrow.output.trans (q3.trans hbel.output)
    · rw [hs3]; have := hgrow.size; omega
    · intro j hj hno
      rw [hs2 j (by omega), hg j (by omega) (fun e => by have := hnb _ e; omega), hWat j (by omega)]
      exact hbel.block j hj hno
    · rw [hs3]; have := hgrow.size; omega
    · intro v u' hu'
      rw [List.getElem?_set] at hu'
      by_cases e : f = v
      · subst e
        rw [if_pos rfl, if_pos hfl] at hu'
        cases hu'
        refine ⟨?_, hown1⟩
        refine lea.own_mono (w := w') ?_ fun b hb => hs2 b (by have := hown1 b hb; omega)
        rw [lvRow_succ, List.getD_eq_getElem?_getD, hx]
        simp only [Option.getD_some, if_true, List.length_append, List.length_cons, List.length_nil, List.map_append, List.map_cons, List.map_nil] at hown' ⊢
        exact hown'
      · rw [if_neg e] at hu'
        have hne' : v ≠ f := fun h => e h.symm
        obtain ⟨r1, r2⟩ := hrows v u' hu'
        refine ⟨?_, r2⟩
        rw [lvRow_succ, List.getD_eq_getElem?_getD, hx]
        simp only [Option.getD_some]
        rw [if_neg (by omega), List.append_nil]
        refine lea.own_mono r1 fun b hb => ?_
        have hb1 := r2 b hb
        have hb2 := lea.own_lt r1 hb
        rw [hs2 b (by omega), hg b (by omega) (fun e => hne' (hdis v f u' u b hu' hu hb e)), hWat b hb2]
    · intro v v2 u1 u2 b h1 h2 hb1 hb2
      rw [List.getElem?_set] at h1 h2
      by_cases e1 : f = v
      · by_cases e2 : f = v2
        · exact e1.symm.trans e2
        · rw [if_neg e2] at h2
          rw [if_pos e1, if_pos (e1 ▸ hfl)] at h1
          cases h1
          exact absurd hb1 (hold v2 u2 (fun e => e2 e.symm) h2 b hb2)
      · rw [if_neg e1] at h1
        by_cases e2 : f = v2
        · rw [if_pos e2, if_pos (e2 ▸ hfl)] at h2
          cases h2
          exact absurd hb2 (hold v u1 (fun e => e1 e.symm) h1 b hb1)
        · rw [if_neg e2] at h2
          exact hdis v v2 u1 u2 b h1 h2 hb1 hb2
theorem lea.start (w : World) (N : Nat) (es : List (Int × Int × Int × Unit)) (o : Obj) : LvI w N es 0 ((w.alloc o).alloc (.cells (madeCells (Value.slice none 0 0).cells N) 26)) := by
  have hat : ∀ j, j < w.heap.size + 1 → ((w.alloc o).alloc (.cells (madeCells (Value.slice none 0 0).cells N) 26)).heap[j]? = (w.alloc o).heap[j]? := fun j hj => heap_alloc_old _ _ (by simpa using hj)
  have hz : (madeCells (Value.slice none 0 0).cells N).toList = List.replicate N (.slice none 0 0) := by
    apply List.ext_getElem?
    intro i
    simp only [madeCells, Array.toList_map, Array.toList_range, List.getElem?_map]
    by_cases hi : i < N
    · rw [List.getElem?_range hi, List.getElem?_replicate, if_pos hi]
      simp [Value.cells, Nat.mod_one]
    · rw [List.getElem?_eq_none (by simpa using hi), List.getElem?_eq_none (by simpa using hi)]
      rfl
  have hsl : ∀ (v : Nat) u, (List.replicate N (Value.slice none 0 0))[v]? = some u → u = .slice none 0 0 := by
    intro v u hu
    rw [List.getElem?_replicate] at hu
    split at hu
    · exact (Option.some.inj hu).symm
    · cases hu
  refine ⟨⟨rfl, rfl, rfl, ?_, fun j hj _ => ?_⟩, ?_, List.replicate N (.slice none 0 0), ?_, List.length_replicate, fun v u hu => ?_, fun v v' u u' b h1 h2 hb _ => ?_⟩
  · simp; omega
  · rw [hat j (by omega), heap_alloc_old w o hj]
  · simp
  · have h1 : (w.alloc o).heap.size = w.heap.size + 1 := by simp
    rw [← h1, heap_alloc_new, ← hz]
  · rw [hsl v u hu]
    exact ⟨ownsR_nil _ _ _, fun b hb => by cases hb⟩
  · rw [hsl v u h1] at hb
    cases hb
theorem lea.step2 {w0 wr : World} {N k f : Nat} {es : List (Int × Int × Int × Unit)} {u : Value} {ops : Array Oper} {o : Oper} {a : Act} {w : World} {K : Act → World → Prop} {Q : Exit → Act → World → Prop} {E : Prop}
    (hg : o.guard = none) (d x : Operand) (hop : o.op = Op.call { callee := Callee.builtin Builtin.append, args := #[d, x], argTypes := #[26, 26] })
    (happ : ∀ (o1 : Obj) (W : World), W.heap = (wr.heap.push o1).push (.cells #[.int .i64 k] 3 (0, 0)) → W.os = wr.os → W.tape = wr.tape → W.output = wr.output → ∀ ty,
        ∃ v' w', (Builtin.append_ #[26, 26] ty #[u, .slice (some ⟨wr.heap.size + 1, 0, none⟩) 1 1]).run Go.Proofs.Try.prog W = .ok v' w' ∧
          w'.heap[wr.heap.size]? = some o1 ∧ w'.cell? ⟨w0.heap.size + 1, f, none⟩ = some u ∧ w'.frozen? ⟨w0.heap.size + 1, f, none⟩ = false ∧ LvI w0 N es (k + 1) (w'.setCell ⟨w0.heap.size + 1, f, none⟩ v'))
    (hd : a.eval d = u) (hx : a.eval x = .slice (some ⟨wr.heap.size + 1, 0, none⟩) 1 1) (o1 : Obj) (h1 : w.heap = (wr.heap.push o1).push (.cells #[.int .i64 k] 3 (0, 0))) (h2 : w.os = wr.os) (h3 : w.tape = wr.tape) (h4 : w.output = wr.output)
    (hK : ∀ A m c w', w'.heap[wr.heap.size]? = some o1 → w'.cell? ⟨w0.heap.size + 1, f, none⟩ = some u → w'.frozen? ⟨w0.heap.size + 1, f, none⟩ = false → RowKit.Hid (LvI w0 N es (k + 1) (w'.setCell ⟨w0.heap.size + 1, f, none⟩ (.slice A m c))) → K (a.put o.dst (.slice A m c)) w') :
    if Region.wanted o (yielded ops a.tmps) = true then Oper.wp Go.Proofs.Try.prog o a w K Q else E := by
  refine lea.step hg d x _ _ hop _ _ hd hx ?_
  obtain ⟨v', w', hr, z1, z2, z3, z4⟩ := happ o1 w h1 h2 h3 h4 o.type
  have hv : ∃ A m c, v' = .slice A m c := by
    obtain ⟨_, _, outc, hout, _, hrows, _⟩ := z4
    have hlt : w0.heap.size + 1 < w'.heap.size := by
      rcases Nat.lt_or_ge (w0.heap.size + 1) w'.heap.size with h | h
      · exact h
      · unfold World.cell? at z2
        rw [Array.getElem?_eq_none (by simpa using h)] at z2
        cases z2
    have hc : outc[f]? = some v' := by
      unfold World.setCell at hout
      rw [Array.getElem?_modify, if_pos rfl] at hout
      unfold World.cell? at z2
      cases hh : w'.heap[w0.heap.size + 1]? with
      | none => rw [hh] at z2; cases z2
      | some ob =>
        rw [hh] at z2 hout
        cases ob with
        | cells c e fz =>
          simp only [Option.map_some, Option.isSome_none, Bool.false_eq_true, if_false, Option.some.injEq, Obj.cells.injEq] at hout z2
          have hfc : f < c.size := (Array.getElem?_eq_some_iff.1 z2).1
          have h3 : (c.setIfInBounds f v')[f]? = some v' := by simp [hfc]
          rw [hout.1] at h3
          simpa using h3
        | _ => simp at z2
    obtain ⟨ho, _⟩ := hrows f v' hc
    rcases ho.2 with ⟨h, _⟩ | ⟨q, o, cap, cur, h, _⟩
    · exact ⟨_, _, _, h⟩
    · exact ⟨_, _, _, h⟩
  obtain ⟨A, m, c, rfl⟩ := hv
  exact ⟨_, w', hr, hK A m c w' z1 z2 z3 (lea_hid z4)⟩
set_option maxHeartbeats 4000000 in
set_option maxRecDepth 100000 in
theorem lea.walk (w : World) (N : Nat) (es : List (Int × Int × Int × Unit)) (A : Option Addr) (c : Nat) (hN : N ≤ 100000) (hes : es.length ≤ 100000) (hA : lvE w es A) (hall : ∀ x ∈ es, 0 ≤ x.1 ∧ x.1 < (N : Int)) :
    Calls Go.Proofs.Try.prog 28 #[.agg #[.int .i64 N, .slice A es.length c]] w fun e w' => e = .returned (.slice (some ⟨w.heap.size + 1, 0, none⟩) N N) ∧ LvI w N es es.length w' := by
  have mixed := lea.mixed
  obtain ⟨n, hn⟩ : ∃ n, n = es.length := ⟨_, rfl⟩
  rw [← hn]
  have hnb : n ≤ 100000 := by omega
  have HN := lea_hid hn
  have hmk : ∀ W : World, (Instr.makeSlice 33 (.int .i64 (N : Int)) (.int .i64 (N : Int))).run Go.Proofs.Try.prog W = .ok (.slice (some ⟨W.heap.size, 0, none⟩) N N) (W.alloc (.cells (madeCells (Value.slice none 0 0).cells N) 26)) := lea.mk N hN
  clear hn
  go_enter Go.Proofs.Try.func28, Go.Proofs.Try.ntmps28
  go_wp2
  go_loopw [12] (fun i wr => ∃ k : Nat, k ≤ n ∧ i = .int .i64 k ∧ LvI w N es k wr) (fun i _ => n - (intOf i).toNat)
  case atStart =>
    exact ⟨0, Nat.zero_le _, rfl, lea.start w N es _⟩
  case round =>
    obtain ⟨k, hk, rfl, hI⟩ := hrel
    by_cases hlt : k < n
    · obtain ⟨x, hx⟩ : ∃ x, es[k]? = some x := ⟨es[k]'(by have := HN.out; omega), List.getElem?_eq_getElem _⟩
      obtain ⟨x1, x2, x3, _⟩ := x
      obtain ⟨b, o, e', hb, c1, c2, c3⟩ := hA k _ hx
      subst e'
      obtain ⟨y1, y2⟩ := hall _ (List.mem_of_getElem? hx)
      simp only at y1 y2 c1 c2 c3
      obtain ⟨f, rfl⟩ : ∃ f : Nat, x1 = (f : Int) := Int.eq_ofNat_of_zero_le y1
      have hf : f < N := by omega
      have hsame : ∀ off, wr.cell? ⟨b, off, none⟩ = w.cell? ⟨b, off, none⟩ := fun off => cell_same (hI.1.block b hb (by omega))
      have d1 := (hsame _).trans c1
      have d2 := (hsame _).trans c2
      have d3 := (hsame _).trans c3
      obtain ⟨u, hu1, hu2, happ⟩ := lea.app hnb hlt hx hf hI
      clear hsame c1 c2 c3 hx y1 y2 hall hA hI HN hmk
      go_wp2
      have e1 : (wr.alloc (.cells #[.int .i64 (f : Int), .int .i64 x2, .int .i64 x3] 44)).drew.cell? ⟨w.heap.size + 1, f, none⟩ = some u := lea.old _ hu1
      have e2 : ((wr.alloc (.cells #[.int .i64 (f : Int), .int .i64 x2, .int .i64 x3] 44)).alloc (.cells #[.int .i64 (k : Int)] 3)).cell? ⟨w.heap.size + 1, f, none⟩ = some u := lea.old _ (lea.old _ hu1)
      go_region_law_o (refine lea.step2 rfl (.tmp 24) (.tmp 26) rfl happ (by simp [Act.eval, Act.put]) (by simp [Act.eval, Act.put]) (.cells #[.int .i64 (f : Int), .int .i64 x2, .int .i64 x3] 44 (0, 0)) rfl rfl rfl rfl ?_; intro A' m' c' w' z1 z2 z3 z4; replace z1 := lea.box z1)
      all_goals (clear happ e1 e2 hu1 hu2 d1 d2 d3 z1 z2 z3; go_wp2; refine ⟨by (first | exact ⟨k + 1, by omega, by go_num, z4.out⟩ | exact ⟨_, _, _, _, _, _, _, _, _, _, _, _, _, _, _, _, _, _, _, _, ⟨k + 1, by omega, by go_num, z4.out⟩, rfl⟩), by (simp [intOf]; omega)⟩)
    · have e : k = n := by omega
      subst e
      replace hI := lea_hid hI
      clear hmk hall hA HN
      go_wp2
      go_ret
      exact ⟨rfl, hI.out⟩
noncomputable def spf_Graph_leaving.f (a : dens [.v ((.cons (.int .i64) (.cons (.sl 44 (.cons (.int .i64) (.cons (.int .i64) (.cons (.int .i64) .nil)))) .nil)))]) : Option (dens [.v ((.sl 26 (.sl 3 (.int .i64))))]) := spf_Graph_leaving.q a
noncomputable def spf_Graph_leaving.sp : Sp := ⟨[.v ((.cons (.int .i64) (.cons (.sl 44 (.cons (.int .i64) (.cons (.int .i64) (.cons (.int .i64) .nil)))) .nil)))], [.v ((.sl 26 (.sl 3 (.int .i64))))], spf_Graph_leaving.f⟩
theorem lea.en_row {w : World} {ok : Nat → Prop} {xs : List Int} {u : Value} (h : ownsR w 3 1 u xs.length (xs.map (Value.int .i64))) (hok : ∀ b, blkOf u = some b → ok b) : En w ok (.sl 3 (.int .i64)) xs [u] := by
  rcases h.2 with ⟨rfl, h0⟩ | ⟨q, o, cap, cur, rfl, _, hh, hn, hc, hroom, htk⟩
  · have : xs = [] := List.eq_nil_of_length_eq_zero h0
    subst this
    exact ⟨none, 0, rfl, Nat.le_refl _, fun i hi => absurd hi (Nat.not_lt_zero _)⟩
  · refine ⟨_, cap, rfl, hn, fun i hi => ⟨q, o, [.int .i64 xs[i]], rfl, hok q rfl, rfl, fun j hj => ?_⟩⟩
    have hi' : i < List.length (α := Int) xs := hi
    have hj0 : j = 0 := by simpa using hj
    subst hj0
    have h1 : ((cur.toList.drop o).take (xs.length * 1))[i]? = (xs.map (Value.int .i64))[i]? := by rw [htk]
    rw [Nat.mul_one, List.getElem?_take_of_lt hi', List.getElem?_drop, List.getElem?_map, List.getElem?_eq_getElem hi', Array.getElem?_toList] at h1
    unfold World.cell?
    simp only [hh]
    simpa [Ty.sz] using h1
theorem spf_Graph_leaving.sound : Sound Go.Proofs.Try.prog 28 spf_Graph_leaving.sp := ⟨ent_of Go.Proofs.Try.func28 (by kernel_rfl) (by kernel_rfl), by
  intro x y hy w vs ok bs hok hargs hnd hdis
  obtain ⟨⟨N, es, _⟩, _⟩ := x
  obtain ⟨cs, rest, b1, b2, rfl, rfl, ⟨hen, rfl⟩, rfl, rfl⟩ := hargs
  obtain ⟨c1, c2, rfl, hc1, c3, c4, rfl, ⟨A, c, rfl, hcap, hel⟩, hc4⟩ := hen
  have hc1' : c1 = [.int .i64 N] := hc1
  have hc4' : c4 = [] := hc4
  subst hc1' hc4'
  have hy' : spf_Graph_leaving.q ((N, es, ()), ()) = some y := hy
  unfold spf_Graph_leaving.q at hy'
  dsimp only at hy'
  split at hy'
  rotate_left
  · cases hy'
  rename_i hc
  cases hy'
  obtain ⟨hN0, hN1, hl, hall⟩ := hc
  obtain ⟨n, rfl⟩ : ∃ n : Nat, N = (n : Int) := Int.eq_ofNat_of_zero_le hN0
  have hE : lvE w es A := by
    intro i x hx
    obtain ⟨hi, rfl⟩ := List.getElem?_eq_some_iff.1 hx
    obtain ⟨k, o, cs, hA, hk, he, hcell⟩ := hel i hi
    obtain ⟨d1, d2, rfl, e1, d3, d4, rfl, e2, d5, d6, rfl, e3, e4⟩ := he
    have e1' : d1 = [.int .i64 es[i].1] := e1
    have e2' : d3 = [.int .i64 es[i].2.1] := e2
    have e3' : d5 = [.int .i64 es[i].2.2.1] := e3
    have e4' : d6 = [] := e4
    subst e1' e2' e3' e4'
    exact ⟨k, o, hA, hok k hk, hcell 0 (by simp), hcell 1 (by simp), hcell 2 (by simp)⟩
  have hall' : ∀ x ∈ es, 0 ≤ x.1 ∧ x.1 < (n : Int) := fun x hx => of_decide_eq_true (List.all_eq_true.1 hall x hx)
  have key := lea.walk w n es A c (by omega) hl hE hall'
  refine Calls.mono key ?_
  rintro e w' ⟨rfl, hbel, hsz, outc, hout, hlen, hrows, _⟩
  have hlist : ∀ (i : Nat) (hi : i < outc.length), ownsR w' 3 1 outc[i] (lvRow es es.length i).length ((lvRow es es.length i).map (Value.int .i64)) ∧ ∀ b, blkOf outc[i] = some b → w.heap.size + 1 < b := fun i hi => hrows i _ (List.getElem?_eq_getElem hi)
  refine ⟨[.slice (some ⟨w.heap.size + 1, 0, none⟩) n n], [], fun j => ok j ∨ (w.heap.size ≤ j ∧ j < w'.heap.size), rfl, rfl, ⟨[.slice (some ⟨w.heap.size + 1, 0, none⟩) n n], [], [], [], rfl, rfl, ⟨?_, rfl⟩, rfl, rfl⟩, List.nodup_nil, fun b hb => (by cases hb), fun k hk => ⟨?_, ?_, fun hb => (by cases hb)⟩, ⟨hbel.os, hbel.tape, hbel.output, hbel.size, fun k hk hno => hbel.block k hk fun h => hno (.inr h)⟩⟩
  · have hll : ((List.range ((n : Int)).toNat).map fun v : Nat => lvRow es es.length v).length = n := by simp
    refine ⟨some ⟨w.heap.size + 1, 0, none⟩, n, ?_, ?_, fun i hi => ?_⟩
    · show _ = [Value.slice _ ((List.range ((n : Int)).toNat).map fun v : Nat => lvRow es es.length v).length n]
      rw [hll]
    · show ((List.range ((n : Int)).toNat).map fun v : Nat => lvRow es es.length v).length ≤ n
      rw [hll]
      exact Nat.le_refl _
    · have hi' : i < ((List.range ((n : Int)).toNat).map fun v : Nat => lvRow es es.length v).length := hi
      have hi2 : i < outc.length := by omega
      refine ⟨w.heap.size + 1, 0, [outc[i]], rfl, .inr ⟨by omega, by omega⟩, ?_, fun j hj => ?_⟩
      · have e : ((List.range ((n : Int)).toNat).map fun v : Nat => lvRow es es.length v)[i]'hi' = lvRow es es.length i := by simp
        show En w' _ (.sl 3 (.int .i64)) (((List.range ((n : Int)).toNat).map fun v : Nat => lvRow es es.length v)[i]'hi') [outc[i]]
        rw [e]
        exact lea.en_row (hlist i hi2).1 fun b hb => .inr ⟨by have := (hlist i hi2).2 b hb; omega, lea.own_lt (hlist i hi2).1 hb⟩
      · have hj0 : j = 0 := by simpa using hj
        subst hj0
        unfold World.cell?
        simp [hout, Ty.sz, hi2]
  · rcases hk with h | h
    · exact .inl h
    · exact .inr (.inr h.1)
  · rcases hk with h | h
    · exact Nat.lt_of_lt_of_le (hok k h) hbel.size
    · exact h.2, fun n h => (by
  have h' : (none : Option Nat) = some n := h
  cases h')⟩
end Go.Proofs.Ytaemcnabccgnbaa.F
